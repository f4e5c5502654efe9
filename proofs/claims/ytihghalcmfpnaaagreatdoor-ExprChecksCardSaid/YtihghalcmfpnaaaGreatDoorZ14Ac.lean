/- Texts of the proof, one behind the other. No statement is proved here. -/
import Derived.Lib.OthersKept
import Derived.Defers
import Derived.Lib.MapLaws
import Derived.Lib.ValidLaws
import Derived.Test.YtihghalcmfpnaaaGreatDoorZ14Aa
import Derived.Test.YtihghalcmfpnaaaGreatDoorZ14Ab
section
set_option linter.unusedVariables false
set_option linter.unusedSimpArgs false
set_option linter.unnecessarySimpa false
namespace Go.Ab
@[irreducible] def od (n:Nat):List UInt8:=List.replicate n 0
section
variable {C:Cx} {o:Oper} {K:AS→Prop} {sl:List (Nat×AV)} {ob:List (Nat×List AV)} {d:Nat}
theorem p9 {α:Type} [Inhabited α] (f:α→PV)(l:List α){t m e:Nat}{x y:Operand}{i ie:TI}{k:IntKind}{n:Int}(ho:o.op=.index t x y)(hd:o.dst=some d)(hn:Nat.blt d C.n=true)
  (hi:look C.tt t=some i) (hik:i.k=.array m e) (hie:look C.tt e=some ie) (hia:ie.k.isAgg=false) (hs1:ie.size=1) (hm:Nat.beq m l.length=true) (hx:evo sl x=some (.p (.agg (l.map f))))
  (hy:evo sl y=some (.p (.val (.int k n)))) (hb:0≤n∧n < (l.length:Int)) (hK:K ⟨(d,.p (f (lat l n)))::sl,ob⟩):aS C o K ⟨sl,ob⟩:=by
 obtain ⟨u,h1,h2⟩:=bC C.good hi
 have h3:=lX (h2.trans hik)
 subst h3
 have hm':=Nat.eq_of_beq_eq_true hm
 refine ok_one hd hn (λ g a w hs=>?_) hK
 have h5:=bq hs hx
 generalize hv:a.eval x=v at h5
 cases h5 with
 | p h5 =>
  cases h5 with
  | agg hl hh =>
   rename_i vs
   have hlt:n.toNat < l.length:=by omega
   have hlt2:n.toNat < vs.size:=by rw [hl]; simpa using hlt
   have hnm:n < (m:Int):=by omega
   refine ⟨vs[n.toNat],by simp [execOp,ho,hv,bB hs hy,Instr.index,asIntOf,run_underlying h1,hb.1,hnm,run_sizeOf C.good hie,hs1,part,jP C.good hie,hia,hlt2],.p (hh n.toNat (f (lat l n)) _ ?_ (Array.getElem?_eq_getElem hlt2))⟩
   simp [lat,List.getElem?_map,List.getElem?_eq_getElem hlt,List.getD_eq_getElem?_getD]
theorem aG {t:TypeId}{x:Operand}{i:TI}{id k:Nat}{cs:List AV}{y:AV}(ho:o.op=.load t x)(hd:o.dst=some d)(hn:Nat.blt d C.n=true)
  (hi:look C.tt t=some i) (hia:i.k.isAgg=false) (hx:evo sl x=some (.ptr id k)) (hob:look ob id=some cs) (hy:cs[k]? = some y) (hK:K ⟨(d,y)::sl,ob⟩):aS C o K ⟨sl,ob⟩ :=
 mV ho hd hn hi hia hx hob hy hK
theorem ud {t:TypeId}{x:Operand}{i:TI}{id k:Nat}{cs:List AV}{y:AV}(ho:o.op=.load t x)(hd:o.dst=some d)(hn:Nat.blt d C.n=true)
  (hi:look C.tt t=some i) (hia:i.k.isAgg=true) (hx:evo sl x=some (.ptr id k)) (hob:look ob id=some cs) (hl:Nat.ble (k+i.size) cs.length=true) (hy:iK ((cs.drop k).take i.size)=y)
  (hK:K ⟨(d,y)::sl,ob⟩):aS C o K ⟨sl,ob⟩:=lq ho hd hn hi hia hx hob hl (congrArg some hy) hK
theorem dx {t:TypeId}{x v:Operand}{i:TI}{id k:Nat}{cs xs ds:List AV}{y:AV}(ho:o.op=.store t x v)(hd:o.dst=none)
  (hi:look C.tt t=some i) (hx:evo sl x=some (.ptr id k)) (hv:evo sl v=some y) (hc:y.cellsA=some xs) (hsz:Nat.beq xs.length i.size=true) (hob:look ob id=some cs) (hl:k+xs.length≤cs.length) (hu:jE cs k xs=ds)
  (hK:K ⟨sl,(id,ds)::ob⟩):aS C o K ⟨sl,ob⟩:=by
 subst hu
 exact jL ho hd hi hx hv hc (Nat.eq_of_beq_eq_true hsz) hob hl hK
theorem qh {α:Type}(f:α→PV)(hf:∀ x,(f x).one=true):∀ l:List α,AV.onesB ((l.map f).map .p)=true
 | []=>rfl
 | x::r=>by simp only [List.map_cons,AV.onesB,AV.one,hf x,qh f hf r,Bool.and_self]
theorem qc {α:Type}(f:α→PV)(l:List α){t:TypeId}{i:TI}{sl':List (Nat×AV)}{ob':List (Nat×List AV)}(hf:∀ x,(f x).one=true)(ho:o.op=.alloc t)(hd:o.dst=some d)(hn:Nat.blt d C.n=true)
  (hi:look C.tt t=some i) (hz:dA i=(l.map f).map .p) (h1:dmS (λ i=>Nat.beq i d) sl=some sl') (h2:dmO (λ i=>Nat.beq i d) ob=some ob') (hK:K ⟨(d,.ptr d 0)::sl',(d,(l.map f).map .p)::ob'⟩):aS C o K ⟨sl,ob⟩:=by
 refine fM ho hd hn hi ?_ ?_
 ·rw [hz]; simp only [AV.cellsA,qh f hf l,cond_true]
 ·rw [hz,jx]
  have e1:(cD (λ i=>Nat.beq i d) ⟨sl,ob⟩).sl=sl':=(np h1).symm
  have e2:(cD (λ i=>Nat.beq i d) ⟨sl,ob⟩).ob=ob':=(lP h2).symm
  rw [e1,e2]; exact hK
theorem wm (cs:List PV){t:TypeId}{v:Operand}{sl':List (Nat×AV)}{ob':List (Nat×List AV)}(ho:o.op=.box t v)(hd:o.dst=some d)(hn:Nat.blt d C.n=true)(hx:evo sl v=some (.p (.agg cs)))(h0:PV.onesB cs=true)
  (h1:dmS (λ i=>Nat.beq i d) sl=some sl') (h2:dmO (λ i=>Nat.beq i d) ob=some ob') (hK:K ⟨(d,.ptr d 0)::sl',(d,cs.map .p)::ob'⟩):aS C o K ⟨sl,ob⟩:=by
 refine sX ho hd hn hx (cs:=cs.map .p) (by simp only [AV.cellsA,h0,cond_true]) ?_
 rw [jx]
 have e1:(cD (λ i=>Nat.beq i d) ⟨sl,ob⟩).sl=sl':=(np h1).symm
 have e2:(cD (λ i=>Nat.beq i d) ⟨sl,ob⟩).ob=ob':=(lP h2).symm
 rw [e1,e2]; exact hK
theorem uz {α:Type}(f:α→PV)(l:List α){t:TypeId}{x:Operand}{i:TI}{id:Nat}(ho:o.op=.load t x)(hd:o.dst=some d)(hn:Nat.blt d C.n=true)
  (hi:look C.tt t=some i) (hia:i.k.isAgg=true) (hx:evo sl x=some (.ptr id 0)) (hob:look ob id=some ((l.map f).map .p)) (hl:Nat.beq i.size l.length=true)
  (hK:K ⟨(d,.p (.agg (l.map f)))::sl,ob⟩):aS C o K ⟨sl,ob⟩:=by
 have hl':=Nat.eq_of_beq_eq_true hl
 refine lq ho hd hn hi hia hx hob (by simp [hl']) (y:=.p (.agg (l.map f))) (congrArg some ?_) hK
 have e:(((l.map f).map AV.p).drop 0).take i.size=(l.map f).map AV.p:=by
  rw [List.drop_zero,hl']; exact List.take_of_length_le (by simp)
 rw [e]
 have ha:∀ q:List PV,qH (q.map .p)=some q:=by
  intro q
  induction q with
  | nil=>rfl
  | cons x r ih=>simp only [List.map_cons,qH,ih]
 simp only [iK,ha]
theorem oX:∀ q:List PV,qH (q.map .p)=some q
 | []=>rfl
 | x::r=>by simp only [List.map_cons,qH,oX r]
theorem wH {α:Type}(f:α→PV)(l:List α){tt:List (Nat×TI)}{rs:List ResultVar}{s:AS}{c id:Nat}{t:TypeId}{i:TI}(hr:rs=[.cell c t])(hc:look s.sl c=some (.ptr id 0))(hob:look s.ob id=some ((l.map f).map .p))(hi:look tt t=some i)(hia:i.k.isAgg=true)
  (hl:Nat.beq i.size l.length=true):jz tt rs s=some [.p (.agg (l.map f))]:=by
 have hl':=Nat.eq_of_beq_eq_true hl
 subst hr
 have e:(((l.map f).map AV.p).drop 0).take i.size=(l.map f).map AV.p:=by
  rw [List.drop_zero,hl']; exact List.take_of_length_le (by simp)
 have e2:Nat.ble (0+i.size) ((l.map f).map AV.p).length=true:=by simp [hl']
 simp only [jz,hc,hob,hi,hia,cond_true,e,e2,iK,oX]
theorem s5 {α:Type}(f:α→PV)(l l2:List α){t:TypeId}{x v:Operand}{i:TI}{id:Nat}(ho:o.op=.store t x v)(hd:o.dst=none)
  (hi:look C.tt t=some i) (hx:evo sl x=some (.ptr id 0)) (hv:evo sl v=some (.p (.agg (l2.map f)))) (hob:look ob id=some ((l.map f).map .p)) (hf:∀ x,(f x).one=true) (hl:Nat.beq i.size l.length=true) (hl2:Nat.beq i.size l2.length=true)
  (hK:K ⟨sl,(id,(l2.map f).map .p)::ob⟩):aS C o K ⟨sl,ob⟩:=by
 have e1:=Nat.eq_of_beq_eq_true hl
 have e2:=Nat.eq_of_beq_eq_true hl2
 have ho1:∀ q:List α,PV.onesB (q.map f)=true:=by
  intro q
  induction q with
  | nil=>rfl
  | cons x r ih=>simp only [List.map_cons,PV.onesB,hf x,ih,Bool.and_self]
 refine dx (xs:=(l2.map f).map .p) ho hd hi hx hv (by simp only [AV.cellsA,ho1 l2,cond_true]) (by simp [e2]) hob (by simp; omega) ?_ hK
 unfold jE
 split
 ·rename_i y hy
  have h3:=congrArg List.length hy
  simp only [List.length_map,List.length_cons,List.length_nil] at h3
  rw [hy]
  match l,e1 with
  | [z],_=>rfl
  | [],e1=>simp at e1; omega
  | _::_::_,e1=>simp at e1; omega
 ·rw [List.take_zero,List.nil_append,List.drop_eq_nil_of_le (by simp; omega),List.append_nil]
theorem vH {t:TypeId}{x:Operand}{s:List UInt8}{i:TI}{sl':List (Nat×AV)}{ob':List (Nat×List AV)}(ho:o.op=.range t x)(hd:o.dst=some d)(hn:Nat.blt d C.n=true)
  (hi:look C.tt t=some i) (hik:i.k=.string) (hx:evo sl x=some (.p (.val (.string ⟨s.toArray⟩)))) (h1:dmS (Nat.beq · d) sl=some sl') (h2:dmO (Nat.beq · d) ob=some ob')
  (hK:K ⟨(d,.it d s 0)::sl',ob'⟩):aS C o K ⟨sl,ob⟩:=by
 obtain ⟨u,hu1,hu2⟩:=bC C.good hi
 have h3:=gx (hu2.trans hik)
 subst h3
 intro g a w hs
 have hdl:d < M1:=by have h1:=Nat.le_of_ble_eq_true C.nl; have h2:d < C.n:=Nat.blt_eq ▸ hn; omega
 unfold Oper.wp
 have hrun:(execOp a.eval o).run C.P w=.ok (.value (.pointer (some ⟨w.heap.size,0,none⟩))) (w.alloc (.stringIter ⟨s.toArray⟩ 0)):=by
  simp [execOp,ho,Instr.range,bB hs hx,run_underlying hu1,newObj,Sem.run,Result.andThen]
 rw [hrun]
 obtain ⟨g',hg'⟩:∃ g':Gh,g'=⟨λ b o=>g.st b o∨(b=w.heap.size∧o=0),λ i=>if i=d then some w.heap.size else g.ow i⟩:=⟨_,rfl⟩
 have hsz:(w.alloc (.stringIter ⟨s.toArray⟩ 0)).heap.size=w.heap.size+1:=by simp
 have hev:Ev w g.st (w.alloc (.stringIter ⟨s.toArray⟩ 0)) g'.st:=λ b o h=>⟨by rw [hg']; exact .inl h,World.cell?_alloc_lt w _ _ (hs.lt b o h)⟩
 have hs':St C.n C.w0 C.F g' (cD (Nat.beq · d) ⟨sl,ob⟩) a (w.alloc (.stringIter ⟨s.toArray⟩ 0)):=by
  subst hg'
  refine hs.evolve (Nat.beq · d) (vE hdl) hev (λ id b hD h=>?_) (λ i j b hi hj=>?_) (λ i b hi=>?_) (λ b o h=>?_) (λ b hb=>?_) rfl rfl rfl (by omega) (λ b hb o=>?_) (λ i hi=>?_)
  ·have hne:id≠d:=λ e=>by subst e; simp at hD
   have hlt:=(hs.own id b h).1
   exact ⟨by simp only [if_neg hne]; exact h,cA hlt,λ o h=>h.resolve_right λ e=>by omega⟩
  ·dsimp only at hi hj
   by_cases e1:i=d <;> by_cases e2:j=d
   ·omega
   ·rw [if_pos e1] at hi; rw [if_neg e2] at hj; cases hi; have:=(hs.own j _ hj).1; omega
   ·rw [if_neg e1] at hi; rw [if_pos e2] at hj; cases hj; have:=(hs.own i _ hi).1; omega
   ·rw [if_neg e1] at hi; rw [if_neg e2] at hj; exact hs.inj i j b hi hj
  ·dsimp only at hi
   by_cases e1:i=d
   ·rw [if_pos e1] at hi; cases hi
    exact ⟨by omega,λ hF=>by have:=hs.fl _ hF; have:=hs.size; omega⟩
   ·rw [if_neg e1] at hi; have:=hs.own i b hi; exact ⟨by omega,this.2⟩
  ·rcases h with h | h
   ·have:=hs.lt b o h; omega
   ·omega
  ·exact cA (by have:=hs.fl b hb; have:=hs.size; omega)
  ·have h1:=hs.fl b hb
   have h2:=hs.size
   exact ⟨λ h=>h.resolve_right λ e=>by omega,.inl⟩
  ·dsimp only
   rw [if_neg (by omega)]
 refine ⟨g',⟨(d,.it d s 0)::sl',ob'⟩,?_,hK⟩
 have hp:=hs'.put (d:=o.dst) (λ t ht=>by rw [hd] at ht; cases ht; exact Nat.blt_eq ▸ hn) (x:=.it d s 0) (v:=.pointer (some ⟨w.heap.size,0,none⟩))
  (.it (by rw [hg']; simp) fv (by rw [hg']; exact .inr ⟨rfl,rfl⟩))
 rw [hd] at hp ⊢
 rw [np h1,lP h2]
 exact hp
theorem rM {n:Nat}{w0:Base}{w:World}{F:Nat→Prop}{g:Gh}{s:AS}{a:Act}(_hs:St n w0 F g s a w){tok pos:Nat}{l:List UInt8}{v:Value}(h:ARep w g (.it tok l pos) v) :
  ∃ b,v=.pointer (some ⟨b,0,none⟩)∧g.ow tok=some b∧w.heap[b]? = some (.stringIter ⟨l.toArray⟩ pos)∧g.st b 0:=by
 cases h with
 | it how hb hm=>exact ⟨_,rfl,how,hb,hm⟩
theorem uW {x:Operand}{s:List UInt8}{tok pos:Nat}(ho:o.op=.next x true)(hd:o.dst=some d)(hn:Nat.blt d C.n=true)
  (hx:evo sl x=some (.it tok s pos)) (hp:¬ pos < s.length) (hK:K ⟨(d,.tuple [.p (eB false)])::sl,ob⟩):aS C o K ⟨sl,ob⟩:=by
 refine ok_one hd hn (λ g a w hs=>?_) hK
 obtain ⟨b,hv,_,hb,_⟩:=rM hs (bq hs hx)
 refine ⟨.tuple #[.bool false],?_,.tuple rfl λ i c v h1 h2=>?_⟩
 ·have hsz:¬ pos < (⟨s.toArray⟩:ByteArray).size:=by simpa [ByteArray.size] using hp
  have:=Go.Lib.run_next_end_at (P:=C.P) w b ⟨s.toArray⟩ pos o.type hb hsz
  simp [execOp,ho,hv,this]
 ·match i,h1,h2 with
  | 0,h1,h2=>simp at h1 h2; subst h1 h2; exact .p (.val _)
theorem vw {j:Nat}{s:List UInt8}{tok pos:Nat}{sl':List (Nat×AV)}{ob':List (Nat×List AV)}(ho:o.op=.next (.tmp j) true)(hd:o.dst=some d)(hn:Nat.blt d C.n=true)(hj:Nat.blt j C.n=true)
  (hx:evo sl (.tmp j)=some (.it tok s pos)) (htok:Nat.blt tok M1=true) (hp:pos < s.length) (ha:(s.getD pos 0).toNat < 128) (h1:dmS (Nat.beq · tok) sl=some sl') (h2:dmO (Nat.beq · tok) ob=some ob')
  (hdj:Nat.beq d j=false) (hK:K ⟨(d,.tuple [.p (eB true),.p (eI (pos:Int)),.p (eK .i32 ((s.getD pos 0).toNat:Int))])::(j,.it tok s (pos+1))::sl',ob'⟩):aS C o K ⟨sl,ob⟩:=by
 intro g a w hs
 obtain ⟨b,hv,how,hb,hm⟩:=rM hs (bq hs hx)
 have htl:tok < M1:=Nat.blt_eq ▸ htok
 have hbl:=(hs.own tok b how).1
 unfold Oper.wp
 have hsz:pos < (⟨s.toArray⟩:ByteArray).size:=by simpa [ByteArray.size] using hp
 have hg0:(⟨s.toArray⟩:ByteArray)[pos]'hsz=s.getD pos 0:=by
  rw [List.getD_eq_getElem?_getD,List.getElem?_eq_getElem hp]; rfl
 have hnx:=Go.Lib.run_next_ascii_at (P:=C.P) w b ⟨s.toArray⟩ pos o.type hb hsz (by rw [hg0]; exact ha)
 rw [hg0] at hnx
 have hrun:(execOp a.eval o).run C.P w=.ok (.value (.tuple #[.bool true,.int .i64 pos,.int .i32 (s.getD pos 0).toNat])) (w.iterAt b ⟨s.toArray⟩ (pos+1)):=by
  simp [execOp,ho,hv,hnx]
 rw [hrun]
 have hheap:∀ b',b'≠b→(w.iterAt b ⟨s.toArray⟩ (pos+1)).heap[b']? = w.heap[b']?:=λ b' hne=>by
  simp only [World.iterAt,Array.getElem?_setIfInBounds]
  rw [if_neg (by omega)]
 have hheapb:=Go.Lib.iterAt_heap w b ⟨s.toArray⟩ pos (pos+1) hb
 have hwsz:(w.iterAt b ⟨s.toArray⟩ (pos+1)).heap.size=w.heap.size:=by simp [World.iterAt]
 have hcell:∀ b' o',(w.iterAt b ⟨s.toArray⟩ (pos+1)).cell? ⟨b',o',none⟩=w.cell? ⟨b',o',none⟩:=λ b' o'=>by
  by_cases e:b'=b
  ·subst e
   simp only [World.cell?,hheapb,hb]
  ·simp only [World.cell?,hheap b' e]
 have hs':St C.n C.w0 C.F g (cD (Nat.beq · tok) ⟨sl,ob⟩) a (w.iterAt b ⟨s.toArray⟩ (pos+1)):=by
  refine hs.evolve (Nat.beq · tok) (vE htl) (λ b' o' h=>⟨h,hcell b' o'⟩) (λ id b' hD h=>⟨h,hheap b' λ e=>?_,λ o h=>h⟩) hs.inj (λ i b' h=>by rw [hwsz]; exact hs.own i b' h) (λ b' o' h=>by rw [hwsz]; exact hs.lt b' o' h) (λ b' hb'=>hheap b' λ e=>?_) rfl rfl rfl (by omega) (λ b' _ o'=>Iff.rfl) (λ i _=>rfl)
  ·subst e
   have:=hs.inj id tok b' h how
   subst this
   simp at hD
  ·subst e
   exact (hs.own tok b' how).2 hb'
 have hjd:j < C.n:=Nat.blt_eq ▸ hj
 refine ⟨g,⟨(d,.tuple [.p (eB true),.p (eI (pos:Int)),.p (eK .i32 ((s.getD pos 0).toNat:Int))])::(j,.it tok s (pos+1))::sl',ob'⟩,?_,hK⟩
 have hs2:St C.n C.w0 C.F g ⟨(j,.it tok s (pos+1))::sl',ob'⟩ a (w.iterAt b ⟨s.toArray⟩ (pos+1)):=by
  rw [np h1,lP h2]
  refine { hs' with sl:=λ i=>?_ }
  simp only [AS.get,aQ]
  by_cases e:j=i
  ·subst e
   rw [if_pos rfl]
   simp only [Option.getD_some]
   have:a.eval (.tmp j)=a.tmps.getD j Go.undef:=rfl
   rw [← this,hv]
   exact .it how hheapb hm
  ·rw [if_neg e]
   exact hs'.sl i
 have hp2:=hs2.put (d:=o.dst) (λ t ht=>by rw [hd] at ht; cases ht; exact Nat.blt_eq ▸ hn) (x:=.tuple [.p (eB true),.p (eI (pos:Int)),.p (eK .i32 ((s.getD pos 0).toNat:Int))]) (v:=.tuple #[.bool true,.int .i64 pos,.int .i32 (s.getD pos 0).toNat])
  (.tuple rfl λ i c v h1 h2=>by
   match i,h1,h2 with
   | 0,h1,h2=>simp at h1 h2; subst h1 h2; exact .p (.val _)
   | 1,h1,h2=>simp at h1 h2; subst h1 h2; exact .p (.val _)
   | 2,h1,h2=>simp at h1 h2; subst h1 h2; exact .p (.val _))
 rw [hd] at hp2 ⊢
 exact hp2
end
end Go.Ab
end
section
set_option linter.unusedVariables false
set_option linter.unusedSimpArgs false
set_option linter.unnecessarySimpa false
namespace Go.Ab
def gq:List UInt8:=[0,0,0,0,0,0,0,0,0,1,6,0,0,1,0,0,0,0,0,0,0,0,0,0,0,0,0,0,0,0,0,0,1,4,5,7,0,4,4,0,4,4,4,4,4,4,4,4,3,3,3,3,3,3,3,3,3,3,4,0,4,4,4,4,0,2,2,2,2,2,2,2,2,2,2,2,2,2,2,2,2,2,2,2,2,2,2,2,2,2,2,4,0,4,0,2,0,2,2,2,2,2,2,2,2,2,2,2,2,2,2,2,2,2,2,2,2,2,2,2,2,2,2,4,4,4,0,0,0,0,0,0,0,0,0,0,0,0,0,0,0,0,0,0,0,0,0,0,0,0,0,0,0,0,0,0,0,0,0,0,0,0,0,0,0,0,0,0,0,0,0,0,0,0,0,0,0,0,0,0,0,0,0,0,0,0,0,0,0,0,0,0,0,0,0,0,0,0,0,0,0,0,0,0,0,0,0,0,0,0,0,0,0,0,0,0,0,0,0,0,0,0,0,0,0,0,0,0,0,0,0,0,0,0,0,0,0,0,0,0,0,0,0,0,0,0,0,0,0,0,0,0,0,0,0,0]
theorem rl:gq.length=256:=by kernel_rfl
def uP:List PV:=gq.map eU
theorem iZ:uP.length=256:=by rw [uP,List.length_map,rl]
structure aa where
 fs:Bytes
 fat:Int
 fouter:Int
 fbad:ao
 deriving Inhabited
def aa.cs (x:aa):List PV:=eS x.fs::eI x.fat::(uP++[eI x.fouter,eI x.fbad.fKind,eI x.fbad.fAt,eS x.fbad.fName])
theorem aa.len (x:aa):((aa.cs x).map AV.p).length=262:=by simp [aa.cs,iZ]
theorem aa.g_s (x:aa):((aa.cs x).map AV.p)[0]? = some (.p (eS x.fs)):=rfl
theorem aa.g_at (x:aa):((aa.cs x).map AV.p)[1]? = some (.p (eI x.fat)):=rfl
theorem aa.g_outer (x:aa):((aa.cs x).map AV.p)[2+256]? = some (.p (eI x.fouter)):=by
 simp only [aa.cs,List.map_cons,List.map_append,List.getElem?_cons_succ]
 rw [List.getElem?_append_right (by simp [iZ])]
 simp [iZ]
theorem aa.g_class (x:aa){n:Int}(h:0≤n∧n < 256):((aa.cs x).map AV.p)[2+n.toNat*1]? = some (.p (eU (lat gq n))):=by
 have hn:n.toNat < 256:=by omega
 have e:2+n.toNat*1=n.toNat+1+1:=by omega
 rw [e]
 simp only [aa.cs,List.map_cons,List.map_append,List.getElem?_cons_succ]
 rw [List.getElem?_append_left (by simp [iZ]; omega)]
 simp [uP,lat,List.getElem?_map,List.getElem?_eq_getElem (show n.toNat < gq.length by rw [rl]; exact hn)]
def aa.hd (x:aa):List AV:=(eS x.fs::eI x.fat::(uP++[eI x.fouter])).map .p
theorem aa.hd_len (x:aa):x.hd.length=259:=by simp [aa.hd,iZ]
theorem aa.cs_hd (x:aa):(aa.cs x).map AV.p=x.hd++(ao.cs x.fbad).map .p:=by
 simp [aa.cs,aa.hd,ao.cs]
theorem aa.l_bad (x:aa):Nat.ble (2+256+1+3) ((aa.cs x).map AV.p).length=true:=by rw [aa.len]; rfl
theorem aa.g_bad (x:aa):iK ((((aa.cs x).map AV.p).drop (2+256+1)).take 3)=.p (.agg (ao.cs x.fbad)):=by
 rw [aa.cs_hd,List.drop_append_of_le_length (by rw [aa.hd_len]; decide),List.drop_eq_nil_of_le (by rw [aa.hd_len]; decide)]
 rfl
theorem aa.b_at (x:aa):1+1≤((aa.cs x).map AV.p).length:=by rw [aa.len]; decide
theorem aa.b_outer (x:aa):2+256+1≤((aa.cs x).map AV.p).length:=by rw [aa.len]; decide
theorem aa.b_bad (x:aa):2+256+1+3≤((aa.cs x).map AV.p).length:=by rw [aa.len]; decide
theorem aa.u_at (x:aa){v:Int}:jE ((aa.cs x).map AV.p) 1 [.p (eI v)]=(aa.cs (.mk x.fs v x.fouter x.fbad)).map .p:=by
 simp only [jE,aa.cs,List.map_cons,List.set_cons_succ,List.set_cons_zero]
theorem aa.u_outer (x:aa){v:Int}:jE ((aa.cs x).map AV.p) (2+256) [.p (eI v)]=(aa.cs (.mk x.fs x.fat v x.fbad)).map .p:=by
 simp only [jE,aa.cs,List.map_cons,List.map_append,List.set_cons_succ]
 rw [List.set_append_right _ _ (by simp [iZ])]
 simp [iZ]
theorem aa.u_bad (x:aa){k a:Int}{n:Bytes}:jE ((aa.cs x).map AV.p) (2+256+1) [.p (eI k),.p (eI a),.p (eS n)]=(aa.cs (.mk x.fs x.fat x.fouter (.mk k a n))).map .p:=by
 have e:jE ((aa.cs x).map AV.p) 259 [.p (eI k),.p (eI a),.p (eS n)]=((aa.cs x).map AV.p).take 259++(ao.cs (.mk k a n)).map .p++((aa.cs x).map AV.p).drop (259+3):=rfl
 show jE ((aa.cs x).map AV.p) 259 [.p (eI k),.p (eI a),.p (eS n)]=_
 rw [e,aa.cs_hd,aa.cs_hd,List.take_append_of_le_length (by rw [aa.hd_len]; decide),List.take_of_length_le (by rw [aa.hd_len]; decide),List.drop_eq_nil_of_le (by rw [List.length_append,aa.hd_len]; simp [ao.cs]),List.append_nil]
 rfl
end Go.Ab
end
section
set_option linter.unusedVariables false
set_option linter.unusedSimpArgs false
set_option linter.unnecessarySimpa false
namespace Go.Ab.R06
open Go.Proofs Go.Ab Go.Ab.RB
attribute [local irreducible] awp fk aS au aF AV.sub M cB
def eN:Nat→Int→(List UInt8)→Option (List UInt8)
 | 0,_,_=>none
 | m+1,c8,l9 =>
 if c8≤122 then
  ck ((0:Int)≤c8∧(c8:Int) < 256) <|
  ck ((c8:Int) < (l9.length:Int)) <|
  ck ((0:Int)≤IntKind.wrap .i32 ((IntKind.wrap .i32 (c8 - 97))+65)∧(IntKind.wrap .i32 ((IntKind.wrap .i32 (c8 - 97))+65):Int) < 256) <|
  ck ((IntKind.wrap .i32 ((IntKind.wrap .i32 (c8 - 97))+65):Int) < ((l9.set c8.toNat (2:UInt8)).length:Int)) <|
  eN m (IntKind.wrap .i32 (c8+1)) ((l9.set c8.toNat (2:UInt8)).set ((IntKind.wrap .i32 ((IntKind.wrap .i32 (c8 - 97))+65)).toNat) (2:UInt8))
 else
  some l9
def eM:Nat→Int→(List UInt8)→Option (List UInt8)
 | 0,_,_=>none
 | m+1,c23,l24 =>
 if c23≤57 then
  ck ((0:Int)≤c23∧(c23:Int) < 256) <|
  ck ((c23:Int) < (l24.length:Int)) <|
  eM m (IntKind.wrap .i32 (c23+1)) (l24.set c23.toNat (3:UInt8))
 else
  some l24
def eP:Nat→Nat→(List UInt8)→Option (List UInt8)
 | 0,_,_=>none
 | m+1,t37,l38 =>
 if t37 < ([123,125,91,93,40,41,44,61,60,62,43,45,42,47,37,33,38,124,63,58,46]:Bytes).length then
  ck ((([123,125,91,93,40,41,44,61,60,62,43,45,42,47,37,33,38,124,63,58,46]:Bytes).getD t37 0).toNat < 128) <|
  ck ((0:Int)≤((([123,125,91,93,40,41,44,61,60,62,43,45,42,47,37,33,38,124,63,58,46]:Bytes).getD t37 0).toNat:Int)∧(((([123,125,91,93,40,41,44,61,60,62,43,45,42,47,37,33,38,124,63,58,46]:Bytes).getD t37 0).toNat:Int):Int) < 256) <|
  ck ((((([123,125,91,93,40,41,44,61,60,62,43,45,42,47,37,33,38,124,63,58,46]:Bytes).getD t37 0).toNat:Int):Int) < (l38.length:Int)) <|
  eP m (t37+1) (l38.set (((([123,125,91,93,40,41,44,61,60,62,43,45,42,47,37,33,38,124,63,58,46]:Bytes).getD t37 0).toNat:Int).toNat) (4:UInt8))
 else
  some l38
def jB (n:Nat):Option (List UInt8) :=
 (eN n 97 (od 256)).bind λ l17 =>
 (eM n 48 l17).bind λ l30 =>
 (eP n 0 l30).bind λ l45 =>
 ck ((0:Int)≤95∧(95:Int) < 256) <|
 ck ((95:Int) < (l45.length:Int)) <|
 ck ((0:Int)≤34∧(34:Int) < 256) <|
 ck ((34:Int) < ((l45.set ((95:Int).toNat) (2:UInt8)).length:Int)) <|
 ck ((0:Int)≤35∧(35:Int) < 256) <|
 ck ((35:Int) < (((l45.set ((95:Int).toNat) (2:UInt8)).set ((34:Int).toNat) (5:UInt8)).length:Int)) <|
 ck ((0:Int)≤10∧(10:Int) < 256) <|
 ck ((10:Int) < ((((l45.set ((95:Int).toNat) (2:UInt8)).set ((34:Int).toNat) (5:UInt8)).set ((35:Int).toNat) (7:UInt8)).length:Int)) <|
 ck ((0:Int)≤32∧(32:Int) < 256) <|
 ck ((32:Int) < (((((l45.set ((95:Int).toNat) (2:UInt8)).set ((34:Int).toNat) (5:UInt8)).set ((35:Int).toNat) (7:UInt8)).set ((10:Int).toNat) (6:UInt8)).length:Int)) <|
 ck ((0:Int)≤9∧(9:Int) < 256) <|
 ck ((9:Int) < ((((((l45.set ((95:Int).toNat) (2:UInt8)).set ((34:Int).toNat) (5:UInt8)).set ((35:Int).toNat) (7:UInt8)).set ((10:Int).toNat) (6:UInt8)).set ((32:Int).toNat) (1:UInt8)).length:Int)) <|
 ck ((0:Int)≤13∧(13:Int) < 256) <|
 ck ((13:Int) < (((((((l45.set ((95:Int).toNat) (2:UInt8)).set ((34:Int).toNat) (5:UInt8)).set ((35:Int).toNat) (7:UInt8)).set ((10:Int).toNat) (6:UInt8)).set ((32:Int).toNat) (1:UInt8)).set ((9:Int).toNat) (1:UInt8)).length:Int)) <|
 ck (Nat.beq 256 (((((((l45.set ((95:Int).toNat) (2:UInt8)).set ((34:Int).toNat) (5:UInt8)).set ((35:Int).toNat) (7:UInt8)).set ((10:Int).toNat) (6:UInt8)).set ((32:Int).toNat) (1:UInt8)).set ((9:Int).toNat) (1:UInt8)).set ((13:Int).toNat) (1:UInt8)).length=true) <|
 ck (Nat.beq 256 (od 256).length=true∧Nat.beq 256 (((((((l45.set ((95:Int).toNat) (2:UInt8)).set ((34:Int).toNat) (5:UInt8)).set ((35:Int).toNat) (7:UInt8)).set ((10:Int).toNat) (6:UInt8)).set ((32:Int).toNat) (1:UInt8)).set ((9:Int).toNat) (1:UInt8)).set ((13:Int).toNat) (1:UInt8)).length=true) <|
 some (((((((l45.set ((95:Int).toNat) (2:UInt8)).set ((34:Int).toNat) (5:UInt8)).set ((35:Int).toNat) (7:UInt8)).set ((10:Int).toNat) (6:UInt8)).set ((32:Int).toNat) (1:UInt8)).set ((9:Int).toNat) (1:UInt8)).set ((13:Int).toNat) (1:UInt8))
set_option maxHeartbeats 4000000 in
theorem nC (n:Nat)(r:(List UInt8))(h0:jB n=some r):au Tryz.prog 84 [] (·=.p (.agg (r.map eU))):=by
 unfold jB at h0
 refine aW good Tryz.func84 rfl rfl rfl λ w0=>mP (λ v:(List UInt8)=>.p (.agg (v.map eU))) ?_
 refine nx 2 rfl (mO rfl (qc eU (od 256) (λ _=>rfl) rfl rfl rfl rfl (by kernel_rfl) rfl rfl ?_))
 refine nx 3 rfl (mO rfl (qc eU (od 256) (λ _=>rfl) rfl rfl rfl rfl (by kernel_rfl) rfl (by repeat (first | apply qD rfl | apply pz rfl | apply ra rfl rfl | exact rfl)) ?_))
 refine nx 7 rfl (bd h0 λ o65 h1 h0=>?_)
 refine kE 0 o65 (λ v66=>⟨[(0,.ptr 0 0),(1,.ptr 1 0)],[(0,((od 256).map eU).map .p),(1,(v66.map eU).map .p)]⟩) ?_ ?_
 ·refine nx 7 rfl (bd h0 λ o67 h1 h0=>?_)
  refine kE 2 o67 (λ v68=>⟨[(0,.ptr 0 0),(1,.ptr 1 0)],[(0,((od 256).map eU).map .p),(1,(v68.map eU).map .p)]⟩) ?_ ?_
  ·refine nx 4 rfl (mO rfl (vH rfl rfl rfl rfl rfl rfl rfl (by repeat (first | apply qD rfl | apply pz rfl | apply ra rfl rfl | exact rfl)) ?_))
   refine nx 2 rfl (bd h0 λ o69 h1 h0=>?_)
   refine kE 4 o69 (λ v70=>⟨[(0,.ptr 0 0),(1,.ptr 1 0)],[(0,((od 256).map eU).map .p),(1,(v70.map eU).map .p)]⟩) ?_ ?_
   ·refine nx 3 rfl (cc' h0 λ hk46 h0=>?_)
    refine cc' h0 λ hk47 h0=>mO rfl (b5 rfl rfl rfl rfl rfl rfl rfl rfl rfl hk46 ?_)
    refine mO rfl (eO (f:=eU) (l:=o69) (b:=(2:UInt8)) rfl rfl rfl rfl rfl rfl rfl rfl (by have:=(And.intro hk46.1 hk47); first | omega | (dsimp only; omega)) ?_)
    refine cc' h0 λ hk48 h0=>cc' h0 λ hk49 h0=>mO rfl (b5 rfl rfl rfl rfl rfl rfl rfl rfl rfl hk48 ?_)
    refine mO rfl (eO (f:=eU) (l:=o69.set ((95:Int).toNat) (2:UInt8)) (b:=(5:UInt8)) rfl rfl rfl rfl rfl rfl rfl rfl (by have:=(And.intro hk48.1 hk49); first | omega | (dsimp only; omega)) ?_)
    refine cc' h0 λ hk50 h0=>cc' h0 λ hk51 h0=>mO rfl (b5 rfl rfl rfl rfl rfl rfl rfl rfl rfl hk50 ?_)
    refine mO rfl (eO (f:=eU) (l:=(o69.set ((95:Int).toNat) (2:UInt8)).set ((34:Int).toNat) (5:UInt8)) (b:=(7:UInt8)) rfl rfl rfl rfl rfl rfl rfl rfl (by have:=(And.intro hk50.1 hk51); first | omega | (dsimp only; omega)) ?_)
    refine cc' h0 λ hk52 h0=>cc' h0 λ hk53 h0=>mO rfl (b5 rfl rfl rfl rfl rfl rfl rfl rfl rfl hk52 ?_)
    refine mO rfl (eO (f:=eU) (l:=((o69.set ((95:Int).toNat) (2:UInt8)).set ((34:Int).toNat) (5:UInt8)).set ((35:Int).toNat) (7:UInt8)) (b:=(6:UInt8)) rfl rfl rfl rfl rfl rfl rfl rfl (by have:=(And.intro hk52.1 hk53); first | omega | (dsimp only; omega)) ?_)
    refine nx 3 rfl (cc' h0 λ hk54 h0=>?_)
    refine cc' h0 λ hk55 h0=>mO rfl (b5 rfl rfl rfl rfl rfl rfl rfl rfl rfl hk54 ?_)
    refine mO rfl (eO (f:=eU) (l:=(((o69.set ((95:Int).toNat) (2:UInt8)).set ((34:Int).toNat) (5:UInt8)).set ((35:Int).toNat) (7:UInt8)).set ((10:Int).toNat) (6:UInt8)) (b:=(1:UInt8)) rfl rfl rfl rfl rfl rfl rfl rfl (by have:=(And.intro hk54.1 hk55); first | omega | (dsimp only; omega)) ?_)
    refine cc' h0 λ hk56 h0=>cc' h0 λ hk57 h0=>mO rfl (b5 rfl rfl rfl rfl rfl rfl rfl rfl rfl hk56 ?_)
    refine mO rfl (eO (f:=eU) (l:=((((o69.set ((95:Int).toNat) (2:UInt8)).set ((34:Int).toNat) (5:UInt8)).set ((35:Int).toNat) (7:UInt8)).set ((10:Int).toNat) (6:UInt8)).set ((32:Int).toNat) (1:UInt8)) (b:=(1:UInt8)) rfl rfl rfl rfl rfl rfl rfl rfl (by have:=(And.intro hk56.1 hk57); first | omega | (dsimp only; omega)) ?_)
    refine cc' h0 λ hk58 h0=>cc' h0 λ hk59 h0=>mO rfl (b5 rfl rfl rfl rfl rfl rfl rfl rfl rfl hk58 ?_)
    refine mO rfl (eO (f:=eU) (l:=(((((o69.set ((95:Int).toNat) (2:UInt8)).set ((34:Int).toNat) (5:UInt8)).set ((35:Int).toNat) (7:UInt8)).set ((10:Int).toNat) (6:UInt8)).set ((32:Int).toNat) (1:UInt8)).set ((9:Int).toNat) (1:UInt8)) (b:=(1:UInt8)) rfl rfl rfl rfl rfl rfl rfl rfl (by have:=(And.intro hk58.1 hk59); first | omega | (dsimp only; omega)) ?_)
    refine nx 3 rfl (cc' h0 λ hk60 h0=>?_)
    refine mO rfl (uz eU (((((((o69.set ((95:Int).toNat) (2:UInt8)).set ((34:Int).toNat) (5:UInt8)).set ((35:Int).toNat) (7:UInt8)).set ((10:Int).toNat) (6:UInt8)).set ((32:Int).toNat) (1:UInt8)).set ((9:Int).toNat) (1:UInt8)).set ((13:Int).toNat) (1:UInt8)) rfl rfl rfl rfl rfl rfl rfl hk60 ?_)
    refine cc' h0 λ hk61 h0=>mO rfl (s5 eU (od 256) (((((((o69.set ((95:Int).toNat) (2:UInt8)).set ((34:Int).toNat) (5:UInt8)).set ((35:Int).toNat) (7:UInt8)).set ((10:Int).toNat) (6:UInt8)).set ((32:Int).toNat) (1:UInt8)).set ((9:Int).toNat) (1:UInt8)).set ((13:Int).toNat) (1:UInt8)) rfl rfl rfl rfl rfl rfl (λ _=>rfl) hk61.1 hk61.2 ?_)
    exact nx 2 rfl (mQ (oi h0) (wH eU (((((((o69.set ((95:Int).toNat) (2:UInt8)).set ((34:Int).toNat) (5:UInt8)).set ((35:Int).toNat) (7:UInt8)).set ((10:Int).toNat) (6:UInt8)).set ((32:Int).toNat) (1:UInt8)).set ((9:Int).toNat) (1:UInt8)).set ((13:Int).toNat) (1:UInt8)) rfl rfl rfl rfl rfl hk60) (sr))
   refine lG (λ (q71:Nat×(List UInt8))=>⟨[(0,.ptr 0 0),(1,.ptr 1 0),(22,.it 22 ([123,125,91,93,40,41,44,61,60,62,43,45,42,47,37,33,38,124,63,58,46]:Bytes) q71.1)],[(0,((od 256).map eU).map .p),(1,(q71.2.map eU).map .p)]⟩) (λ m (q71:Nat×(List UInt8))=>eP m q71.1 q71.2) (λ _=>rfl) (0,o67) h1 (gE rfl rfl) ?_
   rintro m ⟨t37,l38⟩ h1
   replace h1:eP (m+1) t37 l38=some o69:=h1
   rw [eP] at h1
   refine nx 2 rfl (fD (p:=t37 < ([123,125,91,93,40,41,44,61,60,62,43,45,42,47,37,33,38,124,63,58,46]:Bytes).length) [] h1 rfl (λ c39 h1=>?_) λ c39 h1=>?_)
   ·refine cc' h1 λ hk40 h1=>mO rfl (vw rfl rfl rfl rfl rfl rfl c39 hk40 rfl (by repeat (first | apply qD rfl | apply pz rfl | apply ra rfl rfl | exact rfl)) rfl ?_)
    refine nx 13 rfl (cc' h1 λ hk41 h1=>?_)
    refine cc' h1 λ hk42 h1=>mO rfl (b5 rfl rfl rfl rfl rfl rfl rfl rfl rfl hk41 ?_)
    refine mO rfl (eO (f:=eU) (l:=l38) (b:=(4:UInt8)) rfl rfl rfl rfl rfl rfl rfl rfl (by have:=(And.intro hk41.1 hk42); first | omega | (dsimp only; omega)) ?_)
    exact nx 1 rfl (eX (t37+1,l38.set (((([123,125,91,93,40,41,44,61,60,62,43,45,42,47,37,33,38,124,63,58,46]:Bytes).getD t37 0).toNat:Int).toNat) (4:UInt8)) h1 (gE rfl rfl))
   refine mO rfl (uW rfl rfl rfl rfl c39 ?_)
   exact nx 5 rfl (eXi _ (oi h1).symm (gE rfl rfl))
  refine lG (λ (q72:Int×(List UInt8))=>⟨[(0,.ptr 0 0),(1,.ptr 1 0),(3,.p (eK .i32 q72.1))],[(0,((od 256).map eU).map .p),(1,(q72.2.map eU).map .p)]⟩) (λ m (q72:Int×(List UInt8))=>eM m q72.1 q72.2) (λ _=>rfl) (48,o65) h1 (gE rfl rfl) ?_
  rintro m ⟨c23,l24⟩ h1
  replace h1:eM (m+1) c23 l24=some o67:=h1
  rw [eM] at h1
  refine nx 6 rfl (fD [17] h1 rfl (λ c25 h1=>?_) λ c25 h1=>?_)
  ·refine nx 6 rfl (cc' h1 λ hk26 h1=>?_)
   refine cc' h1 λ hk27 h1=>mO rfl (b5 rfl rfl rfl rfl rfl rfl rfl rfl rfl hk26 ?_)
   refine mO rfl (eO (f:=eU) (l:=l24) (b:=(3:UInt8)) rfl rfl rfl rfl rfl rfl rfl rfl (by have:=(And.intro hk26.1 hk27); first | omega | (dsimp only; omega)) ?_)
   exact nx 6 rfl (eX (IntKind.wrap .i32 (c23+1),l24.set c23.toNat (3:UInt8)) h1 (gE rfl rfl))
  exact nx 2 rfl (eXi _ (oi h1).symm (gE rfl rfl))
 refine lG (λ (q73:Int×(List UInt8))=>⟨[(0,.ptr 0 0),(1,.ptr 1 0),(2,.p (eK .i32 q73.1))],[(0,((od 256).map eU).map .p),(1,(q73.2.map eU).map .p)]⟩) (λ m (q73:Int×(List UInt8))=>eN m q73.1 q73.2) (λ _=>rfl) (97,od 256) h1 (gE rfl rfl) ?_
 rintro m ⟨c8,l9⟩ h1
 replace h1:eN (m+1) c8 l9=some o65:=h1
 rw [eN] at h1
 refine nx 6 rfl (fD [7] h1 rfl (λ c10 h1=>?_) λ c10 h1=>?_)
 ·refine nx 9 rfl (cc' h1 λ hk11 h1=>?_)
  refine cc' h1 λ hk12 h1=>mO rfl (b5 rfl rfl rfl rfl rfl rfl rfl rfl rfl hk11 ?_)
  refine mO rfl (eO (f:=eU) (l:=l9) (b:=(2:UInt8)) rfl rfl rfl rfl rfl rfl rfl rfl (by have:=(And.intro hk11.1 hk12); first | omega | (dsimp only; omega)) ?_)
  refine cc' h1 λ hk13 h1=>cc' h1 λ hk14 h1=>mO rfl (b5 rfl rfl rfl rfl rfl rfl rfl rfl rfl hk13 ?_)
  refine mO rfl (eO (f:=eU) (l:=l9.set c8.toNat (2:UInt8)) (b:=(2:UInt8)) rfl rfl rfl rfl rfl rfl rfl rfl (by have:=(And.intro hk13.1 hk14); first | omega | (dsimp only; omega)) ?_)
  exact nx 6 rfl (eX (IntKind.wrap .i32 (c8+1),(l9.set c8.toNat (2:UInt8)).set ((IntKind.wrap .i32 ((IntKind.wrap .i32 (c8 - 97))+65)).toNat) (2:UInt8)) h1 (gE rfl rfl))
 exact nx 2 rfl (eXi _ (oi h1).symm (gE rfl rfl))
end Go.Ab.R06
end
section
set_option linter.unusedVariables false
set_option linter.unusedSimpArgs false
set_option linter.unnecessarySimpa false
namespace Go.Ab.R06
open Go.Proofs Go.Ab Go.Ab.RB
attribute [local irreducible] awp fk aS au aF AV.sub M cB
theorem nh:jB 64=some gq:=by kernel_rfl
def gZ (s_0:Bytes):Option aa:=some (.mk s_0 0 (-1) (.mk 0 0 []))
theorem aa.ones (x:aa):PV.onesB (aa.cs x)=true:=by kernel_rfl
theorem lA (s_0:Bytes)(r:aa)(h0:gZ s_0=some r):aF Tryz.prog 51 [.p (eS s_0)] [] (λ x y=>x=.ptr 2000000 0∧y=[(2000000,(aa.cs r).map .p)]):=by
 unfold gZ at h0
 refine bF good [6] [6] Tryz.func51 rfl rfl rfl rfl rfl λ w0 F=>mPo (λ _:aa=>.ptr 2000000 0) (λ v=>[(2000000,(aa.cs v).map .p)]) ?_
 refine nx 7 rfl ?_
 refine oK (nC 64 _ nh) rfl trivial Tryz.call84 rfl ?_
 refine mO rfl (rJ (cs:=(aa.cs (.mk s_0 0 (-1) (.mk 0 0 []))).map .p) (y:=.p (.agg (aa.cs (.mk s_0 0 (-1) (.mk 0 0 []))))) rfl rfl rfl rfl rfl rfl rfl (by kernel_rfl) (by simp only [iK,oX]) ?_)
 refine mO rfl (wm (aa.cs (.mk s_0 0 (-1) (.mk 0 0 []))) rfl rfl rfl rfl (aa.ones _) rfl rfl ?_)
 exact nx 4 rfl (mQo (oi h0) (al _) rfl rfl rfl (ah rfl (ak _) rfl) (sr) ⟨⟨_,rfl,aw _⟩,trivial⟩)
end Go.Ab.R06
end
section
set_option linter.unusedVariables false
set_option linter.unusedSimpArgs false
set_option linter.unnecessarySimpa false
namespace Go.Ab
structure PreO (w:World)(g:Gh):Prop where
 ok:Ok0 w g.st
 own:∀ i b,g.ow i=some b→b < w.heap.size∧i < 2*M1
 inj:∀ i j b,g.ow i=some b→g.ow j=some b→i=j
 nst:∀ i b,M1≤i→g.ow i=some b→∀ o,¬ g.st b o
def xb (w:World)(g:Gh)(R:AV→List (Nat×List AV)→Prop)(v:Value)(w':World):Prop :=
 ∃ r obs' g',R r obs'∧ARep w' g' r v∧(∀ p∈obs',fG w' g' p.1 p.2)∧jF w g w' g'
def tj (P:Program)(f:FuncId)(args:List AV)(obs:List (Nat×List AV))(R:AV→List (Nat×List AV)→Prop):Prop :=
 ∀ (w:World) (g:Gh) (vs:Array Value) (u:FrameMode),PreO w g→vs.size=args.length→(∀ (i:Nat) c v,args[i]? = some c→vs[i]? = some v→ARep w g c v)→(∀ id cs,look obs id=some cs→fG w g id cs) →
  CallsD P f vs u w λ e u' w'=>u'=u∧∃ v,e=.returned v∧xb w g R v w'
theorem xU {P:Program}{tt:List (Nat×TI)}(good:cI P tt){f:FuncId}{fn:Func}{c:Code}{args:List AV}{obs rob:List (Nat×List AV)}{r:AV}(ts ids:List Nat)(hf:P.funcs[f]? = some fn)(hb:fn.body=some c)
  (hn:Nat.ble args.length fn.ntmps=true) (hnl:Nat.ble fn.ntmps M1=true) (hts:ts.all (λ i=>Nat.blt i M1)=true) (hnd:nodupB ts=true)
  (h:∀ w0 F,awp ⟨P,tt,good,fn.ntmps,hnl,w0,F⟩ c (pG ⟨P,tt,good,fn.ntmps,hnl,w0,F⟩ tt fn ts ids r rob) ⟨fy args,obs⟩):tj P f args obs (λ x y=>x.sub r∧leO y rob) :=
 λ _ _ _ _ hp h1 h2 h3=>(callsD_of_wp hf hb (l7 good ts ids (Nat.le_of_ble_eq_true hn) hnl hts hnd (λ w0 F=>mX (h w0 F)) hp.ok hp.own hp.inj hp.nst h1 h2 h3)).mono
  λ _ _ _ ⟨hu,v,r,obs',g',he,hR,e1,e2,e3⟩=>⟨hu,v,he,r,obs',g',hR,e1,e2,e3⟩
def yb:Option Code→Code
 | some (.seq _ (.seq _ B))=>B
 | _=>.skip
def vK (P:Program)(fn:Func)(B:Code)(sl:List (Nat×AV))(obs:List (Nat×List AV))(R:AV→List (Nat×List AV)→Prop):Prop :=
 ∀ (w:World) (g:Gh) (a:Act),PreO w g→a.tmps.size=fn.ntmps→(∀ i,ARep w g ((⟨sl,obs⟩:AS).get i) (a.tmps.getD i Go.undef))→(∀ id cs,look obs id=some cs→fG w g id cs) →
  B.wp P (λ e a' w'=>(e=.normal∨e=.ret)∧a'.defers=a.defers∧∃ v,(∀ w2,(results fn a'.tmps).run P w2=.ok v w2)∧xb w g R v w') a w
theorem vm {P:Program}{tt:List (Nat×TI)}(good:cI P tt){fn:Func}{B:Code}{t:Nat}{sl:List (Nat×AV)}{obs rob:List (Nat×List AV)}{r:AV}(ids:List Nat)(hres:fn.results.toList=[.tmp t])(hnl:Nat.ble fn.ntmps M1=true)
  (h:∀ w0 F,awp ⟨P,tt,good,fn.ntmps,hnl,w0,F⟩ B (pG ⟨P,tt,good,fn.ntmps,hnl,w0,F⟩ tt fn [] ids r rob) ⟨sl,obs⟩):vK P fn B sl obs (λ x y=>x.sub r∧leO y rob):=by
 intro w g a hp hsz hsl hobs
 have hs:St fn.ntmps ⟨w,g.st,g.ow,hp.ok.gl,(λ i b h=>Nat.lt_of_lt_of_le (hp.own i b h).2 qB),a.defers⟩ (λ b=>b < w.heap.size∧∀ i,g.ow i≠some b) g ⟨sl,obs⟩ a w :=
  ⟨rfl,hsz,hsl,hobs,hp.inj,λ i b hi=>⟨(hp.own i b hi).1,λ h=>h.2 i hi⟩,hp.ok.lt,λ b h=>h.1,λ b h=>rfl,rfl,rfl,rfl,Nat.le_refl _,λ b _ o=>Iff.rfl,λ _ _ _=>rfl,gO.refl _ _,λ i b hi h=>hp.nst i b hi h,Ev.refl _ _⟩
 refine wp_mono (mX (h _ _) g a w hs) ?_
 rintro e a' w' ⟨g1,s',h3,he,l,r1,obs1,obs',hl,hr,hpk,hm,hR⟩
 obtain ⟨v,hv,hvr⟩:=kg good h3 fn l hl
 have hrun:∀ w2,(results fn a'.tmps).run P w2=.ok (a'.tmps.getD t Go.undef) w2:=λ w2=>by
  rw [pd,Array.mapM_eq_mapM_toList,hres]
  simp [qG]
 obtain ⟨g',e1,e2,e3⟩:=qN [] ids rfl rfl hp.own h3 hvr hr hpk hm
 have:v=a'.tmps.getD t Go.undef:=by
  have:=(hrun w').symm.trans hv
  injection this with h1 _
  exact h1.symm
 exact ⟨he,h3.nd,v,λ w2=>by rw [this]; exact hrun w2,_,_,g',hR,e1,e2,e3⟩
theorem rK:∀ {js:List Nat} {q:List AV} {i:Nat} {c:AV},look (js.zip q) i=some c→∃ k:Nat,js[k]? = some i∧q[k]? = some c
 | [],_,_,_,h=>by simp [look] at h
 | _::_,[],_,_,h=>by simp [look] at h
 | j::js,x::q,i,c,h=>by
  rw [List.zip_cons_cons,aQ] at h
  by_cases e:j=i
  ·rw [if_pos e] at h; cases h; exact ⟨0,by simp [e],rfl⟩
  ·rw [if_neg e] at h
   obtain ⟨k,h1,h2⟩:=rK h
   exact ⟨k+1,by simpa using h1,by simpa using h2⟩
theorem nz:∀ l:List AV,lE l l
 | []=>trivial
 | x::r=>⟨AV.sub_refl x,nz r⟩
theorem vV {C:Cx}{fn:Func}{B:Code}{sl:List (Nat×AV)}{ob:List (Nat×List AV)}(ids vids:List Nat)(NB NE:Nat)(js:List Nat){l l':List AV}{obs qo rob ob':List (Nat×List AV)}{r r':AV}(hnt:C.n=fn.ntmps)
  (hB:vK C.P fn B (js.zip l') qo (λ x y=>x.sub r∧leO y rob)) (hl:ix sl (js.map .tmp)=some l) (hl':AV.mapA.go (iy ids vids) l=some l') (hpk:fo ob ids=some obs) (hmo:fe (iy ids vids) obs=some qo) (hqq:leO qo qo)
  (hnd:nodupB ids=true) (hids:ids.all (λ i=>Nat.blt i (2*M1))=true) (hil:Nat.ble ids.length M1=true) (hdl:Nat.ble NE M1=true) (hdis:ids.all (λ i=>!(cq vids NB NE i))=true)
  (hvd:nodupB vids=true) (hvl:vids.all (λ i=>Nat.blt i M1)=true) (hvn:Nat.ble vids.length 100000=true) (hr:r.mapA (im ids NB NE)=some r') (hro:fe (im ids NB NE) rob=some ob')
  {g:Gh} {a a2:Act} {w:World} (hs:St C.n C.w0 C.F g ⟨sl,ob⟩ a w) (ht:a2.tmps=a.tmps) :
  B.wp C.P (λ e a' w'=>(e=.normal∨e=.ret)∧a'.defers=a2.defers∧∃ v,(∀ w2,(results fn a'.tmps).run C.P w2=.ok v w2)∧∃ g2,St C.n C.w0 C.F g2 ⟨(cD (cq vids NB NE) ⟨sl,ob⟩).sl,ob'++(cD (cq vids NB NE) ⟨sl,ob.filter λ p=>!(ids.any (Nat.beq p.1))⟩).ob⟩ a w'∧ARep w' g2 r' v) a2 w:=by
 obtain ⟨a1,a1'⟩:=gY hs _ l hl
 have hlen:(js.map λ j=>a.eval (.tmp j)).length=l.length:=by simpa using a1.symm
 obtain ⟨gc,⟨k1,k2,k3,k4,k5,k6,k7⟩,hpost⟩:=lQ ids vids NB NE hl' (nz l') hpk hmo hqq hnd hids hil hdl hdis hvd hvl hvn hs (avs:=(js.map λ j=>a.eval (.tmp j)).toArray) (by simpa using hlen)
  (λ i c v hc hv=>a1' i c v hc (by simpa using hv))
 refine wp_mono (hB w gc a2 ⟨k1,k2,k3,k4⟩ (by rw [ht,hs.sz,hnt]) (λ i=>?_) k7) ?_
 ·unfold AS.get
  cases hq:look (js.zip l') i with
  | none=>exact .undef _
  | some c =>
   obtain ⟨k,h1,h2⟩:=rK hq
   simp only [Option.getD_some]
   refine k6 k c _ h2 ?_
   have:a2.tmps.getD i Go.undef=a.eval (.tmp i):=by rw [ht]; rfl
   rw [this]
   simp [h1]
 ·rintro e a' w' ⟨he,hd,v,hv,x,y,g',⟨hx,hy⟩,e1,e2,e3⟩
  obtain ⟨g2,f1,f2⟩:=hpost w' v r r' rob ob' g' (hx _ _ _ e1) (λ p hp=>by
   obtain ⟨ds,m1,m2⟩:=oo hy p hp
   exact lr (e2 (p.1,ds) (eH m1)) m2) e3 hr hro
  exact ⟨he,hd,v,hv,g2,f1,f2⟩
theorem xN {C:Cx}{k:FuncId}{sl:List (Nat×AV)}{ob:List (Nat×List AV)}(ids vids:List Nat)(NB NE:Nat)(j:Nat){x:AV}{l':List AV}{obs qo rob ob':List (Nat×List AV)}{r r':AV}{u:FrameMode}
  (hD:tj C.P k l' qo (λ x y=>x.sub r∧leO y rob)) (hl:look sl j=some x) (hl':AV.mapA.go (iy ids vids) [x]=some l') (hpk:fo ob ids=some obs) (hmo:fe (iy ids vids) obs=some qo) (hqq:leO qo qo)
  (hnd:nodupB ids=true) (hids:ids.all (λ i=>Nat.blt i (2*M1))=true) (hil:Nat.ble ids.length M1=true) (hdl:Nat.ble NE M1=true) (hdis:ids.all (λ i=>!(cq vids NB NE i))=true)
  (hvd:nodupB vids=true) (hvl:vids.all (λ i=>Nat.blt i M1)=true) (hvn:Nat.ble vids.length 100000=true) (hr:r.mapA (im ids NB NE)=some r') (hro:fe (im ids NB NE) rob=some ob')
  {g:Gh} {a:Act} {w:World} (hs:St C.n C.w0 C.F g ⟨sl,ob⟩ a w) :
  CallsD C.P k #[a.eval (.tmp j)] u w λ e u' w'=>u'=u∧∃ v,e=.returned v∧∃ g2,St C.n C.w0 C.F g2 ⟨(cD (cq vids NB NE) ⟨sl,ob⟩).sl,ob'++(cD (cq vids NB NE) ⟨sl,ob.filter λ p=>!(ids.any (Nat.beq p.1))⟩).ob⟩ a w':=by
 have hx:ARep w g x (a.eval (.tmp j)):=bq hs (x:=.tmp j) hl
 obtain ⟨gc,⟨k1,k2,k3,k4,k5,k6,k7⟩,hpost⟩:=lQ ids vids NB NE hl' (nz l') hpk hmo hqq hnd hids hil hdl hdis hvd hvl hvn hs (avs:=#[a.eval (.tmp j)]) rfl
  (λ i c v hc hv=>by
   match i,hc,hv with
   | 0,hc,hv=>simp at hc hv; subst hc hv; exact hx)
 refine (hD w gc _ u ⟨k1,k2,k3,k4⟩ k5 k6 k7).mono ?_
 rintro e u' w' ⟨hu,v,he,x,y,g',⟨hx,hy⟩,e1,e2,e3⟩
 obtain ⟨g2,f1,_⟩:=hpost w' v r r' rob ob' g' (hx _ _ _ e1) (λ p hp=>by
   obtain ⟨ds,m1,m2⟩:=oo hy p hp
   exact lr (e2 (p.1,ds) (eH m1)) m2) e3 hr hro
 exact ⟨hu,v,he,g2,f1⟩
theorem wb {P:Program}{tt:List (Nat×TI)}(good:cI P tt){f k:FuncId}{fn:Func}{args:List AV}{obs rob:List (Nat×List AV)}{c:Value}{R0 R1 R2 B:Code}{rid t j q:Nat}{o1 o2:Oper}{s0 s1 s2:AS}{b:Bool}(ids:List Nat)
  (hf:P.funcs[f]? = some fn) (hb:fn.body=some (.seq R0 (.seq (.seq R1 (.cond (.tmp t) (.seq R2 (.region rid #[o1,o2] false)) .skip)) B)))
  (hn:Nat.ble args.length fn.ntmps=true) (hnl:Nat.ble fn.ntmps M1=true)
  (h0:∀ w0 F,awp ⟨P,tt,good,fn.ntmps,hnl,w0,F⟩ R0 (λ e s=>e=.normal∧s=s0) ⟨fy args,obs⟩)
  (h1:∀ w0 F,awp ⟨P,tt,good,fn.ntmps,hnl,w0,F⟩ R1 (λ e s=>e=.normal∧s=s1) s0) (hc:evo s1.sl (.tmp t)=some (.p (eB b)))
  (hF:b=false→∃ sE obs1 obs2,fo sE.ob ids=some obs1∧fe (iW []) obs1=some obs2∧leO obs2 rob∧∀ w0 F g a a2 w,St fn.ntmps w0 F g s1 a w→a2.tmps=a.tmps →
   B.wp P (λ e a' w'=>(e=.normal∨e=.ret)∧a'.defers=a2.defers∧∃ v,(∀ w2,(results fn a'.tmps).run P w2=.ok v w2)∧∃ g2,St fn.ntmps w0 F g2 sE a w'∧ARep w' g2 (.p (.val c)) v) a2 w)
  (hT:b=true→(∀ w0 F,awp ⟨P,tt,good,fn.ntmps,hnl,w0,F⟩ R2 (λ e s=>e=.normal∧s=s2) s1)∧(o1.op=.makeFunc (.func k) #[] #[.tmp j]∧o1.dst=some q∧Nat.blt q fn.ntmps=true∧o1.guard=none∧o2.op=.defer { callee:=.value (.tmp q),args:=#[],argTypes:=#[] }∧o2.dst=none∧o2.guard=none∧Nat.beq j q=false) ∧
   (∀ vs w,(callFunc k vs).run P w=.ok (.enter k vs) w)∧∃ sE sD obs1 obs2 x,look s2.sl j=some x∧fo sD.ob ids=some obs1∧fe (iW []) obs1=some obs2∧leO obs2 rob ∧
    (∀ w0 F g a a2 w,St fn.ntmps w0 F g ⟨(q,.func (.func k) [x])::s2.sl,s2.ob⟩ a w→a2.tmps=a.tmps →
     B.wp P (λ e a' w'=>(e=.normal∨e=.ret)∧a'.defers=a2.defers∧∃ v,(∀ w2,(results fn a'.tmps).run P w2=.ok v w2)∧∃ g2,St fn.ntmps w0 F g2 sE a w'∧ARep w' g2 (.p (.val c)) v) a2 w) ∧
    ∀ w0 F g a w u,St fn.ntmps w0 F g sE a w→CallsD P k #[a.eval (.tmp j)] u w λ e u' w'=>u'=u∧∃ v,e=.returned v∧∃ g2,St fn.ntmps w0 F g2 sD a w') :
  aF P f args obs (λ x y=>x=.p (.val c)∧y=rob):=by
 refine aF.of_sub ?_
 intro w g vs hlt hown hinj hnst k1 k2 hobs
 refine calls_of_wp_defers hf hb ?_
 have hn':=Nat.le_of_ble_eq_true hn
 have hs:St fn.ntmps ⟨w,g.st,g.ow,hlt.gl,(λ i b h=>Nat.lt_of_lt_of_le (hown i b h).2 qB),[]⟩ (λ b=>b < w.heap.size∧∀ i,g.ow i≠some b) g ⟨fy args,obs⟩ { tmps:=vs++Array.replicate (fn.ntmps - vs.size) Go.undef,defers:=[] } w:=by
  refine ⟨rfl,?_,?_,hobs,hinj,?_,hlt.lt,?_,?_,rfl,rfl,rfl,Nat.le_refl _,λ b _ o=>Iff.rfl,λ _ _ _=>rfl,gO.refl _ _,λ i b hi h=>hnst i b hi h,Ev.refl _ _⟩
  ·simp only [Array.size_append,Array.size_replicate]; omega
  ·intro i
   have:=kF args 0 i
   simp only [AS.get,fy,this,Nat.zero_le,if_true,Nat.sub_zero]
   cases ha:args[i]? with
   | none=>exact .undef _
   | some x =>
    have hi:i < args.length:=(List.getElem?_eq_some_iff.1 ha).1
    have hi2:i < vs.size:=by omega
    have e:(vs++Array.replicate (fn.ntmps - vs.size) Go.undef).getD i Go.undef=vs[i]:=by
     simp [Array.getD_eq_getD_getElem?,Array.getElem?_append,hi2]
    simp only [Option.getD_some]
    rw [e]
    exact k2 i x _ ha (Array.getElem?_eq_getElem hi2)
  ·intro i b hi; exact ⟨(hown i b hi).1,λ h=>h.2 i hi⟩
  ·intro b h; exact h.1
  ·intro b h; rfl
 -- behind everything: what is handed back
 have fin:∀ {sE:AS} {obs1 obs2:List (Nat×List AV)} {a:Act} {w':World} {g2:Gh} {v:Value},fo sE.ob ids=some obs1→fe (iW []) obs1=some obs2→leO obs2 rob →
   St fn.ntmps ⟨w,g.st,g.ow,hlt.gl,(λ i b h=>Nat.lt_of_lt_of_le (hown i b h).2 qB),[]⟩ (λ b=>b < w.heap.size∧∀ i,g.ow i≠some b) g2 sE a w'→ARep w' g2 (.p (.val c)) v →
   ∃ v1 r obs' g',Ending.returned v=.returned v1∧(AV.sub r (.p (.val c))∧leO obs' rob)∧ARep w' g' r v1∧(∀ p∈obs',fG w' g' p.1 p.2)∧jF w g w' g':=by
  intro sE obs1 obs2 a w' g2 v p1 p2 p3 hS hv
  obtain ⟨g',e1,e2,e3⟩:=qN [] ids rfl rfl hown hS hv rfl p1 p2
  exact ⟨v,_,_,g',rfl,⟨AV.sub_refl _,p3⟩,e1,e2,e3⟩
 refine wp_seq (wp_mono (h0 _ _ g _ w hs) ?_)
 rintro e a0 w0 ⟨g0,s0',hs0,rfl,rfl⟩
 refine wp_seq (wp_seq (wp_mono (h1 _ _ g0 a0 w0 hs0) ?_))
 rintro e a1 w1 ⟨g1,s1',hs1,rfl,rfl⟩
 have hcv:a1.eval (.tmp t)=.bool b:=bB hs1 hc
 cases hbb:b with
 | false =>
  subst hbb
  refine wp_cond_false hcv (wp_skip ?_)
  obtain ⟨sE,obs1,obs2,p1,p2,p3,hB⟩:=hF rfl
  refine wp_mono (hB _ _ g1 a1 a1 w1 hs1 rfl) ?_
  rintro e a' w' ⟨he,hd,v,hv,g2,hS,hr⟩
  have hd':a'.defers=[]:=hd.trans hs1.nd
  rcases he with rfl | rfl
  ·simp only [bodyPostD,hd',Leaves]; exact ⟨v,hv w',fin p1 p2 p3 hS hr⟩
  ·simp only [bodyPostD,hd',Leaves]; exact ⟨v,hv w',fin p1 p2 p3 hS hr⟩
 | true =>
  subst hbb
  obtain ⟨h2,⟨m1,m2,m3,m4,m5,m6,m7,m8⟩,hen,sE,sD,obs1,obs2,x,hj,p1,p2,p3,hB,hD⟩:=hT rfl
  refine wp_cond_true hcv (wp_seq (wp_mono (h2 _ _ g1 a1 w1 hs1) ?_))
  rintro e a2 w2 ⟨g2,s2',hs2,rfl,rfl⟩
  refine wp_region ?_
  have hx:ARep w2 g2 x (a2.eval (.tmp j)):=bq hs2 (x:=.tmp j) hj
  have hq:q < fn.ntmps:=Nat.blt_eq ▸ m3
  have e1:(execOp a2.eval o1).run P w2=.ok (.value (.func (.func k) #[] #[a2.eval (.tmp j)])) w2:=by simp [execOp,m1,Instr.makeFunc,Act.eval]
  have hs3:=hs2.put (d:=some q) (λ t ht=>by cases ht; exact hq) (x:=.func (.func k) [x]) (v:=.func (.func k) #[] #[a2.eval (.tmp j)]) (.func rfl λ i c v hc hv=>by
   match i,hc,hv with
   | 0,hc,hv=>simp at hc hv; subst hc hv; exact hx)
  obtain ⟨a3,ha3⟩:∃ a3,a3=a2.put (some q) (.func (.func k) #[] #[a2.eval (.tmp j)]):=⟨_,rfl⟩
  rw [← ha3] at hs3
  have hqv:a3.eval (.tmp q)=.func (.func k) #[] #[a2.eval (.tmp j)]:=by
   have:q < a2.tmps.size:=by rw [hs2.sz]; exact hq
   rw [ha3]; simp [Act.put,Act.eval,Array.getD,this]
  have hjq:a3.eval (.tmp j)=a2.eval (.tmp j):=by
   have hne:q≠j:=λ e=>by subst e; simp at m8
   rw [ha3]; simp only [Act.put,Act.eval,Array.getD_eq_getD_getElem?,Array.getElem?_setIfInBounds,if_neg hne]
  have e2:(execOp a3.eval o2).run P w2=.ok (.defer { target:=.fn (.func k) #[a2.eval (.tmp j)],args:=#[] }) w2:=by simp [execOp,m5,resolve,hqv,Deferred.ofValue]
  have hr:List.range (#[o1,o2]:Array Oper).size=[0,1]:=rfl
  rw [hr]
  have g0':(#[o1,o2]:Array Oper)[0]? = some o1:=rfl
  have g1':(#[o1,o2]:Array Oper)[1]? = some o2:=rfl
  simp only [wpOps,g0',g1',Region.wanted,m4,m7,if_true]
  refine .inl ?_
  unfold Oper.wp
  rw [e1]
  simp only [Oper.upon,m2]
  rw [← ha3]
  refine .inl ?_
  rw [e2]
  simp only [Oper.upon,m6,Act.put]
  refine wp_mono (hB _ _ g2 a3 { a3 with defers:={ target:=.fn (.func k) #[a2.eval (.tmp j)],args:=#[] }::a3.defers } w2 hs3 rfl) ?_
  rintro e a' w' ⟨he,hd,v,hv,g3,hS,hrv⟩
  have hnd:a3.defers=[]:=hs3.nd
  rw [hnd] at hd
  have key:Leaves P fn a'.tmps (λ e w'=>∃ v r obs' g',e=.returned v∧(AV.sub r (.p (.val c))∧leO obs' rob)∧ARep w' g' r v∧(∀ p∈obs',fG w' g' p.1 p.2)∧jF w g w' g') a'.defers .returning w':=by
   rw [hd]
   refine leaves_cons (f:=k) (args:=#[a2.eval (.tmp j)]) (by simp) (by simp [invoke,hen]) ?_
   have:=hD _ _ g3 a3 w' .returning hS
   rw [hjq] at this
   refine this.mono ?_
   rintro e u' w'' ⟨hu,v2,he2,g4,hS4⟩
   subst hu he2
   simp only [settle,Leaves]
   refine ⟨v,hv w'',fin p1 p2 p3 hS4 ?_⟩
   cases hrv with
   | p hrv=>cases hrv; exact .p (.val _)
  rcases he with rfl | rfl
  ·exact key
  ·exact key
theorem mR {C:Cx}{c:Code}{s t:AS}(h:M C (λ e s=>e=.normal∧s=t) ⟨.cd c,[],s⟩):awp C c (λ e s=>e=.normal∧s=t) s:=mX h
theorem mE {C:Cx}{s t:AS}(h:cB C s t):M C (λ e s=>e=.normal∧s=t) ⟨.ex .normal,[],s⟩:=⟨t,h,rfl,rfl⟩
end Go.Ab
end
section
set_option linter.unusedVariables false
set_option linter.unusedSimpArgs false
set_option linter.unnecessarySimpa false
namespace Go.Ab.R06
open Go.Proofs Go.Ab Go.Ab.RB
attribute [local irreducible] awp fk aS au aF AV.sub M cB
theorem jj (x:aa):tj Tryz.prog 132 [.ptr 1000000 0] [(1000000,[.ptr 1000001 0]),(1000001,(aa.cs x).map .p)] (λ a b=>a.sub (.tuple [])∧leO b [(1000000,[.ptr 1000001 0]),(1000001,(aa.cs (.mk x.fs x.fat (-1) x.fbad)).map .p)]):=by
 refine xU good [] [1000000,1000001] Tryz.func132 rfl rfl rfl rfl rfl λ w0 F=>mPo (v0:=aa.mk x.fs x.fat (-1) x.fbad) (λ _:aa=>.tuple []) (λ v=>[(1000000,[.ptr 1000001 0]),(1000001,(aa.cs v).map .p)]) ?_
 refine nx 4 rfl (mO rfl (dx rfl rfl rfl rfl rfl rfl rfl rfl (aa.b_outer _) (aa.u_outer _) ?_))
 exact nx 1 rfl (sc rfl (al _) rfl rfl rfl (ah rfl rfl (ah rfl (ak _) rfl)) (sr) ⟨⟨_,rfl,⟨sr,trivial⟩⟩,⟨_,rfl,aw _⟩,trivial⟩)
end Go.Ab.R06
end
section
set_option linter.unusedVariables false
set_option linter.unusedSimpArgs false
set_option linter.unnecessarySimpa false
namespace Go.Ab
theorem tP {w:World}{g:Gh}{tok sz ty:Nat}{es:List PV}{b off cap:Nat}(h:ARep w g (.vec tok sz ty es) (.slice (some ⟨b,off,none⟩) es.length cap))(hc:es.length+1≤cap) :
    ARep w g (.vecp tok sz ty es) (.slice (some ⟨b,off,none⟩) (es.length+1) cap):=by
  generalize hv:Value.slice (some ⟨b,off,none⟩) es.length cap=v at h
  cases h with
  | vecn=>cases hv
  | vece _ _ a=>injection hv with _ _ h3; omega
  | vec how hb hcs hsz hst hr hty =>
    injection hv with h1 h2 h3
    injection h1 with h1
    injection h1 with h4 h5
    subst h3 h4 h5
    exact .vecp how hb hcs hc hsz hst hr hty
section
variable {C:Cx} {o:Oper} {K:AS→Prop} {sl:List (Nat×AV)} {ob:List (Nat×List AV)} {d:Nat}
theorem jD (ty0:Nat){es ys:List PV}{t tx e:TypeId}{i ie:TI}{y:Operand}(D:Nat→Bool)(hDl:∀ i,D i=true→i < M1)(hDd:D d=true)(hy1:ys.length=1)
    (hi:look C.tt t=some i) (hik:i.k=.slice e) (hie:look C.tt e=some ie)
    (hS:qy C sl ob tx y ie.size ys) (hzl:ie.zero.length=ie.size)
    (hlen:(es.length+ys.length)*ie.bytes≤140737488355328) (hlen':es.length+ys.length≤9223372036854775807)
    {g:Gh} {a:Act} {w:World} (hs:St C.n C.w0 C.F g ⟨sl,ob⟩ a w) (base:Option Addr) (cap:Nat) (olds:List Value)
    (hold:(Builtin.firstCells ie.size es.length (.slice base es.length cap)).run C.P w.drew=.ok olds.toArray w.drew) (hol:olds.length=es.length*ie.size)
    (hes:∀ e,e∈es→e.cells.length=ie.size)
    (hoc:∀ (i:Nat) y (j:Nat) x,es[i]? = some y→y.cells[j]? = some x→x.one=true∧∃ u,olds[i*ie.size+j]? = some u∧PRep w g.st x u)
    (hg:cap < es.length+ys.length) (ty:TypeId) (hn:Nat.blt d C.n=true) (hty:ty0=0∨ty0=e+1) :
    ∃ v w' g',(Builtin.append_ #[t,tx] ty #[.slice base es.length cap,a.eval y]).run C.P w=.ok v w' ∧
      St C.n C.w0 C.F g' ⟨(d,.vecp d ie.size ty0 es)::(cD D ⟨sl,ob⟩).sl,(cD D ⟨sl,ob⟩).ob⟩ (a.put (some d) v) w':=by
  obtain ⟨u,h1,h2⟩:=bC C.good hi
  have h3:=cO (h2.trans hik)
  subst h3
  obtain ⟨info,hf1,hf2,hf3,z,hf4,hf5⟩:=hU C.good hie
  obtain ⟨news,hsrc,hnews⟩:=hS g a w hs
  have hfit:=growslice_fits (bytes:=ie.bytes) hg hlen
  have hrun:=run_append_grow_src w t tx ty e info z h1 hf1 hf4 base es.length cap olds (by rw [hf2]; exact hold) (a.eval y) ys.length news (by rw [hf2]; exact hsrc) hg (by omega) (by rw [hf3]; exact hfit)
  obtain ⟨q,hq⟩:∃ q,q=grownCap w (es.length+ys.length) cap e:=⟨_,rfl⟩
  rw [← hq] at hrun
  have hqn:es.length+ys.length≤q:=by
    rw [hq]; unfold grownCap; simp only [Question.cut]; omega
  have hzs:z.cells.size=ie.size:=by rw [← hzl,← hf5,Array.length_toList]
  obtain ⟨c,hc⟩:∃ c,c=(olds++news).toArray++Builtin.zeroCells z.cells (q - (es.length+ys.length)):=⟨_,rfl⟩
  rw [← hc] at hrun
  have hcs:c.size=q*ie.size:=by
    rw [hc]
    simp only [Array.size_append,List.size_toArray,List.length_append,hol,hsrc.newsLen,size_zeroCells,hzs]
    rw [← Nat.add_mul,← Nat.add_mul]; congr 1; omega
  have hget:∀ m,m < es.length*ie.size→c[m]? = olds[m]?:=by
    intro m hm
    rw [hc,Array.getElem?_append]
    simp only [List.size_toArray,List.length_append,hol,hsrc.newsLen]
    rw [if_pos (by omega),List.getElem?_toArray,List.getElem?_append,hol,if_pos hm]
  have hf:=hs.drew.fresh D hDl d hDd (λ o=>o < es.length*ie.size) c e
  have hv:ARep (w.drew.alloc (.cells c e)) ⟨λ b o=>g.st b o∨(b=w.drew.heap.size∧o < es.length*ie.size),λ i=>if i=d then some w.drew.heap.size else if D i then none else g.ow i⟩
      (.vec d ie.size ty0 es) (.slice (some ⟨w.drew.heap.size,0,none⟩) es.length q):=by
    refine u6 (by simp) fv hcs (by omega) hes (λ o=>⟨λ h=>?_,λ h=>.inr ⟨rfl,h⟩⟩) (λ i y j x hy hx=>?_) hty
    · rcases h with h | h
      · exact absurd (hs.lt _ _ h) (Nat.lt_irrefl _)
      · exact h.2
    · have hev:=iT (w:=w.drew) (T:=λ o=>o < es.length*ie.size) (ob:=.cells c e) hs.drew.lt
      have hcl:=hes y (List.mem_of_getElem? hy)
      have hjl:j < ie.size:=by rw [← hcl]; exact (List.getElem?_eq_some_iff.1 hx).1
      have hil:i < es.length:=(List.getElem?_eq_some_iff.1 hy).1
      have hm1:(i+1)*ie.size≤es.length*ie.size:=Nat.mul_le_mul_right _ (by omega)
      rw [Nat.add_mul] at hm1
      obtain ⟨k1,u,hu,hr⟩:=hoc i y j x hy hx
      refine ⟨k1,u,?_,(PRep.mono (w:=w) (w':=w.drew) (st:=g.st) (st':=g.st) (λ b o h=>⟨h,rfl⟩) hr).mono hev⟩
      rw [hget _ (by omega)]; exact hu
  have hp:=hf.put (d:=some d) (λ t ht=>by cases ht; exact Nat.blt_eq ▸ hn) (tP hv (by omega))
  rw [hy1] at hrun
  exact ⟨_,_,_,hrun,hp⟩
theorem rH {t tx e:TypeId}{x y:Operand}{k sz ty:Nat}{es:List PV}{ys:List PV}{i ie:TI}(ho:o.op=.call { callee:=.builtin .append,args:=#[x,y],argTypes:=#[t,tx] })(hd:o.dst=some d)(hn:Nat.blt d C.n=true)
    (hi:look C.tt t=some i) (hik:i.k=.slice e) (hie:look C.tt e=some ie) (hx:evo sl x=some (.vec k sz ty es)) (hk:Nat.blt k M1=true) (hiz:ie.size=sz) (hy1:ys.length=1)
    (hS:qy C sl ob tx y ie.size ys) (hsz:∀ y∈ys,y.cells.length=ie.size) (h0:Nat.blt 0 ie.size=true) (hzl:Nat.beq ie.zero.length ie.size=true)
    (hlen:(es.length+1)*ie.bytes≤140737488355328) (hlen':es.length+1≤9223372036854775807) (hty:(Nat.beq ty 0||Nat.beq ty (e+1))=true)
    (hK:K ⟨(d,.vecp d sz ty es)::(cD (λ i=>Nat.beq i k||Nat.beq i d) ⟨sl,ob⟩).sl,(cD (λ i=>Nat.beq i k||Nat.beq i d) ⟨sl,ob⟩).ob⟩):aS C o K ⟨sl,ob⟩:=by
  subst hiz
  rw [← hy1] at hlen hlen'
  have h0':0 < ie.size:=by simpa using h0
  have hzl':=Nat.eq_of_beq_eq_true hzl
  have hk':k < M1:=Nat.blt_eq ▸ hk
  have hdl:d < M1:=by have h1:=Nat.le_of_ble_eq_true C.nl; have h2:d < C.n:=Nat.blt_eq ▸ hn; omega
  have hty':=vU hty
  have hDl:∀ i,(Nat.beq i k||Nat.beq i d)=true→i < M1:=by
    intro i hi
    simp only [Bool.or_eq_true] at hi
    rcases hi with hi | hi <;> (have:=Nat.eq_of_beq_eq_true hi; omega)
  intro g a w hs
  have hxr:=bq hs hx
  generalize hxv:a.eval x=xv at hxr
  have hrun0:∀ v w',(Builtin.append_ #[t,tx] o.type #[xv,a.eval y]).run C.P w=.ok v w'→(execOp a.eval o).run C.P w=.ok (.value v) w':=by
    intro v w' h
    rw [gB ho]
    simp [builtin,hxv,h]
  cases hxr with
  | vecn =>
    obtain ⟨v,w',g',hr,hst⟩:=jD ty (es:=[]) (λ i=>Nat.beq i k||Nat.beq i d) hDl (by simp) hy1 hi hik hie hS hzl' (by simpa using hlen) (by simpa using hlen') hs none 0 []
      (run_firstCells_none w.drew ie.size 0 0 0) (by simp) (by simp) (by simp) (by simp [hy1]) o.type hn hty'
    unfold Oper.wp
    rw [hrun0 _ _ hr]
    simp only [Oper.upon,hd]
    exact ⟨g',_,hst,hK⟩
  | vece tok sz a0 =>
    obtain ⟨v,w',g',hr,hst⟩:=jD 0 (es:=[]) (λ i=>Nat.beq i k||Nat.beq i d) hDl (by simp) hy1 hi hik hie hS hzl' (by simpa using hlen) (by simpa using hlen') hs (some a0) 0 []
      (run_firstCells_some w.drew ie.size 0 a0 0 0 [] (by simp) (by simp)) (by simp) (by simp) (by simp) (by simp [hy1]) o.type hn hty'
    unfold Oper.wp
    rw [hrun0 _ _ hr]
    simp only [Oper.upon,hd]
    exact ⟨g',_,hst,hK⟩
  | vec how hb hcs hsz' hst hr hty0 =>
    rename_i b off cap c e0
    have hinv:=mB hsz' hb hr
    have hcapE:es.length≤cap:=by cases hr with | nile _=>exact Nat.le_refl _ | slice _ _ hcap=>exact hcap
    by_cases hroom:es.length+ys.length≤cap
    · obtain ⟨u,h1,h2⟩:=bC C.good hi
      have h3:=cO (h2.trans hik)
      subst h3
      obtain ⟨info,hf1,hf2,hf3,z,hf4,hf5⟩:=hU C.good hie
      obtain ⟨news,hsrc,hnews⟩:=hS g a w hs
      have hfit:(off+es.length*ie.size)+news.length≤c.size:=by
        rw [hsrc.newsLen,hcs,Nat.add_assoc,← Nat.add_mul]; exact Nat.add_le_add_left (Nat.mul_le_mul_right _ hroom) _
      have hstc:=run_storeCells_at C.P b (off+es.length*ie.size) e0 news 0 c w hb (by simpa using hfit) hsrc.one
      simp only [Nat.add_zero] at hstc
      obtain ⟨c',hc'⟩:∃ c',c'=(c.toList.take (off+es.length*ie.size)++news++c.toList.drop (off+es.length*ie.size+news.length)).toArray:=⟨_,rfl⟩
      rw [← hc'] at hstc
      have hrr:=jG t tx o.type e info h1 hf1 b off es.length cap (a.eval y) ys.length news (by rw [hf2]; exact hsrc) hroom (by rw [hf2]; exact hstc)
      have hcell:∀ j,c'[j]? = if off+es.length*ie.size≤j∧j < off+es.length*ie.size+news.length then news[j - (off+es.length*ie.size)]? else c[j]?:=by
        intro j
        rw [hc']
        have:=jb c.toList news (off+es.length*ie.size) (by simpa using hfit) j
        simpa using this
      have hcs':c'.size=off+cap*ie.size:=by rw [← hcs,hc']; simp; omega
      have hin:=hs.inplace (λ i=>Nat.beq i k||Nat.beq i d) hDl (k:=k) (d:=d) how (by simp) (by simp) hb (c':=c') (hcs'.trans hcs.symm) (λ o h=>by
        have:=(hst o).1 h
        rw [hcell o,if_neg (by omega)]) (λ o=>o < off+es.length*ie.size) (λ o h=>(hst o).1 h)
      have hEv:Ev w g.st (w.setRow b c') (λ b' o=>(b'=b∧o < off+es.length*ie.size)∨(b'≠b∧g.st b' o)):=by
        intro b' o h
        by_cases e:b'=b
        · subst e
          have h5:=(hst o).1 h
          refine ⟨.inl ⟨rfl,h5⟩,?_⟩
          simp only [World.cell?,hb,setRow_heap w b' c c' _ (0,0) hb]
          have:=hcell o
          rw [if_neg (by omega)] at this
          simpa using this
        · exact ⟨.inr ⟨e,h⟩,by simp only [World.cell?,setRow_other w b b' c' e]⟩
      have hv:ARep (w.setRow b c') ⟨λ b' o=>(b'=b∧o < off+es.length*ie.size)∨(b'≠b∧g.st b' o),λ i=>if i=d then some b else if (Nat.beq i k||Nat.beq i d) then none else g.ow i⟩
          (.vec d ie.size ty es) (.slice (some ⟨b,off,none⟩) es.length cap):=by
        refine oj (by simp) (setRow_heap w b c c' e0 (0,0) hb) hcs' hcapE hsz' (λ o=>⟨λ h=>?_,λ h=>.inl ⟨rfl,h⟩⟩) (λ i y j x hy hx=>?_) hty0
        · rcases h with h | h
          · exact h.2
          · exact absurd rfl h.1
        · have hcl:=hsz' y (List.mem_of_getElem? hy)
          have hjl:j < ie.size:=by rw [← hcl]; exact (List.getElem?_eq_some_iff.1 hx).1
          have hil:i < es.length:=(List.getElem?_eq_some_iff.1 hy).1
          obtain ⟨k1,u,hu,hr⟩:=hinv i y j x hy hx
          have hm2:(i+1)*ie.size≤es.length*ie.size:=Nat.mul_le_mul_right _ (by omega)
          rw [Nat.add_mul] at hm2
          refine ⟨k1,u,?_,hr.mono hEv⟩
          rw [hcell,if_neg (by omega)]; exact hu
      have hp:=hin.put (d:=some d) (λ t ht=>by cases ht; exact Nat.blt_eq ▸ hn) (tP hv (by omega))
      rw [hy1] at hrr
      unfold Oper.wp
      rw [hrun0 _ _ hrr]
      simp only [Oper.upon,hd]
      exact ⟨_,_,hp,hK⟩
    · obtain ⟨olds,hol,hocell⟩:∃ olds:List Value,olds.length=es.length*ie.size∧∀ m,m < es.length*ie.size→olds[m]? = c[off+m]? :=
        ⟨((c.toList.drop off).take (es.length*ie.size)),by
          rw [List.length_take,List.length_drop,show c.toList.length=off+cap*ie.size from Array.length_toList.trans hcs]
          have:=Nat.mul_le_mul_right ie.size hcapE; omega,λ m hm=>by rw [List.getElem?_take,if_pos hm,List.getElem?_drop,Array.getElem?_toList]⟩
      have hold:(Builtin.firstCells ie.size es.length (.slice (some ⟨b,off,none⟩) es.length cap)).run C.P w.drew=.ok olds.toArray w.drew:=by
        refine run_firstCells_some w.drew ie.size es.length ⟨b,off,none⟩ es.length cap olds hol (λ j v hv=>?_)
        have hj:j < es.length*ie.size:=by rw [← hol]; exact (List.getElem?_eq_some_iff.1 hv).1
        rw [add_lit,World.cell?_drew]
        simp only [World.cell?,hb]
        rw [← hocell j hj]; simpa using hv
      obtain ⟨v,w',g',hr',hst'⟩:=jD ty (es:=es) (λ i=>Nat.beq i k||Nat.beq i d) hDl (by simp) hy1 hi hik hie hS hzl' hlen hlen' hs (some ⟨b,off,none⟩) cap olds
        hold hol hsz' (λ i y j x hy hx=>by
          obtain ⟨k1,u,hu,hr⟩:=hinv i y j x hy hx
          have hi:i < es.length:=(List.getElem?_eq_some_iff.1 hy).1
          have hj:j < ie.size:=by rw [← hsz' y (List.mem_of_getElem? hy)]; exact (List.getElem?_eq_some_iff.1 hx).1
          have hm2:(i+1)*ie.size≤es.length*ie.size:=Nat.mul_le_mul_right _ (by omega)
          rw [Nat.add_mul] at hm2
          exact ⟨k1,u,by rw [hocell _ (by omega),← Nat.add_assoc]; exact hu,hr⟩) (by omega) o.type hn hty'
      unfold Oper.wp
      rw [hrun0 _ _ hr']
      simp only [Oper.upon,hd]
      exact ⟨g',_,hst',hK⟩
theorem mw {α:Type}(f:α→PV)(l0:List α){z:PV}{t tx e e':TypeId}{x y:Operand}{k sz ty:Nat}{i ie j:TI}(ho:o.op=.call { callee:=.builtin .append,args:=#[x,y],argTypes:=#[t,tx] })(hd:o.dst=some d)(hn:Nat.blt d C.n=true)
    (hi:look C.tt t=some i) (hik:i.k=.slice e) (hie:look C.tt e=some ie) (hj:look C.tt tx=some j) (hjk:j.k=.slice e') (hx:evo sl x=some (.vec k sz ty (l0.map f))) (hk:Nat.blt k M1=true) (hiz:ie.size=sz)
    (hy:evo sl y=some (.p (eL (λ x:PV=>x) [z]))) (hsz:Nat.beq z.cells.length ie.size=true) (h0:Nat.blt 0 ie.size=true) (hzl:Nat.beq ie.zero.length ie.size=true) (hby:Nat.blt 0 ie.bytes=true)
    (hty:(Nat.beq ty 0||Nat.beq ty (e+1))=true) (hlen:(l0.length+1)*ie.bytes≤140737488355328)
    (hK:K ⟨(d,.vecp d sz ty (l0.map f))::(cD (λ i=>Nat.beq i k||Nat.beq i d) ⟨sl,ob⟩).sl,(cD (λ i=>Nat.beq i k||Nat.beq i d) ⟨sl,ob⟩).ob⟩):aS C o K ⟨sl,ob⟩:=by
  have hby':1≤ie.bytes:=Nat.succ_le_of_lt (by simpa using hby)
  have h1:(l0.length+1)*1≤(l0.length+1)*ie.bytes:=Nat.mul_le_mul_left _ hby'
  have hs':∀ y∈[z],y.cells.length=ie.size:=λ y hy=>by rw [List.mem_singleton.1 hy]; exact Nat.eq_of_beq_eq_true hsz
  exact rH (ys:=[z]) ho hd hn hi hik hie hx hk hiz rfl (kS hj hjk hy rfl hs' (by simpa using h0)) hs' h0 hzl (by rw [List.length_map]; exact hlen) (by rw [List.length_map]; omega) hty hK
theorem lm {t e:TypeId}{x y:Operand}{i ie:TI}{tok sz ty:Nat}{es:List PV}{k:IntKind}{n:Int}(ho:o.op=.indexAddr t x y)(hd:o.dst=some d)(hn:Nat.blt d C.n=true)
    (hi:look C.tt t=some i) (hik:i.k=.slice e) (hie:look C.tt e=some ie) (hiz:ie.size=sz) (hx:evo sl x=some (.vecp tok sz ty es)) (hy:evo sl y=some (.p (.val (.int k n)))) (hnn:n=(es.length:Int))
    (hK:K ⟨(d,.elp tok sz)::sl,ob⟩):aS C o K ⟨sl,ob⟩:=by
  subst hiz hnn
  obtain ⟨u,h1,h2⟩:=bC C.good hi
  have h3:=cO (h2.trans hik)
  subst h3
  refine ok_one hd hn (λ g a w hs=>?_) hK
  have h5:=bq hs hx
  generalize hv:a.eval x=v at h5
  cases h5 with
  | vecp how hb hcs hcap hsz hst hr hty =>
    rename_i b off cap c e0
    refine ⟨.pointer (some ⟨b,off+es.length*ie.size,none⟩),?_,.elp how hb ?_ hst⟩
    · have h6:(es.length:Int) < ((es.length+1:Nat):Int):=by omega
      simp [execOp,ho,hv,bB hs hy,Instr.indexAt,asIntOf,run_underlying h1,h6,run_sizeOf C.good hie,add_lit]
    · rw [hcs]
      have:=Nat.mul_le_mul_right ie.size hcap
      rw [Nat.add_mul,Nat.one_mul] at this
      omega
def upP (tok sz:Nat)(z:PV)(x:AV):AV:=match x with
  | .vecp t s ty es=>bif Nat.beq t tok&&Nat.beq s sz then .vec t s ty (es++[z]) else .undef
  | x=>x.dem (Nat.beq · tok)
def upPS (tok sz:Nat)(z:PV):List (Nat×AV)→Option (List (Nat×AV))
  | []=>some []
  | (i,x)::r=>(match frc (upP tok sz z x) with
    | some y=>(match upPS tok sz z r with | some l=>some ((i,y)::l) | none=>none)
    | none=>none)
def wt (tok sz:Nat)(z:PV):List AV→Option (List AV)
  | []=>some []
  | x::r=>(match frc (upP tok sz z x) with
    | some y=>(match wt tok sz z r with | some l=>some (y::l) | none=>none)
    | none=>none)
theorem tv {tok sz:Nat}{z:PV}:∀ {l l':List AV},wt tok sz z l=some l'→l'=l.map (upP tok sz z)
  | [],l',h=>by cases h; rfl
  | x::r,l',h=>by
    unfold wt at h
    split at h
    · rename_i y hy
      split at h
      · rename_i m hm; cases h; rw [sj hy,tv hm]; rfl
      · cases h
    · cases h
def vX (tok sz:Nat)(z:PV):List (Nat×List AV)→Option (List (Nat×List AV))
  | []=>some []
  | (i,cs)::r=>(match Nat.beq i tok with
    | true=>vX tok sz z r
    | false=>(match wt tok sz z cs with
      | some ds=>(match vX tok sz z r with | some l=>some ((i,ds)::l) | none=>none)
      | none=>none))
theorem mN {tok sz:Nat}{z:PV}:∀ {l l':List (Nat×List AV)},vX tok sz z l=some l'→∀ id cs,look l' id=some cs→id≠tok∧∃ ds,look l id=some ds∧cs=ds.map (upP tok sz z)
  | [],l',h,id,cs,hc=>by cases h; cases hc
  | (i,xs)::r,l',h,id,cs,hc=>by
    unfold vX at h
    split at h
    · rename_i hb
      obtain ⟨h1,ds,h2,h3⟩:=mN h id cs hc
      have hi:=Nat.eq_of_beq_eq_true hb
      refine ⟨h1,ds,?_,h3⟩
      rw [aQ,if_neg (λ e'=>h1 (by omega))]
      exact h2
    · rename_i hb
      have hi:i≠tok:=λ e=>by subst e; simp at hb
      split at h
      · rename_i ds hds
        split at h
        · rename_i m hm
          cases h
          rw [aQ] at hc ⊢
          by_cases e1:i=id
          · subst e1
            rw [if_pos rfl] at hc ⊢
            cases hc
            exact ⟨hi,xs,rfl,tv hds⟩
          · rw [if_neg e1] at hc ⊢
            exact mN hm id cs hc
        · cases h
      · cases h
theorem qO {t:TypeId}{x v:Operand}{i:TI}{tok sz:Nat}{z:PV}{sl':List (Nat×AV)}{ob':List (Nat×List AV)}(ho:o.op=.store t x v)(hd:o.dst=none)
    (hi:look C.tt t=some i) (hiz:i.size=sz) (hx:evo sl x=some (.elp tok sz)) (hv:evo sl v=some (.p z)) (hc:(AV.p z).cellsA=some (z.cells.map .p)) (hcl:Nat.beq z.cells.length sz=true) (htok:Nat.blt tok M1=true)
    (h1:sl'=sl.map λ p=>(p.1,upP tok sz z p.2)) (h2:vX tok sz z ob=some ob') (hK:K ⟨sl',ob'⟩):aS C o K ⟨sl,ob⟩:=by
  subst hiz h1
  have htl:tok < M1:=Nat.blt_eq ▸ htok
  have hcl':=Nat.eq_of_beq_eq_true hcl
  intro g a w hs
  have h5:=bq hs hx
  have h6:=bq hs hv
  obtain ⟨hs1,hs2⟩:=io hc h6
  rw [List.length_map] at hs1
  generalize hev:a.eval x=u at h5
  cases h5 with
  | elp how k2 hp hst =>
    rename_i b p c e
    have hone:∀ u∈(a.eval v).cells.toList,u.oneCell'=true:=by
      intro u hu
      obtain ⟨j,hj,rfl⟩:=List.getElem_of_mem hu
      simp only [Array.length_toList] at hj
      exact (hs2 j ((z.cells.map AV.p)[j]'(by simp; omega)) _ (List.getElem?_eq_getElem (by simp; omega)) (by simp [hj])).2
    have hstc:=run_storeCells_at C.P b p e (a.eval v).cells.toList 0 c w k2 (by simp; omega) hone
    simp only [Nat.add_zero,Array.length_toList] at hstc
    obtain ⟨c',hc'⟩:∃ c',c'=(c.toList.take p++(a.eval v).cells.toList++c.toList.drop (p+(a.eval v).cells.size)).toArray:=⟨_,rfl⟩
    rw [← hc'] at hstc
    have hsz':=run_sizeOf C.good hi w
    have hne:(a.eval v).cells.size=i.size:=hs1.trans hcl'
    unfold Oper.wp
    have hrun:(execOp a.eval o).run C.P w=.ok .skip (w.setRow b c'):=by
      simp [execOp,ho,hev,Instr.storeAt,Instr.sureAddr,storeVar,hsz',hne,hstc]
    rw [hrun]
    simp only [Oper.upon,hd,Act.put]
    have hcell:∀ j,c'[j]? = if p≤j∧j < p+i.size then (a.eval v).cells[j - p]? else c[j]?:=by
      intro j
      rw [hc']
      have:=jb c.toList (a.eval v).cells.toList p (by simp; omega) j
      simp only [Array.length_toList,Array.getElem?_toList,hne] at this
      simpa [hne] using this
    have hsize':c'.size=c.size:=by
      rw [hc']; simp; omega
    obtain ⟨g',hg'⟩:∃ g':Gh,g'=⟨λ b' o=>(b'=b∧o < p+i.size)∨(b'≠b∧g.st b' o),g.ow⟩:=⟨_,rfl⟩
    have hst':∀ b' o,g'.st b' o↔(b'=b∧o < p+i.size)∨(b'≠b∧g.st b' o):=λ b' o=>by rw [hg']
    have how':g'.ow=g.ow:=by rw [hg']
    have hev':Ev w g.st (w.setRow b c') g'.st:=by
      intro b2 o2 h2
      by_cases e1:b2=b
      · subst e1
        have:=(hst o2).1 h2
        refine ⟨(hst' _ _).2 (.inl ⟨rfl,by omega⟩),?_⟩
        simp only [World.cell?,k2,setRow_heap w b2 c c' e (0,0) k2]
        have h7:=hcell o2
        rw [if_neg (by omega)] at h7
        simpa using h7
      · exact ⟨(hst' _ _).2 (.inr ⟨e1,h2⟩),by simp only [World.cell?,setRow_other w b b2 c' e1]⟩
    have hnb:∀ id b2,Nat.beq id tok=false→g.ow id=some b2→b2≠b:=λ id b2 hD h e=>by
      subst e
      have:=hs.inj id tok b2 h how
      subst this
      simp at hD
    have hE:EvO (Nat.beq · tok) w g (w.setRow b c') g':=by
      refine ⟨hev',λ id b2 _ h=>by rw [how']; exact h,λ id b2 c2 e2 hD h h2=>⟨c2,(setRow_other w b b2 c' (hnb id b2 hD h)).trans h2,rfl⟩,λ id b2 o2 hD h h3=>?_,λ id b2 es2 k2' hD h h2=>(setRow_other w b b2 c' (hnb id b2 hD h)).trans h2,λ i hi=>?_,λ id b2 o2 hD h _=>setRow_other w b b2 c' (hnb id b2 hD h)⟩
      · rcases (hst' _ _).1 h3 with h4 | h4
        · exact absurd h4.1 (hnb id b2 hD h)
        · exact h4.2
      · cases hq:Nat.beq i tok
        · rfl
        · have:=Nat.eq_of_beq_eq_true hq; have:=rc hi; omega
    have hup:∀ {y:AV} {u:Value},ARep w g y u→ARep (w.setRow b c') g' (upP tok i.size z y) u:=by
      intro y u h
      unfold upP
      split
      · rename_i t s ty es
        cases hq:(Nat.beq t tok&&Nat.beq s i.size)
        · exact .undef _
        · simp only [Bool.and_eq_true] at hq
          have e1:=Nat.eq_of_beq_eq_true hq.1
          have e2:=Nat.eq_of_beq_eq_true hq.2
          subst e1 e2
          rw [cond_true]
          cases h with
          | vecp how2 hb2 hcs2 hcap2 hsz2 hst2 hr2 hty2 =>
            rename_i b2 off cap c2 e2
            rw [how] at how2; cases how2
            rw [k2] at hb2; cases hb2
            have hpo:p=off+es.length*i.size:=by
              rcases Nat.lt_trichotomy p (off+es.length*i.size) with h7 | h7 | h7
              · have:=(hst p).1 ((hst2 p).2 h7); omega
              · exact h7
              · have:=(hst2 (off+es.length*i.size)).1 ((hst _).2 h7); omega
            have hinv:=mB hsz2 k2 hr2
            have hlen:(es++[z]).length=es.length+1:=by simp
            have:=oj (w:=w.setRow b c') (g:=g') (tok:=t) (es:=es++[z]) (cap:=cap) (by rw [how']; exact how) (setRow_heap w b c c' e (0,0) k2) (hsize'.trans hcs2) (by rw [hlen]; exact hcap2) (λ x hx=>by
              rcases List.mem_append.1 hx with hx | hx
              · exact hsz2 x hx
              · rw [List.mem_singleton.1 hx]; exact hcl') (λ o=>by
              rw [hst',hlen,Nat.add_mul,Nat.one_mul]
              exact ⟨λ h=>h.elim (λ h=>by omega) (λ h=>absurd rfl h.1),λ h=>.inl ⟨rfl,by omega⟩⟩) (λ k y j x hy hx=>?_) hty2
            · rw [hlen] at this; exact this
            · have hcl2:y.cells.length=i.size:=by
                rcases List.mem_append.1 (List.mem_of_getElem? hy) with hx | hx
                · exact hsz2 y hx
                · rw [List.mem_singleton.1 hx]; exact hcl'
              have hjl:j < i.size:=by rw [← hcl2]; exact (List.getElem?_eq_some_iff.1 hx).1
              rw [List.getElem?_append] at hy
              split at hy
              · rename_i hlt
                obtain ⟨q1,u,hu,hr⟩:=hinv k y j x hy hx
                have hm2:(k+1)*i.size≤es.length*i.size:=Nat.mul_le_mul_right _ (by omega)
                rw [Nat.add_mul] at hm2
                refine ⟨q1,u,?_,hr.mono hev'⟩
                rw [hcell,if_neg (by omega)]; exact hu
              · rename_i hge
                have hk0:k - es.length=0:=by
                  have:=(List.getElem?_eq_some_iff.1 hy).1
                  simp at this; omega
                rw [hk0] at hy
                simp only [List.getElem?_cons_zero,Option.some.injEq] at hy
                subst hy
                have hke:k=es.length:=by omega
                subst hke
                have hjc:j < (a.eval v).cells.size:=by omega
                have h8:=hs2 j (.p x) _ (by simp [hx]) (Array.getElem?_eq_getElem hjc)
                refine ⟨?_,(a.eval v).cells[j],?_,?_⟩
                · have h9:PV.onesB z.cells=true∨z.one=true:=by
                    cases z with
                    | agg cs =>
                      simp only [AV.cellsA] at hc
                      cases ho:PV.onesB cs
                      · rw [ho] at hc; cases hc
                      · exact .inl ho
                    | val _ =>
                      simp only [AV.cellsA] at hc
                      rename_i v0
                      cases ho:v0.oneCell'
                      · rw [ho] at hc; cases hc
                      · exact .inr ho
                    | slice _=>exact .inr rfl
                    | ifc=>exact .inr rfl
                    | aint _=>exact .inr rfl
                  rcases h9 with h9 | h9
                  · exact fY h9 x (List.mem_of_getElem? hx)
                  · have:z.cells=[z]:=by cases z <;> first | rfl | (simp [PV.one] at h9)
                    rw [this] at hx
                    have:=(List.getElem?_eq_some_iff.1 hx).1
                    simp at this
                    subst this
                    simp at hx
                    rw [← hx]; exact h9
                · rw [hcell,if_pos ⟨by omega,by omega⟩,hpo]
                  rw [show off+es.length*i.size+j - (off+es.length*i.size)=j by omega]
                  exact Array.getElem?_eq_getElem hjc
                · cases h8.1 with
                  | p hr=>exact hr.mono hev'
      · exact h.dem hE
    refine ⟨g',⟨sl.map λ p=>(p.1,upP tok i.size z p.2),ob'⟩,?_,hK⟩
    refine ⟨hs.nd,hs.sz,λ j=>?_,λ id' cs' h'=>?_,by rw [how']; exact hs.inj,λ j b2 h=>?_,λ b2 o2 h=>?_,hs.fl,λ b2 h=>?_,hs.os,hs.out,hs.tape,?_,λ b2 h o2=>?_,by rw [how']; exact hs.owf,hs.shf.next (λ _ b c e _ _ h=>(lD k2 hsize').1 b c e h),λ j b2 hj h o2 h3=>?_,hs.ev0.trans hev'⟩
    · have h:=hs.sl j
      simp only [AS.get,ia]
      simp only [AS.get] at h
      cases hl:look sl j with
      | none=>simp only [Option.map_none,Option.getD_none]; exact .undef _
      | some x=>rw [hl] at h; simpa using hup h
    · obtain ⟨hne',ds,m1,rfl⟩:=mN h2 id' cs' h'
      obtain ⟨b2,c2,e2,n1,n2,n3,n4,n5⟩:=hs.ob id' ds m1
      have hD:Nat.beq id' tok=false:=by
        cases hq:Nat.beq id' tok
        · rfl
        · exact absurd (Nat.eq_of_beq_eq_true hq) hne'
      have hb2:=hnb id' b2 hD n1
      refine ⟨b2,c2,e2,by rw [how']; exact n1,(setRow_other w b b2 c' hb2).trans n2,by simpa using n3,λ o2 h3=>?_,λ j y hy=>?_⟩
      · rcases (hst' _ _).1 h3 with h4 | h4
        · exact hb2 h4.1
        · exact n4 o2 h4.2
      · simp only [List.getElem?_map,Option.map_eq_some_iff] at hy
        obtain ⟨y0,hy0,rfl⟩:=hy
        obtain ⟨u,hu,hr⟩:=n5 j y0 hy0
        exact ⟨u,hu,hup hr⟩
    · rw [how'] at h
      have:=hs.own j b2 h; exact ⟨by simpa using this.1,this.2⟩
    · rcases (hst' _ _).1 h with h4 | h4
      · have:=(hs.own tok b how).1; rw [h4.1]; simpa using this
      · have:=hs.lt b2 o2 h4.2; simpa using this
    · have hne:b2≠b:=λ e=>(hs.own tok b how).2 (e ▸ h)
      exact (setRow_other w b b2 c' hne).trans (hs.fr b2 h)
    · have:=hs.size; simpa using this
    · have hne:b2≠b:=λ e=>(hs.own tok b how).2 (e ▸ h)
      exact ⟨λ h3=>by
        rcases (hst' _ _).1 h3 with h4 | h4
        · exact absurd h4.1 hne
        · exact (hs.stf b2 h o2).1 h4.2,λ h3=>(hst' _ _).2 (.inr ⟨hne,(hs.stf b2 h o2).2 h3⟩)⟩
    · rcases (hst' _ _).1 h3 with h4 | h4
      · have h7:g.ow j=some b2:=(hs.owf j hj (C.w0.lo j b2 h)).trans h
        have:=hs.inj j tok b2 h7 (by rw [h4.1]; exact how)
        omega
      · exact hs.nst j b2 hj h o2 h4.2
end
def nb (c:Nat)(imp:List Nat):eg→eg→Prop
  | (k,d,v)::r,(k',d',v')::r'=>(k=k'∧d=d'∧(imp.any (Nat.beq k)=true∨v c=v' c))∧nb c imp r r'
  | [],[]=>True
  | _,_=>False
theorem nQ {c:Nat}{imp:List Nat}:∀ {r1 r2:eg},nb c imp r1 r2→∀ k p,imp.any (Nat.beq k)=false→cp r2 k=some p→∃ v,cp r1 k=some (p.1,v)∧v c=p.2 c
  | [],[],_,k,p,_,h=>by cases h
  | (k1,d1,v1)::r,(k2,d2,v2)::r',⟨⟨e1,e2,e3⟩,hr⟩,k,p,hk,h=>by
    subst e1 e2
    simp only [cp] at h ⊢
    cases hb:Nat.beq k1 k
    · rw [hb,cond_false] at h
      rw [cond_false]
      exact nQ hr k p hk h
    · rw [hb,cond_true] at h
      cases h
      rw [cond_true]
      have:=Nat.eq_of_beq_eq_true hb
      subst this
      exact ⟨v1,rfl,e3.resolve_left (by rw [hk]; exact λ h=>by cases h)⟩
  | [],_::_,h,_,_,_,_=>h.elim
  | _::_,[],h,_,_,_,_=>h.elim
theorem tG {C:Cx}{ops:Array Oper}{S1 S2:dV}{c k:Nat}{r1 r2:eg}{imp:List Nat}(h1:lks (cH r2 S2.m++S2.bas S2.m) ((cH r1 S1.m++S1.bas S1.m).map (·.1))=some ((cH r1 S1.m++S1.bas S1.m).map (·.2)))
    (h2:lkE (S1.obj S1.m) (S2.obj S2.m) (S1.obj S1.m)) (h3:nb c imp r1 r2) :
    DS C ops S2 (λ rev2=>(⟨cH rev2 S2.m++S2.bas S2.m,S2.obj S2.m⟩:AS).le ⟨cH r1 S1.m++S1.bas S1.m,S1.obj S1.m⟩∧nb c imp r1 rev2) [] k r2:=by
  refine ⟨⟨λ j x h=>?_,λ id cs h=>⟨cs,(sP h2 id cs h).trans h,Nat.le_refl _,λ i c d a b=>by rw [a] at b; cases b; exact AV.sub_refl _⟩⟩,h3⟩
  have:=qT h1 j x h
  unfold AS.get
  rw [this]
  exact AV.sub_refl _
theorem s6 {C:Cx}{id:Nat}{ops:Array Oper}{Q:Exit→AS→Prop}{sl:List (Nat×AV)}{ob:List (Nat×List AV)}(S1 S2:dV){k0 k1 k2:Nat}{r:List Nat}(hm:C.P.follows .mixedOrders=true)
    (hi1:S1.imp=k0::k1::k2::r) (hi2:S2.imp=k0::k2::k1::r) (hlen1:S1.imp.length=S1.m) (hlen2:S2.imp.length=S2.m) (hob1:S1.obj 0=ob) (hob2:S2.obj 1=S1.obj 1) (hb:dF sl (S1.bas 0)) (hb2:S2.bas 1=S1.bas 1)
    (hbas1:∀ j,j < S1.m→dF (trL (S1.D j) (S1.bas j)) (S1.bas (j+1))) (hbas2:∀ j,j < S2.m→dF (trL (S2.D j) (S2.bas j)) (S2.bas (j+1)))
    (hnd:nodupB (k0::k1::k2::r)=true) (hin:(k0::k1::k2::r).all (λ i=>Nat.blt i ops.size)=true) (hch1:chainB ops (k0::k1::r)=true) (hch2:chainB ops (k0::k2::r)=true)
    (hord:(ops.toList.zipIdx.all λ p=>p.1.after.toList.all λ e=>!(Region.binds .any e)||Nat.blt e.on p.2)=true)
    (h:DS C ops S1 (λ rev1=>Q .normal ⟨cH rev1 S1.m++S1.bas S1.m,S1.obj S1.m⟩∧DS C ops S2 (λ rev2=>(⟨cH rev2 S2.m++S2.bas S2.m,S2.obj S2.m⟩:AS).le ⟨cH rev1 S1.m++S1.bas S1.m,S1.obj S1.m⟩∧nb 1 (k1::k2::r) rev1 rev2) ops.toList 0 []) ops.toList 0 []):awp C (.region id ops true) Q ⟨sl,ob⟩:=by
  intro g a w hs
  have hnd2:nodupB S2.imp=true:=by
    rw [hi2]
    simp only [nodupB,List.any_cons,Bool.not_or,Bool.and_eq_true,Bool.not_eq_true'] at hnd ⊢
    obtain ⟨⟨b1,b2,b3⟩,⟨a1,a2⟩,a3,a4⟩:=hnd
    refine ⟨⟨b2,b1,b3⟩,⟨?_,a3⟩,a2,a4⟩
    cases hq:Nat.beq k2 k1
    · rfl
    · rw [Nat.eq_of_beq_eq_true hq] at a1; rw [Nat.beq_refl] at a1; cases a1
  have hin2:S2.imp.all (λ i=>Nat.blt i ops.size)=true:=by
    rw [hi2]
    simp only [List.all_cons,Bool.and_eq_true] at hin ⊢
    exact ⟨hin.1,hin.2.2.1,hin.2.1,hin.2.2.2⟩
  obtain ⟨fin1,⟨hf1,h2⟩,hP1⟩:=rj.mk' hlen1 hbas1 (by rw [hi1]; exact hnd) (by rw [hi1]; exact hin) hord h
  obtain ⟨fin2,⟨hf2,hag⟩,hP2⟩:=rj.mk' hlen2 hbas2 hnd2 hin2 hord h2
  have chain:∀ (x y:Nat) (S:dV),S.imp=k0::x::y::r→chainB ops (k0::y::r)=true→chainB ops (k0::x::r)=true→∀ (listed:Array Bool) (j i q:Nat),uC ops S listed j→i∈Region.ready .any ops listed→S.imp[q]? = some i→j < q→q=2∧j=1:=by
    intro x y S hS hcy hcx listed j i q hI hi hq hjq
    obtain ⟨h1,o,ho,hafter⟩:=mem_ready.1 hi
    have use:∀ z zi,S.imp[z]? = some zi→iL ops 4 o zi=true→z < j:=by
      intro z zi hz hb
      exact (hI.2.1 z zi hz).1 (gh hI.2.2 4 o zi hb hafter)
    match q,hq,hjq with
    | 0,_,hjq=>omega
    | 1,hq,hjq =>
      exfalso
      rw [hS] at hq
      have b1:=gS hcx 0 k0 i o rfl (by simpa using hq) ho
      have:=use 0 k0 (by rw [hS]; rfl) b1
      omega
    | 2,hq,hjq =>
      rw [hS] at hq
      have b1:=gS hcy 0 k0 i o rfl (by simpa using hq) ho
      have:=use 0 k0 (by rw [hS]; rfl) b1
      exact ⟨rfl,by omega⟩
    | q+3,hq,hjq =>
      exfalso
      rw [hS] at hq
      simp only [List.getElem?_cons_succ] at hq
      have hql:q < r.length:=(List.getElem?_eq_some_iff.1 hq).1
      cases q with
      | zero =>
        have b1:=gS hcy 1 y i o rfl (by simpa using hq) ho
        have:=use 2 y (by rw [hS]; rfl) b1
        omega
      | succ q =>
        have b1:=gS hcy (q+2) r[q] i o (by simp [List.getElem?_eq_getElem (show q < r.length by omega)]) (by simpa using hq) ho
        have:=use (q+3) r[q] (by rw [hS]; simp [List.getElem?_eq_getElem (show q < r.length by omega)]) b1
        omega
  have two:=jX hP2 hf2 hf1 2 (λ fuel listed g a w sl' j hj hat i q hi hq hjq=>by
    have:=chain k2 k1 S2 hi2 hch1 hch2 listed j i q hat.inv hi hq hjq; omega)
  refine wp_region_any hm ?_
  refine (jX hP1 (AS.le_refl _) hf1 0 ?_).1 _ _ g a _ sl 0 (Nat.zero_le _) (PAt.start hb (by rw [hob1]; exact hs.drew))
  intro fuel listed g a w sl' j _ hat i q hi hq hjq
  obtain ⟨rfl,rfl⟩:=chain k1 k2 S1 hi1 hch2 hch1 listed j i q hat.inv hi hq hjq
  have hik:i=k2:=by rw [hi1] at hq; simpa using hq.symm
  subst hik
  have hno:∀ k,(k1::i::r).any (Nat.beq k)=true→listed.getD k false=false:=by
    intro k hk
    obtain ⟨x,hx,hkx⟩:=List.any_eq_true.1 hk
    have:=Nat.eq_of_beq_eq_true hkx
    subst this
    obtain ⟨z,hz⟩:=List.mem_iff_getElem?.1 hx
    have:=hat.inv.2.1 (z+1) k (by rw [hi1]; simpa using hz)
    cases hl:listed.getD k false with
    | false=>rfl
    | true=>have:=this.1 hl; omega
  have hm2:1≤S2.m:=by rw [← hlen2,hi2]; simp
  refine two.2 fuel listed g a w sl' 1 i (.inr ⟨Nat.le_refl _,by rw [hi2]; rfl⟩) hi ⟨hat.sz,hat.un,⟨hm2,λ z k hz=>?_,hat.inv.2.2⟩,⟨λ z x hx=>hat.kn.1 z x (by rw [← hb2]; exact hx),λ k p hk hp=>?_⟩,by rw [hob2]; exact hat.st⟩
  · cases z with
    | zero =>
      have hz0:k=k0:=by rw [hi2] at hz; simpa using hz.symm
      subst hz0
      have:=hat.inv.2.1 0 k (by rw [hi1]; rfl)
      exact this
    | succ z =>
      constructor
      · intro hl
        have hmem:k∈(k1::i::r):=by
          have:=List.mem_of_getElem? (show (i::k1::r)[z]? = some k by rw [hi2] at hz; simpa using hz)
          simp only [List.mem_cons] at this ⊢
          rcases this with h | h | h
          · exact .inr (.inl h)
          · exact .inl h
          · exact .inr (.inr h)
        rw [hno k (List.any_eq_true.2 ⟨k,hmem,by simp⟩)] at hl
        cases hl
      · intro h; omega
  · have hk':(k1::i::r).any (Nat.beq k)=false:=by
      cases hq:(k1::i::r).any (Nat.beq k) with
      | false=>rfl
      | true=>rw [hno k hq] at hk; cases hk
    obtain ⟨v,hv1,hv2⟩:=nQ hag k p hk' hp
    have:=hat.kn.2 k _ hk hv1
    rw [← hv2]; exact this
theorem mSP {C:Cx}{Q:Exit→AS→Prop}{k:List Fr}{ops:Array Oper}{sl:List (Nat×AV)}{ob:List (Nat×List AV)}(S1 S2:dV){id k0 k1 k2:Nat}{r:List Nat}(hm:C.P.follows .mixedOrders=true)
    (hi1:S1.imp=k0::k1::k2::r) (hi2:S2.imp=k0::k2::k1::r) (hlen1:S1.imp.length=S1.m) (hlen2:S2.imp.length=S2.m) (hob1:S1.obj 0=ob) (hob2:S2.obj 1=S1.obj 1) (hb:dF sl (S1.bas 0)) (hb2:S2.bas 1=S1.bas 1)
    (hbas1:∀ j,j < S1.m→dF (trL (S1.D j) (S1.bas j)) (S1.bas (j+1))) (hbas2:∀ j,j < S2.m→dF (trL (S2.D j) (S2.bas j)) (S2.bas (j+1)))
    (hnd:nodupB (k0::k1::k2::r)=true) (hin:(k0::k1::k2::r).all (λ i=>Nat.blt i ops.size)=true) (hch1:chainB ops (k0::k1::r)=true) (hch2:chainB ops (k0::k2::r)=true)
    (hord:(ops.toList.zipIdx.all λ p=>p.1.after.toList.all λ e=>!(Region.binds .any e)||Nat.blt e.on p.2)=true)
    (h:DS C ops S1 (λ rev1=>M C Q ⟨.ex .normal,k,⟨cH rev1 S1.m++S1.bas S1.m,S1.obj S1.m⟩⟩∧DS C ops S2 (λ rev2=>(⟨cH rev2 S2.m++S2.bas S2.m,S2.obj S2.m⟩:AS).le ⟨cH rev1 S1.m++S1.bas S1.m,S1.obj S1.m⟩∧nb 1 (k1::k2::r) rev1 rev2) ops.toList 0 []) ops.toList 0 []) :
    M C Q ⟨.cd (.region id ops true),k,⟨sl,ob⟩⟩ :=
  s6 S1 S2 hm hi1 hi2 hlen1 hlen2 hob1 hob2 hb hb2 hbas1 hbas2 hnd hin hch1 hch2 hord h
end Go.Ab
end
section
set_option linter.unusedVariables false
set_option linter.unusedSimpArgs false
set_option linter.unnecessarySimpa false
namespace Go.Ab.R06
open Go.Proofs Go.Ab Go.Ab.RB
attribute [local irreducible] awp fk aS au aF AV.sub M cB
def fU (n_0:Int):Option Bool :=
 (
   if (-9007199254740992)≤n_0 then
    some (decide (n_0≤9007199254740992))
   else
    some false
  : Option Bool).bind λ t2 =>
 some t2
set_option maxHeartbeats 4000000 in
theorem ks (n_0:Int)(r:Bool)(h0:fU n_0=some r):au Tryz.prog 171 [eI n_0] (·=.p (eB r)):=by
 unfold fU at h0
 refine aW good Tryz.func171 rfl rfl rfl λ w0=>mP (λ v:Bool=>.p (eB v)) ?_
 refine nx 5 rfl (bd h0 λ o4 h1 h0=>?_)
 refine kN o4 (λ v5=>⟨[(2,.p (eB v5))],[]⟩) ?_ ?_
 ·exact nx 2 rfl (mQ (oi h0) rfl (sr))
 refine nx 4 rfl (fD [4,5] h1 rfl (λ c1 h1=>?_) λ c1 h1=>?_)
 ·exact nx 5 rfl (eX _ (oi h1).symm (gE rfl rfl))
 exact nx 5 rfl (eX _ (oi h1).symm (gE rfl rfl))
def cm (s7:Bytes):Nat→Int→Option (Unit⊕Bool)
 | 0,_=>none
 | m+1,t16 =>
 if t16 < (s7.length:Int) then
  (
    ck ((0:Int)≤t16∧t16 < (s7.length:Int)) <|
    if byt s7 t16 < 48 then
     some true
    else
     ck ((0:Int)≤t16∧t16 < (s7.length:Int)) <|
     some (decide (57 < byt s7 t16))
   : Option Bool).bind λ t21 =>
  if t21=true then
   some (.inr false)
  else
   ck (inR (t16+1)) <|
   cm s7 m (t16+1)
 else
  some (.inl ())
def d4 (n:Nat)(s_0:Bytes):Option Bool :=
 jn (
   (
     if 0 < (s_0.length:Int) then
      ck ((0:Int)≤0∧0 < (s_0.length:Int)) <|
      some (decide (byt s_0 0=45))
     else
      some false
    : Option Bool).bind λ t3 =>
   if t3=true then
    ck ((0:Int)≤1∧1≤(s_0.length:Int)∧(s_0.length:Int)≤(s_0.length:Int)) <|
    if sub s_0 1 (s_0.length:Int)=([48]:Bytes) then
     some (.inr false)
    else
     some (.inl (sub s_0 1 (s_0.length:Int)))
   else
    some (.inl s_0)
  : Option (Bytes⊕Bool)) λ s7 =>
 jn (cm s7 n 0) λ q31 =>
 (
   if s7=([]:Bytes) then
    some false
   else
    ck ((0:Int)≤0∧0 < (s7.length:Int)) <|
    if byt s7 0=48 then
     some (decide ((s7.length:Int)=1))
    else
     some true
  : Option Bool).bind λ t28 =>
 some t28
set_option maxHeartbeats 4000000 in
theorem ls (n:Nat)(s_0:Bytes)(r:Bool)(h0:d4 n s_0=some r):au Tryz.prog 208 [eS s_0] (·=.p (eB r)):=by
 unfold d4 at h0
 refine aW good Tryz.func208 rfl rfl rfl λ w0=>mP (λ v:Bool=>.p (eB v)) ?_
 refine nx 5 rfl ?_
 obtain ⟨o34,h1,hL0,hR0⟩:=cz h0
 refine kX (λ v35:Bytes=>o34=.inl v35) (λ v35=>⟨[(0,.p (eS v35))],[]⟩) (λ v35 hv=>?_) ?_
 ·have h0:=hL0 _ hv
  refine nx 5 rfl (oLs rfl ?_)
  refine nx 3 rfl ?_
  obtain ⟨o36,h1,hL0,hR0⟩:=cz h0
  refine kEx 0 (λ v37:Unit=>o36=.inl v37) (λ v37=>⟨[(0,.p (eS v35))],[]⟩) (λ v37 hv=>?_) ?_
  ·have h0:=hL0 _ hv
   refine nx 2 rfl (bd h0 λ o38 h1 h0=>?_)
   refine kN o38 (λ v39=>⟨[(2,.p (eB v39))],[]⟩) ?_ ?_
   ·exact nx 2 rfl (mQ (oi h0) rfl (sr))
   refine nx 2 rfl (oS rfl rfl ?_)
   refine nx 1 rfl (fN [33,34] h1 rfl (λ c25 h1=>?_) λ c25 h1=>?_)
   ·exact nx 11 rfl (eX _ (oi h1).symm (gE rfl rfl))
   refine nx 1 rfl (oI h1 rfl λ hk26 h1=>?_)
   refine nx 2 rfl (fN [37,38] h1 rfl (λ c27 h1=>?_) λ c27 h1=>?_)
   ·refine nx 1 rfl (oLs rfl ?_)
    exact nx 5 rfl (eX _ (oi h1).symm (gE rfl rfl))
   exact nx 7 rfl (eX _ (oi h1).symm (gE rfl rfl))
  refine lG (λ (q40:Int)=>⟨[(0,.p (eS v35)),(17,.p (eI (v35.length:Int))),(18,.p (eI q40))],[]⟩) (λ m (q40:Int)=>cm v35 m q40) (λ _=>rfl) 0 h1 (gE rfl rfl) ?_
  rintro m t16 h1
  replace h1:cm v35 (m+1) t16=some o36:=h1
  rw [cm] at h1
  refine nx 5 rfl (fD [19] h1 rfl (λ c17 h1=>?_) λ c17 h1=>?_)
  ·refine nx 10 rfl (bd h1 λ o41 h2 h1=>?_)
   refine kN o41 (λ v42=>⟨[(0,.p (eS v35)),(17,.p (eI (v35.length:Int))),(18,.p (eI t16)),(30,.p (eB v42))],[]⟩) ?_ ?_
   ·refine nx 1 rfl (fB [30] h1 rfl (λ c22 h1=>?_) λ c22 h1=>?_)
    ·exact nx 6 rfl (mQ (hR0 _ (oi h1).symm) rfl (sr))
    refine nx 3 rfl (oA h1 rfl rfl λ hk23 h1=>?_)
    exact nx 2 rfl (eX (t16+1) h1 (gE rfl rfl))
   refine nx 3 rfl (oI h2 rfl λ hk18 h2=>?_)
   refine nx 2 rfl (fD [24,25] h2 rfl (λ c19 h2=>?_) λ c19 h2=>?_)
   ·exact nx 6 rfl (eX _ (oi h2).symm (gE rfl rfl))
   refine nx 2 rfl (oI h2 rfl λ hk20 h2=>?_)
   exact nx 3 rfl (eX _ (oi h2).symm (gE rfl rfl))
  exact nx 2 rfl (eXi _ (oi h1).symm (gE rfl rfl))
 refine nx 1 rfl (bd h1 λ o43 h2 h1=>?_)
 refine kN o43 (λ v44=>⟨[(0,.p (eS s_0)),(11,.p (eB v44))],[]⟩) ?_ ?_
 ·refine nx 1 rfl (fB [11] h1 rfl (λ c4 h1=>?_) λ c4 h1=>?_)
  ·refine nx 4 rfl (oP h1 rfl rfl rfl λ hk5 h1=>?_)
   refine nx 5 rfl (oS rfl rfl ?_)
   refine nx 1 rfl (fD [15] h1 rfl (λ c6 h1=>?_) λ c6 h1=>?_)
   ·exact nx 6 rfl (mQ (hR0 _ (oi h1).symm) rfl (sr))
   exact nx 2 rfl (eX _ (oi h1).symm (gE rfl rfl))
  exact nx 2 rfl (eX _ (oi h1).symm (gE rfl rfl))
 refine nx 2 rfl (oLs rfl ?_)
 refine nx 2 rfl (fD [6,7] h2 rfl (λ c1 h2=>?_) λ c1 h2=>?_)
 ·refine nx 1 rfl (oI h2 rfl λ hk2 h2=>?_)
  exact nx 3 rfl (eX _ (oi h2).symm (gE rfl rfl))
 exact nx 5 rfl (eX _ (oi h2).symm (gE rfl rfl))
def fZ (n:Nat)(s_0:Bytes):Option (Int×Int) :=
 (d4 n s_0).bind λ r1 =>
 if (!r1)=true then
  some (0,2)
 else
  (jJ s_0 10 64).bind λ r4 =>
  (
    if r4.2=true then
     some true
    else
     (fU r4.1).bind λ r7 =>
     some (!r7)
   : Option Bool).bind λ t9 =>
  if t9=true then
   some (0,5)
  else
   some (r4.1,0)
set_option maxHeartbeats 4000000 in
theorem nX (n:Nat)(s_0:Bytes)(r:Int×Int)(h0:fZ n s_0=some r):au Tryz.prog 196 [eS s_0] (·=.tuple [.p (eI r.1),.p (eI r.2)]):=by
 unfold fZ at h0
 refine aW good Tryz.func196 rfl rfl rfl λ w0=>mP (λ v:Int×Int=>.tuple [.p (eI v.1),.p (eI v.2)]) ?_
 refine nx 9 rfl (bd h0 λ r1 e2 h0=>?_)
 refine oK (ls _ s_0 _ e2) rfl ⟨sr,trivial⟩ Tryz.call208 rfl (nx 2 rfl ?_)
 refine fB [8] h0 rfl (λ c3 h0=>?_) λ c3 h0=>?_
 ·exact nx 7 rfl (mQ (oi h0) rfl (ap ⟨sr,sr,trivial⟩))
 refine nx 5 rfl (bd h0 λ r4 e5 h0=>?_)
 refine oK (lx s_0 10 64 _ e5) rfl ⟨sr,sr,sr,trivial⟩ Tryz.call209 (uq (nE rfl (nE (xz _) sH))) (nx 8 rfl ?_)
 refine bd h0 λ o12 h1 h0=>kN o12 (λ v13=>⟨[(4,.p (eI r4.1)),(20,.p (eB v13))],[]⟩) ?_ ?_
 ·refine nx 1 rfl (fB [20] h0 rfl (λ c10 h0=>?_) λ c10 h0=>?_)
  ·exact nx 7 rfl (mQ (oi h0) rfl (ap ⟨sr,sr,trivial⟩))
  exact nx 9 rfl (mQ (oi h0) rfl (ap ⟨sr,sr,trivial⟩))
 refine nx 2 rfl (mO rfl (xd rfl rfl rfl rfl rfl rfl (.inr ⟨rfl,rfl⟩) ?_))
 refine nx 1 rfl (fB [15,16] h1 rfl (λ c6 h1=>?_) λ c6 h1=>?_)
 ·exact nx 5 rfl (eX _ (oi h1).symm (gE rfl rfl))
 refine nx 1 rfl (bd h1 λ r7 e8 h1=>?_)
 refine oK (ks r4.1 _ e8) rfl ⟨sr,trivial⟩ Tryz.call171 rfl (nx 3 rfl ?_)
 exact eX _ (oi h1).symm (gE rfl rfl)
def bO (s_0:Bytes):Nat→Int→Int→Option (Int×Int)
 | 0,_,_=>none
 | m+1,n11,i12 =>
 (
   if i12 < (s_0.length:Int) then
    some (decide (i12 < 6))
   else
    some false
  : Option Bool).bind λ t14 =>
 if t14=true then
  ck ((0:Int)≤i12∧i12 < (s_0.length:Int)) <|
  (strings_IndexByte ([48,49,50,51,52,53,54,55,56,57,97,98,99,100,101,102]:Bytes) (byt s_0 i12)).bind λ r17 =>
  if r17 < 0 then
   some (n11,i12)
  else
   ck (inR (i12+1)) <|
   bO s_0 m (IntKind.wrap .i32 ((IntKind.wrap .i32 (16*n11))+(IntKind.wrap .i32 (r17)))) (i12+1)
 else
  some (n11,i12)
def dw (n:Nat)(s_0:Bytes):Option (Int×Int×Int) :=
 (bO s_0 n 0 0).bind λ q39 =>
 if q39.2=(s_0.length:Int) then
  some (0,0,40)
 else
  (
    ck ((0:Int)≤q39.2∧q39.2 < (s_0.length:Int)) <|
    if byt s_0 q39.2=125 then
     if q39.2=0 then
      some true
     else
      if 1 < q39.2 then
       ck ((0:Int)≤0∧0 < (s_0.length:Int)) <|
       if byt s_0 0=48 then
        some true
       else
        (fg q39.1).bind λ r32 =>
        some (!r32)
      else
       (fg q39.1).bind λ r34 =>
       some (!r34)
    else
     some true
   : Option Bool).bind λ t36 =>
  if t36=true then
   some (0,0,2)
  else
   ck (inR (q39.2+1)) <|
   some (q39.1,q39.2+1,0)
set_option maxHeartbeats 4000000 in
theorem ky (n:Nat)(s_0:Bytes)(r:Int×Int×Int)(h0:dw n s_0=some r):au Tryz.prog 192 [eS s_0] (·=.tuple [.p (eK .i32 r.1),.p (eI r.2.1),.p (eI r.2.2)]):=by
 unfold dw at h0
 refine aW good Tryz.func192 rfl rfl rfl λ w0=>mP (λ v:Int×Int×Int=>.tuple [.p (eK .i32 v.1),.p (eI v.2.1),.p (eI v.2.2)]) ?_
 refine nx 13 rfl (bd h0 λ o42 h1 h0=>?_)
 refine kE 0 o42 (λ v43=>⟨[(0,.p (eS s_0)),(5,.p (eK .i32 v43.1)),(6,.p (eI v43.2))],[]⟩) ?_ ?_
 ·refine nx 6 rfl (oLs rfl ?_)
  refine nx 2 rfl (fD [32] h0 rfl (λ c25 h0=>?_) λ c25 h0=>?_)
  ·exact nx 8 rfl (mQ (oi h0) rfl (ap ⟨sr,sr,sr,trivial⟩))
  refine nx 4 rfl (bd h0 λ o44 h1 h0=>?_)
  refine kN o44 (λ v45=>⟨[(5,.p (eK .i32 o42.1)),(6,.p (eI o42.2)),(54,.p (eB v45))],[]⟩) ?_ ?_
  ·refine nx 1 rfl (fB [54] h0 rfl (λ c37 h0=>?_) λ c37 h0=>?_)
   ·exact nx 8 rfl (mQ (oi h0) rfl (ap ⟨sr,sr,sr,trivial⟩))
   refine nx 6 rfl (oA h0 rfl rfl λ hk38 h0=>?_)
   exact nx 5 rfl (mQ (oi h0) rfl (ap ⟨sr,sr,sr,trivial⟩))
  refine nx 3 rfl (oI h1 rfl λ hk26 h1=>?_)
  refine nx 2 rfl (fN [36,37] h1 rfl (λ c27 h1=>?_) λ c27 h1=>?_)
  ·refine nx 4 rfl (fD [39,40,41] h1 rfl (λ c28 h1=>?_) λ c28 h1=>?_)
   ·exact nx 14 rfl (eX _ (oi h1).symm (gE rfl rfl))
   refine nx 3 rfl (fD [43,44] h1 rfl (λ c29 h1=>?_) λ c29 h1=>?_)
   ·refine nx 1 rfl (oI h1 rfl λ hk30 h1=>?_)
    refine nx 4 rfl (fD [47,48,49,50] h1 rfl (λ c31 h1=>?_) λ c31 h1=>?_)
    ·exact nx 5 rfl (eX _ (oi h1).symm (gE rfl rfl))
    refine nx 1 rfl (bd h1 λ r32 e33 h1=>?_)
    refine oK (gb o42.1 _ e33) rfl ⟨sr,trivial⟩ Tryz.call206 rfl (nx 3 rfl ?_)
    exact eX _ (oi h1).symm (gE rfl rfl)
   refine nx 7 rfl (bd h1 λ r34 e35 h1=>?_)
   refine oK (gb o42.1 _ e35) rfl ⟨sr,trivial⟩ Tryz.call206 rfl (nx 3 rfl ?_)
   exact eX _ (oi h1).symm (gE rfl rfl)
  exact nx 18 rfl (eX _ (oi h1).symm (gE rfl rfl))
 refine lG (λ (q46:Int×Int)=>⟨[(0,.p (eS s_0)),(5,.p (eK .i32 q46.1)),(6,.p (eI q46.2))],[]⟩) (λ m (q46:Int×Int)=>bO s_0 m q46.1 q46.2) (λ _=>rfl) (0,0) h1 (gE rfl rfl) ?_
 rintro m ⟨n11,i12⟩ h1
 replace h1:bO s_0 (m+1) n11 i12=some o42:=h1
 rw [bO] at h1
 refine nx 2 rfl (bd h1 λ o47 h2 h1=>?_)
 refine kN o47 (λ v48=>⟨[(0,.p (eS s_0)),(5,.p (eK .i32 n11)),(6,.p (eI i12)),(15,.p (eB v48))],[]⟩) ?_ ?_
 ·refine nx 1 rfl (fB [15] h1 rfl (λ c15 h1=>?_) λ c15 h1=>?_)
  ·refine nx 8 rfl (oI h1 rfl λ hk16 h1=>?_)
   refine bd h1 λ r17 e18 h1=>oK (ek ([48,49,50,51,52,53,54,55,56,57,97,98,99,100,101,102]:Bytes) (byt s_0 i12) _ e18) rfl ⟨sr,sr,trivial⟩ Tryz.call85 rfl (nx 8 rfl ?_)
   refine fD [23] h1 rfl (λ c19 h1=>?_) λ c19 h1=>?_
   ·exact nx 2 rfl (eXi _ (oi h1).symm (gE rfl rfl))
   refine nx 12 rfl (oA h1 rfl rfl λ hk20 h1=>?_)
   exact nx 2 rfl (eX (IntKind.wrap .i32 ((IntKind.wrap .i32 (16*n11))+(IntKind.wrap .i32 (r17))),i12+1) h1 (gE rfl rfl))
  exact nx 2 rfl (eXi _ (oi h1).symm (gE rfl rfl))
 refine nx 3 rfl (oLs rfl ?_)
 refine nx 2 rfl (fD [11,12] h2 rfl (λ c13 h2=>?_) λ c13 h2=>?_)
 ·exact nx 4 rfl (eX _ (oi h2).symm (gE rfl rfl))
 exact nx 4 rfl (eX _ (oi h2).symm (gE rfl rfl))
def fx (n:Nat)(s_0:Bytes):Option (Int×Int×Int) :=
 if s_0=([]:Bytes) then
  some (0,0,40)
 else
  ck ((0:Int)≤0∧0 < (s_0.length:Int)) <|
  if byt s_0 0=110 then
   some (10,1,0)
  else
   if byt s_0 0=114 then
    some (13,1,0)
   else
    if byt s_0 0=116 then
     some (9,1,0)
    else
     (
       if byt s_0 0=34 then
        some true
       else
        some (decide (byt s_0 0=92))
      : Option Bool).bind λ t7 =>
     if t7=true then
      ck ((0:Int)≤0∧0 < (s_0.length:Int)) <|
      some (IntKind.wrap .i32 (byt s_0 0),1,0)
     else
      if byt s_0 0=117 then
       if (s_0.length:Int)=1 then
        some (0,0,40)
       else
        ck ((0:Int)≤1∧1 < (s_0.length:Int)) <|
        if byt s_0 1=123 then
         ck ((0:Int)≤2∧2≤(s_0.length:Int)∧(s_0.length:Int)≤(s_0.length:Int)) <|
         (dw n (sub s_0 2 (s_0.length:Int))).bind λ r15 =>
         ck (inR (r15.2.1+2)) <|
         some (r15.1,r15.2.1+2,r15.2.2)
        else
         some (0,0,2)
      else
       some (0,0,2)
set_option maxHeartbeats 4000000 in
theorem nB (n:Nat)(s_0:Bytes)(r:Int×Int×Int)(h0:fx n s_0=some r):au Tryz.prog 174 [eS s_0] (·=.tuple [.p (eK .i32 r.1),.p (eI r.2.1),.p (eI r.2.2)]):=by
 unfold fx at h0
 refine aW good Tryz.func174 rfl rfl rfl λ w0=>mP (λ v:Int×Int×Int=>.tuple [.p (eK .i32 v.1),.p (eI v.2.1),.p (eI v.2.2)]) ?_
 refine nx 10 rfl (oS rfl rfl ?_)
 refine nx 1 rfl (fD [9] h0 rfl (λ c1 h0=>?_) λ c1 h0=>?_)
 ·exact nx 8 rfl (mQ (oi h0) rfl (ap ⟨sr,sr,sr,trivial⟩))
 refine nx 6 rfl (oI h0 rfl λ hk2 h0=>?_)
 refine nx 7 rfl (fD [12,13] h0 rfl (λ c3 h0=>?_) λ c3 h0=>?_)
 ·exact nx 8 rfl (mQ (oi h0) rfl (ap ⟨sr,sr,sr,trivial⟩))
 refine nx 6 rfl (fD [14,15] h0 rfl (λ c4 h0=>?_) λ c4 h0=>?_)
 ·exact nx 8 rfl (mQ (oi h0) rfl (ap ⟨sr,sr,sr,trivial⟩))
 refine nx 6 rfl (fD [16,17] h0 rfl (λ c5 h0=>?_) λ c5 h0=>?_)
 ·exact nx 8 rfl (mQ (oi h0) rfl (ap ⟨sr,sr,sr,trivial⟩))
 refine nx 2 rfl (bd h0 λ o19 h1 h0=>?_)
 refine kN o19 (λ v20=>⟨[(0,.p (eS s_0)),(11,.p (eK .u8 (byt s_0 0))),(18,.p (eB v20))],[]⟩) ?_ ?_
 ·refine nx 1 rfl (fB [18] h0 rfl (λ c8 h0=>?_) λ c8 h0=>?_)
  ·refine nx 4 rfl (oI h0 rfl λ hk9 h0=>?_)
   exact nx 6 rfl (mQ (oi h0) rfl (ap ⟨sr,sr,sr,trivial⟩))
  refine nx 6 rfl (fD [24,25] h0 rfl (λ c10 h0=>?_) λ c10 h0=>?_)
  ·refine nx 5 rfl (oLs rfl ?_)
   refine nx 2 rfl (fD [28] h0 rfl (λ c11 h0=>?_) λ c11 h0=>?_)
   ·exact nx 8 rfl (mQ (oi h0) rfl (ap ⟨sr,sr,sr,trivial⟩))
   refine nx 6 rfl (oI h0 rfl λ hk12 h0=>?_)
   refine nx 2 rfl (fN [31] h0 rfl (λ c13 h0=>?_) λ c13 h0=>?_)
   ·refine nx 5 rfl (oP h0 rfl rfl rfl λ hk14 h0=>?_)
    refine bd h0 λ r15 e16 h0=>oK (ky _ (sub s_0 2 (s_0.length:Int)) _ e16) rfl ⟨sr,trivial⟩ Tryz.call192 rfl (nx 12 rfl ?_)
    refine oA h0 rfl rfl λ hk17 h0=>nx 5 rfl (mG (gE (t:=⟨[(2,.p (eK .i32 r15.1)),(3,.p (eI (r15.2.1+2))),(4,.p (eI r15.2.2))],[]⟩) rfl rfl) ?_)
    exact nx 1 rfl (mQ (oi h0) rfl (ap ⟨sr,sr,sr,trivial⟩))
   exact nx 8 rfl (mQ (oi h0) rfl (ap ⟨sr,sr,sr,trivial⟩))
  exact nx 9 rfl (mQ (oi h0) rfl (ap ⟨sr,sr,sr,trivial⟩))
 refine nx 5 rfl (fD [18,19] h1 rfl (λ c6 h1=>?_) λ c6 h1=>?_)
 ·exact nx 2 rfl (eX _ (oi h1).symm (gE rfl rfl))
 exact nx 5 rfl (eX _ (oi h1).symm (gE rfl rfl))
def cE (n:Nat)(s_0:Bytes):Nat→Int→(List UInt8)→Option ((Int×(List UInt8))⊕(Bytes×Int×Int))
 | 0,_,_=>none
 | m+1,at31,f32 =>
 (
   if at31 < (s_0.length:Int) then
    ck ((0:Int)≤at31∧at31 < (s_0.length:Int)) <|
    some (!decide (byt s_0 at31=34))
   else
    some false
  : Option Bool).bind λ t35 =>
 if t35=true then
  ck ((0:Int)≤at31∧at31≤(s_0.length:Int)∧(s_0.length:Int)≤(s_0.length:Int)) <|
  (ct (sub s_0 at31 (s_0.length:Int))).bind λ r38 =>
  jn (
    if r38.1=92 then
     ck (inR (at31+1)) <|
     ck ((0:Int)≤at31+1∧at31+1≤(s_0.length:Int)∧(s_0.length:Int)≤(s_0.length:Int)) <|
     (fx n (sub s_0 (at31+1) (s_0.length:Int))).bind λ r43 =>
     if r43.2.2=0 then
      ck (inR (r43.2.1+1)) <|
      some (.inl (r43.1,r43.2.1+1))
     else
      some (.inr (.inr (([]:Bytes),0,r43.2.2)))
    else
     (
       if r38.1=65533 then
        if r38.2=1 then
         some true
        else
         if r38.1 < 32 then
          some true
         else
          some (decide (r38.1=127))
       else
        if r38.1 < 32 then
         some true
        else
         some (decide (r38.1=127))
      : Option Bool).bind λ t51 =>
     if t51=true then
      some (.inr (.inr (([]:Bytes),0,2)))
     else
      some (.inl (r38.1,r38.2))
   : Option ((Int×Int)⊕((Int×(List UInt8))⊕(Bytes×Int×Int)))) λ q71 =>
  (ef (bJ.mk f32) q71.1).bind λ r55 =>
  ck (inR (at31+q71.2)) <|
  cE n s_0 m (at31+q71.2) r55.2.2.fbuf
 else
  some (.inl (at31,f32))
def eC (n:Nat)(s_0:Bytes):Option (Bytes×Int×Int) :=
 if s_0=([]:Bytes) then
  some (([]:Bytes),0,40)
 else
  ck ((0:Int)≤0∧0 < (s_0.length:Int)) <|
  if byt s_0 0=34 then
   jn (cE n s_0 n 1 []) λ q69 =>
   if q69.1=(s_0.length:Int) then
    some (([]:Bytes),0,40)
   else
    (gd (bJ.mk q69.2)).bind λ r63 =>
    if 4096 < r63.1 then
     some (([]:Bytes),0,3)
    else
     (gT (bJ.mk r63.2.fbuf)).bind λ r66 =>
     ck (inR (q69.1+1)) <|
     some (r66.1,q69.1+1,0)
  else
   some (([]:Bytes),0,2)
set_option maxHeartbeats 4000000 in
theorem my (n:Nat)(s_0:Bytes)(r:Bytes×Int×Int)(h0:eC n s_0=some r):au Tryz.prog 158 [eS s_0] (·=.tuple [.p (eS r.1),.p (eI r.2.1),.p (eI r.2.2)]):=by
 unfold eC at h0
 refine aW good Tryz.func158 rfl rfl rfl λ w0=>mP (λ v:Bytes×Int×Int=>.tuple [.p (eS v.1),.p (eI v.2.1),.p (eI v.2.2)]) ?_
 refine nx 10 rfl (oS rfl rfl ?_)
 refine nx 1 rfl (fD [13] h0 rfl (λ c1 h0=>?_) λ c1 h0=>?_)
 ·exact nx 8 rfl (mQ (oi h0) rfl (ap ⟨sr,sr,sr,trivial⟩))
 refine nx 6 rfl (oI h0 rfl λ hk2 h0=>?_)
 refine nx 2 rfl (fN [16] h0 rfl (λ c3 h0=>?_) λ c3 h0=>?_)
 ·refine nx 4 rfl (mO rfl (ui rfl rfl rfl rfl rfl rfl rfl ?_))
  refine nx 7 rfl ?_
  obtain ⟨o73,h1,hL0,hR0⟩:=cz h0
  refine kEx 0 (λ v74:Int×(List UInt8)=>o73=.inl v74) (λ v74=>⟨[(0,.p (eS s_0)),(5,.ptr 5 0),(6,.p (eI v74.1))],[(5,[.bptr 93 2 5,.vec 101000 1 (5+1) (v74.2.map eU)])]⟩) (λ v74 hv=>?_) ?_
  ·have h0:=hL0 _ hv
   refine nx 6 rfl (oLs rfl ?_)
   refine nx 2 rfl (fD [73] h0 rfl (λ c62 h0=>?_) λ c62 h0=>?_)
   ·exact nx 8 rfl (mQ (oi h0) rfl (ap ⟨sr,sr,sr,trivial⟩))
   refine nx 5 rfl (bd h0 λ r63 e64 h0=>?_)
   refine mO rfl (aZ [5] [101000] 103000 103001 (j8 (bJ.mk v74.2) _ e64) rfl rfl rfl rfl rfl ⟨sr,trivial⟩ rfl rfl ⟨⟨_,rfl,⟨sr,sr,trivial⟩⟩,trivial⟩ rfl rfl rfl rfl rfl rfl rfl rfl Tryz.call176 rfl rfl ?_)
   refine nx 2 rfl (fD [75] h0 rfl (λ c65 h0=>?_) λ c65 h0=>?_)
   ·exact nx 8 rfl (mQ (oi h0) rfl (ap ⟨sr,sr,sr,trivial⟩))
   refine nx 4 rfl (bd h0 λ r66 e67 h0=>?_)
   refine mO rfl (aZ [5] [103000] 104000 104000 (jf (bJ.mk r63.2.fbuf) _ e67) rfl rfl rfl rfl rfl ⟨sr,trivial⟩ rfl rfl ⟨⟨_,rfl,⟨sr,sr,trivial⟩⟩,trivial⟩ rfl rfl rfl rfl rfl rfl rfl rfl Tryz.call59 rfl rfl ?_)
   refine nx 1 rfl (oA h0 rfl rfl λ hk68 h0=>?_)
   exact nx 5 rfl (mQ (oi h0) rfl (ap ⟨sr,sr,sr,trivial⟩))
  refine lG (λ (q75:Int×(List UInt8))=>⟨[(0,.p (eS s_0)),(5,.ptr 5 0),(6,.p (eI q75.1))],[(5,[.bptr 93 2 5,.vec 101000 1 (5+1) (q75.2.map eU)])]⟩) (λ m (q75:Int×(List UInt8))=>cE n s_0 m q75.1 q75.2) (λ _=>rfl) (1,[]) h1 (fm (mb ⟨er rfl,er rfl,er rfl,trivial⟩ ⟨⟨_,rfl,⟨sr,AV.sub_nilvec _ _ _,trivial⟩⟩,trivial⟩)) ?_
  rintro m ⟨at31,f32⟩ h1
  replace h1:cE n s_0 (m+1) at31 f32=some o73:=h1
  rw [cE] at h1
  refine nx 2 rfl (bd h1 λ o76 h2 h1=>?_)
  refine kN o76 (λ v77=>⟨[(0,.p (eS s_0)),(5,.ptr 5 0),(6,.p (eI at31)),(26,.p (eB v77))],[(5,[.bptr 93 2 5,.vec 101000 1 (5+1) (f32.map eU)])]⟩) ?_ ?_
  ·refine nx 1 rfl (fB [26] h1 rfl (λ c36 h1=>?_) λ c36 h1=>?_)
   ·refine nx 7 rfl (oP h1 rfl rfl rfl λ hk37 h1=>?_)
    refine bd h1 λ r38 e39 h1=>oK (cN (sub s_0 at31 (s_0.length:Int)) _ e39) rfl ⟨sr,trivial⟩ Tryz.call126 rfl (nx 7 rfl ?_)
    obtain ⟨o78,h2,hL1,hR1⟩:=cz h1
    refine kX (λ v79:Int×Int=>o78=.inl v79) (λ v79=>⟨[(0,.p (eS s_0)),(5,.ptr 5 0),(6,.p (eI at31)),(7,.p (eK .i32 v79.1)),(8,.p (eI v79.2))],[(5,[.bptr 93 2 5,.vec 101000 1 (5+1) (f32.map eU)])]⟩) (λ v79 hv=>?_) ?_
    ·have h1:=hL1 _ hv
     refine nx 4 rfl (bd h1 λ r55 e56 h1=>?_)
     refine mO rfl (aZ [5] [101000] 102000 102001 (iv (bJ.mk f32) v79.1 _ e56) rfl rfl rfl rfl rfl ⟨sr,sr,trivial⟩ rfl rfl ⟨⟨_,rfl,⟨sr,sr,trivial⟩⟩,trivial⟩ rfl rfl rfl rfl rfl rfl rfl rfl Tryz.call175 rfl rfl ?_)
     refine nx 4 rfl (oA h1 rfl rfl λ hk57 h1=>?_)
     exact nx 2 rfl (eX (at31+v79.2,r55.2.2.fbuf) h1 (aN (bz 102000 101000 rfl rfl rfl rfl rfl) (gE rfl rfl)))
    refine nx 5 rfl (fD [35] h2 rfl (λ c40 h2=>?_) λ c40 h2=>?_)
    ·refine nx 5 rfl (oA h2 rfl rfl λ hk41 h2=>?_)
     refine oP h2 rfl rfl rfl λ hk42 h2=>bd h2 λ r43 e44 h2=>oK (nB _ (sub s_0 (at31+1) (s_0.length:Int)) _ e44) rfl ⟨sr,trivial⟩ Tryz.call174 rfl (nx 14 rfl ?_)
     refine fN [46] h2 rfl (λ c45 h2=>?_) λ c45 h2=>?_
     ·refine nx 5 rfl (oA h2 rfl rfl λ hk46 h2=>?_)
      exact nx 3 rfl (eX _ (oi h2).symm (gE rfl rfl))
     refine nx 8 rfl (mG (gE (t:=⟨[(2,.p (eS ([]:Bytes))),(3,.p (eI 0)),(4,.p (eI r43.2.2))],[]⟩) rfl rfl) ?_)
     exact nx 1 rfl (mQ (hR0 _ (hR1 _ (oi h2).symm).symm) rfl (ap ⟨sr,sr,sr,trivial⟩))
    refine nx 2 rfl (bd h2 λ o80 h3 h2=>?_)
    refine kN o80 (λ v81=>⟨[(0,.p (eS s_0)),(5,.ptr 5 0),(6,.p (eI at31)),(7,.p (eK .i32 r38.1)),(8,.p (eI r38.2)),(64,.p (eB v81))],[(5,[.bptr 93 2 5,.vec 101000 1 (5+1) (f32.map eU)])]⟩) ?_ ?_
    ·refine nx 1 rfl (fB [64] h2 rfl (λ c52 h2=>?_) λ c52 h2=>?_)
     ·exact nx 8 rfl (mQ (hR0 _ (hR1 _ (oi h2).symm).symm) rfl (ap ⟨sr,sr,sr,trivial⟩))
     exact nx 2 rfl (eX _ (oi h2).symm (gE rfl rfl))
    refine nx 4 rfl (fD [52,53] h3 rfl (λ c47 h3=>?_) λ c47 h3=>?_)
    ·refine nx 4 rfl (fD [55,56,57] h3 rfl (λ c48 h3=>?_) λ c48 h3=>?_)
     ·exact nx 8 rfl (eX _ (oi h3).symm (gE rfl rfl))
     refine nx 4 rfl (fD [59,60,61] h3 rfl (λ c49 h3=>?_) λ c49 h3=>?_)
     ·exact nx 4 rfl (eX _ (oi h3).symm (gE rfl rfl))
     exact nx 4 rfl (eX _ (oi h3).symm (gE rfl rfl))
    refine nx 8 rfl (fD [59,60,61] h3 rfl (λ c50 h3=>?_) λ c50 h3=>?_)
    ·exact nx 4 rfl (eX _ (oi h3).symm (gE rfl rfl))
    exact nx 4 rfl (eX _ (oi h3).symm (gE rfl rfl))
   exact nx 2 rfl (eXi _ (oi h1).symm (gE rfl rfl))
  refine nx 3 rfl (oLs rfl ?_)
  refine nx 2 rfl (fD [20,21] h2 rfl (λ c33 h2=>?_) λ c33 h2=>?_)
  ·refine nx 2 rfl (oI h2 rfl λ hk34 h2=>?_)
   exact nx 3 rfl (eX _ (oi h2).symm (gE rfl rfl))
  exact nx 6 rfl (eX _ (oi h2).symm (gE rfl rfl))
 exact nx 8 rfl (mQ (oi h0) rfl (ap ⟨sr,sr,sr,trivial⟩))
def gK (s_0:Bytes):Option Bool :=
 (
   if (s_0.length:Int)≤4096 then
    (dD s_0).bind λ r2 =>
    some r2
   else
    some false
  : Option Bool).bind λ t4 =>
 some t4
set_option maxHeartbeats 4000000 in
theorem nV (s_0:Bytes)(r:Bool)(h0:gK s_0=some r):au Tryz.prog 188 [eS s_0] (·=.p (eB r)):=by
 unfold gK at h0
 refine aW good Tryz.func188 rfl rfl rfl λ w0=>mP (λ v:Bool=>.p (eB v)) ?_
 refine nx 5 rfl (bd h0 λ o6 h1 h0=>?_)
 refine kN o6 (λ v7=>⟨[(2,.p (eB v7))],[]⟩) ?_ ?_
 ·exact nx 2 rfl (mQ (oi h0) rfl (sr))
 refine nx 2 rfl (oLs rfl ?_)
 refine nx 2 rfl (fD [5,6] h1 rfl (λ c1 h1=>?_) λ c1 h1=>?_)
 ·refine nx 1 rfl (bd h1 λ r2 e3 h1=>?_)
  refine oK (iG s_0 _ e3) rfl ⟨sr,trivial⟩ Tryz.call204 rfl (nx 3 rfl ?_)
  exact eX _ (oi h1).symm (gE rfl rfl)
 exact nx 5 rfl (eX _ (oi h1).symm (gE rfl rfl))
end Go.Ab.R06
end
section
set_option linter.unusedVariables false
set_option linter.unusedSimpArgs false
set_option linter.unnecessarySimpa false
namespace Go.Ab.R06
open Go.Ab Go.Ab.RB
section
variable {α β:Type} {P:α→Prop}
theorem bT {g:Nat→Nat→Option β}{k:Nat→Nat→β→Option α}(x:β)(h:Ev2 g (·=x))(hk:Ev2 (λ n m=>k n m x) P):Ev2 (λ n m=>(g n m).bind (k n m)) P :=
 fJ (·=x) h λ y hy=>by subst hy; exact hk
end
def mA (b:UInt8):Bool:=(decide (97≤b.toNat)&&decide (b.toNat≤122))||(decide (65≤b.toNat)&&decide (b.toNat≤90))||decide (b.toNat=95)
def ux (b:UInt8):Bool:=decide (48≤b.toNat)&&decide (b.toNat≤57)
def idB (b:UInt8):Bool:=mA b||ux b
def cY:Bytes→Bool
 | []=>false
 | b::r=>decide ((b::r).length≤64)&&mA b&&r.all idB
def rG (s:Bytes)(i:Nat):Bool:=mA (s.getD i 0)||(decide (i≠0)&&ux (s.getD i 0))
def mu (p:Nat→Bool):Nat→Nat→Bool
 | _,0=>true
 | i,k+1=>p i&&mu p (i+1) k
theorem ma (p:Nat→Bool):∀ (k i:Nat),mu p i k=true↔∀ j,i≤j→j < i+k→p j=true
 | 0,i=>by simp [mu]; intro j h1 h2; omega
 | k+1,i=>by
  rw [mu,Bool.and_eq_true,ma p k (i+1)]
  constructor
  ·rintro ⟨h1,h2⟩ j h3 h4
   by_cases e:j=i
   ·rw [e]; exact h1
   ·exact h2 j (by omega) (by omega)
  ·intro h
   exact ⟨h i (by omega) (by omega),λ j h1 h2=>h j (by omega) (by omega)⟩
theorem or32:(List.range 256).all (λ n=>(decide ((97:Int)≤iOr .u8 (n:Int) 32)&&decide (iOr .u8 (n:Int) 32≤122)) == ((decide (97≤n)&&decide (n≤122))||(decide (65≤n)&&decide (n≤90))))=true:=by kernel_rfl
theorem xe (b:UInt8):(97≤iOr .u8 ((b.toNat:Nat):Int) 32∧iOr .u8 ((b.toNat:Nat):Int) 32≤122)↔((97≤b.toNat∧b.toNat≤122)∨(65≤b.toNat∧b.toNat≤90)):=by
 have h:=List.all_eq_true.1 or32 b.toNat (List.mem_range.2 b.toNat_lt)
 have h:=eq_of_beq h
 rw [Bool.eq_iff_iff] at h
 simpa using h
theorem oO (b:UInt8):mA b=true↔(97≤b.toNat∧b.toNat≤122)∨(65≤b.toNat∧b.toNat≤90)∨b.toNat=95:=by
 simp [mA,or_assoc]
theorem rh (b:UInt8):ux b=true↔48≤b.toNat∧b.toNat≤57:=by simp [ux]
theorem eqB {a b:Bool}(h:a=true↔b=true):a=b:=Bool.eq_iff_iff.2 h
theorem iU (s:Bytes)(i:Nat):rG s i=true↔mA (s.getD i 0)=true∨(i≠0∧ux (s.getD i 0)=true):=by simp [rG]
theorem oD (s:Bytes):cY s=true↔s≠[]∧s.length≤64∧mu (rG s) 0 s.length=true:=by
 rw [ma]
 cases s with
 | nil=>simp [cY]
 | cons b r =>
  simp only [cY,Bool.and_eq_true,decide_eq_true_eq,List.all_eq_true]
  constructor
  ·rintro ⟨⟨h1,h2⟩,h3⟩
   refine ⟨by simp,h1,λ j _ hj=>?_⟩
   rw [iU]
   cases j with
   | zero=>exact .inl h2
   | succ j =>
    have hm:r.getD j 0∈r:=by
     rw [List.getD_eq_getElem?_getD,List.getElem?_eq_getElem (by simp at hj; omega)]
     exact List.getElem_mem _
    have:=h3 _ hm
    simp only [idB,Bool.or_eq_true] at this
    rcases this with h | h
    ·exact .inl h
    ·exact .inr ⟨by omega,h⟩
  ·rintro ⟨_,h1,h2⟩
   refine ⟨⟨h1,?_⟩,λ x hx=>?_⟩
   ·have:=(iU _ _).1 (h2 0 (by omega) (by simp))
    simpa using this
   ·obtain ⟨j,hj,rfl⟩:=List.getElem_of_mem hx
    have:=(iU _ _).1 (h2 (j+1) (by omega) (by simp; omega))
    rw [show (b::r).getD (j+1) 0=r[j] by simp [hj]] at this
    simp only [idB,Bool.or_eq_true]
    rcases this with h | h
    ·exact .inl h
    ·exact .inr h.2
theorem rP (s:Bytes):cY s=true↔s≠[]∧s.length≤64∧mA (s.getD 0 0)=true∧mu (λ j=>idB (s.getD j 0)) 0 s.length=true:=by
 rw [oD,ma,ma]
 constructor
 ·rintro ⟨h1,h2,h3⟩
  have hl:0 < s.length:=List.length_pos_iff.2 h1
  refine ⟨h1,h2,?_,λ j _ hj=>?_⟩
  ·have:=(iU s 0).1 (h3 0 (by omega) (by omega))
   simpa using this
  ·have:=(iU s j).1 (h3 j (by omega) hj)
   simp only [idB,Bool.or_eq_true]
   rcases this with h | h
   ·exact .inl h
   ·exact .inr h.2
 ·rintro ⟨h1,h2,h3,h4⟩
  refine ⟨h1,h2,λ j _ hj=>(iU s j).2 ?_⟩
  have:=h4 j (by omega) hj
  simp only [idB,Bool.or_eq_true] at this
  by_cases e:j=0
  ·subst e; exact .inl h3
  ·rcases this with h | h
   ·exact .inl h
   ·exact .inr ⟨e,h⟩
end Go.Ab.R06
namespace Go.Ab.R06
open Go.Ab Go.Ab.RB Go.Lib
def lb:Int:=9007199254740992
theorem rZ (v:Int):fU v=some (decide (-lb≤v∧v≤lb)):=by
 simp only [fU]
 by_cases h:(-9007199254740992:Int)≤v
 ·rw [if_pos h]
  by_cases h2:v≤9007199254740992
  ·simp [h2,lb,h]
  ·simp [h2,lb]
 ·rw [if_neg h,Option.bind_some]
  refine congrArg some (eqB ?_)
  rw [decide_eq_true_eq]; unfold lb
  constructor
  ·intro q; cases q
  ·intro q; exact absurd q.1 h
end Go.Ab.R06
namespace Go.Ab.R06
open Go.Ab Go.Ab.RB Go.Lib
theorem t63:(List.range 256).all (λ n=>bR .u8 (n:Int) 63 == ((n % 64:Nat):Int))=true:=by kernel_rfl
theorem tab {f g:Nat→Int}{m:Nat}(h:(List.range m).all (λ n=>f n == g n)=true)(n:Nat)(hn:n < m):f n=g n:=eq_of_beq (List.all_eq_true.1 h n (List.mem_range.2 hn))
def vP (r:Int):Prop:=(0≤r∧r < 55296)∨(57343 < r∧r≤1114111)
theorem iB (l:Bytes)(h:l≠[]):decodeGo (str l)=decodeL l:=by
 unfold decodeGo
 rw [if_neg]
 ·rfl
 ·rw [gi]; intro q; exact h (List.length_eq_zero_iff.1 q)
theorem uA (l:Bytes)(h:l≠[]):1≤(decodeL l).2∧(decodeL l).2≤l.length∧(¬ ((decodeL l).1=65533∧(decodeL l).2=1)→vP ((decodeL l).1:Int)∧encodeRune ((decodeL l).1:Int)=l.take (decodeL l).2):=by
 have hl:0 < l.length:=List.length_pos_iff.2 h
 have hd:=decN l.length (l.getD 0 0).toNat (l.getD 1 0).toNat (l.getD 2 0).toNat (l.getD 3 0).toNat (by omega) (UInt8.toNat_lt _)
 rw [← decodeL_N] at hd
 refine ⟨hd.1,hd.2.1,λ q=>⟨?_,encode_decode l h q⟩⟩
 have:=hd.2.2.2.2.2
 unfold vP; omega
theorem s4 (l:Bytes)(h:l≠[]):validD l=true↔¬ ((decodeL l).1=65533∧(decodeL l).2=1)∧validD (l.drop (decodeL l).2)=true:=by
 rw [validD_step l h]
 by_cases q:(decodeL l).1=65533∧(decodeL l).2=1
 ·simp [q]
 ·simp [q]
end Go.Ab.R06
namespace Go.Ab.R06
open Go.Ab Go.Ab.RB Go.Lib
theorem xG (s:Bytes):gK s=some (decide (s.length≤4096)&&validD s):=by
 unfold gK
 by_cases h:(s.length:Int)≤4096
 ·have hv:dD s=some (validD s):=by unfold dD; exact eh (by omega)
  rw [if_pos h,hv]
  simp; omega
 ·rw [if_neg h]
  simp; intro q; omega
end Go.Ab.R06
namespace Go.Ab.R06
open Go.Ab Go.Ab.RB Go.Lib
end Go.Ab.R06
namespace Go.Ab.R06
open Go.Ab Go.Ab.RB Go.Lib
def badR (c:Nat×Nat):Prop:=(c.1=65533∧c.2=1)∨c.1 < 32∨c.1=127
instance (c:Nat×Nat):Decidable (badR c):=inferInstanceAs (Decidable (_∨_))
end Go.Ab.R06
end
section
set_option linter.unusedVariables false
set_option linter.unusedSimpArgs false
set_option linter.unnecessarySimpa false
namespace Go.Ab
open Go
def tmO:Operand→List Nat
 | .tmp t=>[t]
 | _=>[]
def tmL:List (Nat×Operand)→List Nat
 | []=>[]
 | (_,x)::r=>tmO x++tmL r
def opR (o:Oper):List Nat:=match o.op with
 | .move x=>tmO x
 | .assign x=>tmO x
 | .pick c x y=>tmO c++(tmO x++tmO y)
 | .binOp _ _ x y _=>tmO x++tmO y
 | .unOp _ _ x=>tmO x
 | .fieldAddr _ x _=>tmO x
 | .load _ x=>tmO x
 | .nilCheck x=>tmO x
 | .extract x _=>tmO x
 | .field _ x _=>tmO x
 | .convert _ _ x=>tmO x
 | .build _ parts=>tmL parts.toList
 | .store _ x v=>tmO x++tmO v
 | _=>[]
def lZ (o:Oper):Bool:=match o.op with
 | .call _=>false
 | _=>true
def knKS:eg→Nat→Option Nat
 | [],_=>none
 | (k,d,_)::r,i=>bif Nat.beq d i then some k else knKS r i
def xn (bas:List (Nat×AV))(o:Oper)(rev:eg)(j i:Nat):Option AV:=match look bas i with
 | some x=>some x
 | none=>(match knKS rev i with
  | some k=>(match fE o k with
   | true=>(match cp rev k with
    | some (i',v)=>(match Nat.beq i' i with
     | true=>some (v j)
     | false=>none)
    | none=>none)
   | false=>none)
  | none=>none)
def sJ (bas:List (Nat×AV))(o:Oper)(rev:eg)(j:Nat):List Nat→List (Nat×AV)
 | []=>[]
 | i::r=>(match xn bas o rev j i with
  | some x=>(i,x)::sJ bas o rev j r
  | none=>sJ bas o rev j r)
theorem wY {bas:List (Nat×AV)}{o:Oper}{rev:eg}{j i:Nat}{x:AV}(h:xn bas o rev j i=some x):look bas i=some x∨∃ k v,fE o k=true∧cp rev k=some (i,v)∧v j=x:=by
 unfold xn at h
 split at h
 ·rename_i y hy; cases h; exact .inl hy
 ·split at h
  ·rename_i k hk
   split at h
   ·rename_i hb
    split at h
    ·rename_i i' v hl
     split at h
     ·rename_i hi
      cases h
      exact .inr ⟨k,v,hb,by rw [hl,Nat.eq_of_beq_eq_true hi],rfl⟩
     ·cases h
    ·cases h
   ·cases h
  ·cases h
theorem ki {bas:List (Nat×AV)}{o:Oper}{rev:eg}{j:Nat}:∀ (l:List Nat),KnS bas o rev j (sJ bas o rev j l)
 | []=>trivial
 | i::r=>by
  unfold sJ
  split
  ·rename_i x hx; exact ⟨wY hx,ki r⟩
  ·exact ki r
section
variable {kn sl:List (Nat×AV)} {ob:List (Nat×List AV)} {C:Cx} {o:Oper}
theorem se {F:Option AV→Option AV}{x:Operand}{y:AV}(hs:∀ i x,look kn i=some x→look sl i=some x)(hF:F none=none)(h:F (evo kn x)=some y):F (evo sl x)=some y:=by
 cases hx:evo kn x with
 | none=>rw [hx,hF] at h; cases h
 | some v=>rw [hx] at h; rw [gf hs hx]; exact h
theorem wa {c x y:Operand}{z:AV}(hs:∀ i x,look kn i=some x→look sl i=some x)(h:pkP kn x y (evo kn c)=some z):pkP sl x y (evo sl c)=some z:=by
 cases hc:evo kn c with
 | none=>rw [hc] at h; cases h
 | some v =>
  rw [hc] at h
  rw [gf hs hc]
  unfold pkP at h ⊢
  split at h
  ·exact gf hs h
  ·exact gf hs h
  ·cases h
theorem wP {op:BinOp}{t:TypeId}(Y:Option AV):bnP C op t none Y=none:=by
 unfold bnP
 split <;> first | rfl | contradiction | (rename_i h _; cases h) | (rename_i h; cases h)
theorem vy {op:BinOp}{t:TypeId}(X:Option AV):bnP C op t X none=none:=by
 unfold bnP
 split <;> first | rfl | contradiction | (rename_i h _; cases h) | (rename_i h; cases h)
theorem ws {op:BinOp}{t:TypeId}{x y:Operand}{z:AV}(hs:∀ i x,look kn i=some x→look sl i=some x)(h:bnP C op t (evo kn x) (evo kn y)=some z):bnP C op t (evo sl x) (evo sl y)=some z:=by
 cases hx:evo kn x with
 | none=>rw [hx,wP] at h; cases h
 | some v =>
  cases hy:evo kn y with
  | none=>rw [hy,vy] at h; cases h
  | some u =>
   rw [hx,hy] at h
   rw [gf hs hx,gf hs hy]; exact h
theorem py (hs:∀ i x,look kn i=some x→look sl i=some x):∀ {ps:List (Nat×Operand)} {l:List (Nat×AV)},eD kn ps=some l→eD sl ps=some l
 | [],l,h=>h
 | (i,x)::r,l,h=>by
  unfold eD at h ⊢
  cases hx:evo kn x with
  | none=>rw [hx] at h; cases h
  | some v =>
   cases hr:eD kn r with
   | none=>rw [hx,hr] at h; cases h
   | some m =>
    rw [hx,hr] at h
    rw [gf hs hx,py hs hr]; exact h
theorem wR {t f:Nat}:faP C t f none=none:=by
 unfold faP
 repeat' split
 all_goals first | rfl | contradiction
theorem wh {t:Nat}:ldP C ob t none=none:=by
 unfold ldP
 repeat' split
 all_goals first | rfl | contradiction
theorem wi {t f:Nat}:flP C t f none=none:=by
 unfold flP
 repeat' split
 all_goals first | rfl | contradiction
theorem wq {t f:Nat}:cvP C t f none=none:=by
 unfold cvP
 repeat' split
 all_goals first | rfl | contradiction
theorem wK {t:Nat}:buP C t none=none:=by
 unfold buP
 repeat' split
 all_goals first | rfl | contradiction
theorem wj {t:Nat}{ps:List (Nat×Operand)}{y:AV}(hs:∀ i x,look kn i=some x→look sl i=some x)(h:buP C t (eD kn ps)=some y):buP C t (eD sl ps)=some y:=by
 cases hp:eD kn ps with
 | none=>rw [hp,wK] at h; cases h
 | some l=>rw [hp] at h; rw [py hs hp]; exact h
theorem rQ {y:AV}(hs:∀ i x,look kn i=some x→look sl i=some x)(hc:lZ o=true)(h:opV C o kn ob=some y):opV C o sl ob=some y:=by
 unfold opV lZ at *
 cases ho:o.op <;> simp only [ho] at h hc ⊢
 all_goals first
  | (cases h; done)
  | exact gf hs h
  | exact wa hs h
  | exact ws hs h
  | exact se (F:=faP C _ _) hs wR h
  | exact se (F:=ldP C ob _) hs wh h
  | exact se (F:=ncP) hs rfl h
  | exact se (F:=xtP _) hs rfl h
  | exact se (F:=flP C _ _) hs wi h
  | exact se (F:=cvP C _ _) hs wq h
  | exact wj hs h
  | (cases hc; done)
  | skip
 all_goals (rename_i op _ _; cases op <;> simp only at h ⊢)
 all_goals first
  | (cases h; done)
  | exact se (F:=ntP) hs rfl h
def stV (C:Cx)(o:Oper)(kn:List (Nat×AV))(ob:List (Nat×List AV)):Option (List (Nat×List AV)):=match o.op with
 | .store t x v=>(match look C.tt t with
  | some i=>(match evo kn x with
   | some (.ptr id k)=>(match evo kn v with
    | some y=>(match y.cellsA with
     | some xs=>(match Nat.beq xs.length i.size with
      | true=>(match look ob id with
       | some cs=>(match Nat.ble (k+xs.length) cs.length with
        | true=>some ((id,jE cs k xs)::ob)
        | false=>none)
       | none=>none)
      | false=>none)
     | none=>none)
    | none=>none)
   | _=>none)
  | none=>none)
 | _=>none
theorem xq {ops:Array Oper}{ob':List (Nat×List AV)}{K:AS→Prop}(h:stV C o kn ob=some ob')(hg:o.guard=none)(hd:o.dst=none)(hs:∀ i x,look kn i=some x→look sl i=some x)(hK:K ⟨sl,ob'⟩):One C ops o K ⟨sl,ob⟩:=by
 unfold stV at h
 split at h
 ·rename_i t x v ho
  split at h
  ·rename_i i hi
   split at h
   ·rename_i id k hx
    split at h
    ·rename_i y hv
     split at h
     ·rename_i xs hc
      split at h
      ·rename_i hsz
       split at h
       ·rename_i cs hob
        split at h
        ·rename_i hl
         cases h
         exact ag hg (jL ho hd hi (gf hs hx) (gf hs hv) hc (Nat.eq_of_beq_eq_true hsz) hob (Nat.le_of_ble_eq_true hl) hK)
        ·cases h
       ·cases h
      ·cases h
     ·cases h
    ·cases h
   ·cases h
  ·cases h
 ·cases h
end
section
variable {C:Cx} {ops:Array Oper} {S:dV} {K:eg→Prop} {o:Oper} {k:Nat} {rev:eg} {d:Nat}
def sV (C:Cx)(ops:Array Oper)(S:dV)(o:Oper)(R:List Nat)(k:Nat)(rev:eg)(v:Nat→AV)(j:Nat):Option AV:=match j4 ops S.imp o k j with
 | true=>opV C o (sJ (S.bas j) o rev j R) (S.obj j)
 | false=>some (v j)
def sL (C:Cx)(ops:Array Oper)(S:dV)(o:Oper)(R:List Nat)(k:Nat)(rev:eg)(v:Nat→AV):Nat→List (Option AV)
 | 0=>[]
 | j+1=>sV C ops S o R k rev v j::sL C ops S o R k rev v j
def gL (ops:Array Oper)(S:dV)(o:Oper)(R:List Nat)(k:Nat)(rev:eg)(t:Nat)(x:AV):Nat→List (Option AV)
 | 0=>[]
 | j+1=>(match j4 ops S.imp o k j with
  | true=>look (sJ (S.bas j) o rev j R) t
  | false=>some x)::gL ops S o R k rev t x j
def vL (v:Nat→AV):Nat→List (Option AV)
 | 0=>[]
 | j+1=>some (v j)::vL v j
theorem xa {v:Nat→AV}(hg:o.guard=none)(hd:o.dst=some d)(hn:Nat.blt d C.n=true)(hc:lZ o=true):∀ {m:Nat},sL C ops S o (opR o) k rev v m=vL v m→Stg C ops S o k rev d v m
 | 0,_=>trivial
 | j+1,h=>by
  have h1:sV C ops S o (opR o) k rev v j=some (v j):=(List.cons.inj h).1
  refine ⟨λ ha=>?_,xa hg hd hn hc (List.cons.inj h).2⟩
  unfold sV at h1
  rw [ha] at h1
  exact ⟨_,ki _,λ sl hs K hK=>ag hg (oN (rQ hs hc h1) hd hn hK)⟩
def cL (S:dV)(d:Nat):Nat→List (Option AV)
 | 0=>[]
 | j+1=>look (S.bas j) d::cL S d j
def nL:Nat→List (Option AV)
 | 0=>[]
 | j+1=>none::nL j
def aL (v:Nat→AV):Nat→List AV
 | 0=>[]
 | j+1=>v (j+1)::aL v j
def bL (S:dV)(v:Nat→AV):Nat→List AV
 | 0=>[]
 | j+1=>trA (S.D j) (v j)::bL S v j
theorem vu:∀ {m:Nat},cL S d m=nL m→∀ j,j < m→look (S.bas j) d=none
 | 0,_,j,h=>absurd h (Nat.not_lt_zero _)
 | m+1,h,j,hj=>by
  by_cases e:j=m
  ·subst e; exact (List.cons.inj h).1
  ·exact vu (List.cons.inj h).2 j (by omega)
theorem rt {v:Nat→AV}:∀ {m:Nat},aL v m=bL S v m→∀ j,j < m→v (j+1)=trA (S.D j) (v j)
 | 0,_,j,h=>absurd h (Nat.not_lt_zero _)
 | m+1,h,j,hj=>by
  by_cases e:j=m
  ·subst e; exact (List.cons.inj h).1
  ·exact rt (List.cons.inj h).2 j (by omega)
theorem dP {rest:List Oper}(v:Nat→AV)
  (e:(o.dst,S.imp.findIdx? (Nat.beq k),o.guard,lZ o,(rev.all λ p=>!(Nat.beq p.2.1 d)),Nat.blt d C.n,cL S d S.m,(λ j=>look (S.bas (j+S.m)) d),aL v S.m,sL C ops S o (opR o) k rev v (S.m+1))=(some d,none,none,true,true,true,nL S.m,(λ _=>none),bL S v S.m,vL v (S.m+1)))
  (h:DS C ops S K rest (k+1) ((k,d,v)::rev)):DS C ops S K (o::rest) k rev:=by
 simp only [Prod.mk.injEq] at e
 obtain ⟨e1,e2,e3,e4,e5,e6,e7,e8,e9,e10⟩:=e
 refine aD v e2 e1 e5 (λ j=>?_) (rt e9) (xa e3 e1 e6 e4 e10) h
 by_cases hj:j < S.m
 ·exact vu e7 j hj
 ·have:look (S.bas (j - S.m+S.m)) d=none:=congrFun e8 (j - S.m)
  rwa [show j - S.m+S.m=j by omega] at this
theorem dPc {rest:List Oper}(y:AV)
  (e:(o.dst,S.imp.findIdx? (Nat.beq k),o.guard,lZ o,(rev.all λ p=>!(Nat.beq p.2.1 d)),Nat.blt d C.n,cL S d S.m,(λ j=>look (S.bas (j+S.m)) d),aL (λ _=>y) S.m,sL C ops S o (opR o) k rev (λ _=>y) (S.m+1))=(some d,none,none,true,true,true,nL S.m,(λ _=>none),bL S (λ _=>y) S.m,vL (λ _=>y) (S.m+1)))
  (h:DS C ops S K rest (k+1) ((k,d,λ _=>y)::rev)):DS C ops S K (o::rest) k rev:=dP (λ _=>y) e h
theorem dS {rest:List Oper}{i:Nat}
  (e:(S.imp.findIdx? (Nat.beq k),o.dst,o.guard,S.D i,stV C o (sJ (S.bas i) o rev i (opR o)) (S.obj i))=(some i,none,none,Tr.none,some (S.obj (i+1))))
  (h:DS C ops S K rest (k+1) rev):DS C ops S K (o::rest) k rev:=by
 simp only [Prod.mk.injEq] at e
 obtain ⟨e1,e2,e3,e4,e5⟩:=e
 refine ik _ e1 (ki (opR o)) e2 (λ sl hs K hK=>?_) h
 rw [e4] at hK
 exact xq e5 e3 e2 hs hK
theorem sT (e7:cL S d S.m=nL S.m)(e8:(λ j=>look (S.bas (j+S.m)) d)=λ _=>none)(j:Nat):look (S.bas j) d=none:=by
 by_cases hj:j < S.m
 ·exact vu e7 j hj
 ·have:look (S.bas (j - S.m+S.m)) d=none:=congrFun e8 (j - S.m)
  rwa [show j - S.m+S.m=j by omega] at this
theorem vA {v:Nat→AV}{R:List Nat}{w b:Bool}{g t:Nat}(hb:b=w)(hg:o.guard=some (g,w))(hj:(ops.toList[g]?).bind (·.dst)=some t)(hd:o.dst=some d)(hn:Nat.blt d C.n=true)(hc:lZ o=true) :
  ∀ {m:Nat},gL ops S o R k rev t (.p (.val (.bool b))) m=vL (λ _=>.p (.val (.bool b))) m→sL C ops S o R k rev v m=vL v m→Stg C ops S o k rev d v m
 | 0,_,_=>trivial
 | j+1,hG,h=>by
  have h1:sV C ops S o R k rev v j=some (v j):=(List.cons.inj h).1
  have h2:=(List.cons.inj hG).1
  refine ⟨λ ha=>?_,vA hb hg hj hd hn hc (List.cons.inj hG).2 (List.cons.inj h).2⟩
  unfold sV at h1
  rw [ha] at h1 h2
  exact ⟨_,ki _,λ sl hs K hK=>cX (oN (rQ hs hc h1) hd hn hK) hg hj (hs _ _ h2) hb⟩
theorem dPy {rest:List Oper}{w b:Bool}{g t:Nat}(v:Nat→AV)(hb:b=w)
  (e:(o.dst,o.guard,(ops.toList[g]?).bind (·.dst),S.imp.findIdx? (Nat.beq k),lZ o,(rev.all λ p=>!(Nat.beq p.2.1 d)),Nat.blt d C.n,cL S d S.m,(λ j=>look (S.bas (j+S.m)) d),aL v S.m,gL ops S o (t::opR o) k rev t (.p (.val (.bool b))) (S.m+1),sL C ops S o (t::opR o) k rev v (S.m+1))=(some d,some (g,w),some t,none,true,true,true,nL S.m,(λ _=>none),bL S v S.m,vL (λ _=>.p (.val (.bool b))) (S.m+1),vL v (S.m+1)))
  (h:DS C ops S K rest (k+1) ((k,d,v)::rev)):DS C ops S K (o::rest) k rev:=by
 simp only [Prod.mk.injEq] at e
 obtain ⟨e1,e2,e3,e4,e5,e6,e7,e8,e9,e10,e11,e12⟩:=e
 exact aD v e4 e1 e6 (sT e8 e9) (rt e10) (vA hb e2 e3 e1 e7 e5 e11 e12) h
theorem vC {R:List Nat}{w b:Bool}{g t:Nat}(hb:b=!w)(hg:o.guard=some (g,w))(hj:(ops.toList[g]?).bind (·.dst)=some t)(hd:o.dst=some d)(hn:Nat.blt d C.n=true) :
  ∀ {m:Nat},gL ops S o R k rev t (.p (.val (.bool b))) m=vL (λ _=>.p (.val (.bool b))) m→Stg C ops S o k rev d (λ _=>.p (.val Go.undef)) m
 | 0,_=>trivial
 | j+1,hG=>by
  have h2:=(List.cons.inj hG).1
  refine ⟨λ ha=>?_,vC hb hg hj hd hn (List.cons.inj hG).2⟩
  rw [ha] at h2
  exact ⟨_,ki _,λ sl hs K hK=>uU hg hj (hs _ _ h2) hb hd hn hK⟩
theorem dPn {rest:List Oper}{w b:Bool}{g t:Nat}(hb:b=!w)
  (e:(o.dst,o.guard,(ops.toList[g]?).bind (·.dst),S.imp.findIdx? (Nat.beq k),(rev.all λ p=>!(Nat.beq p.2.1 d)),Nat.blt d C.n,cL S d S.m,(λ j=>look (S.bas (j+S.m)) d),aL (λ _=>.p (.val Go.undef)) S.m,gL ops S o [t] k rev t (.p (.val (.bool b))) (S.m+1))=(some d,some (g,w),some t,none,true,true,nL S.m,(λ _=>none),bL S (λ _=>.p (.val Go.undef)) S.m,vL (λ _=>.p (.val (.bool b))) (S.m+1)))
  (h:DS C ops S K rest (k+1) ((k,d,λ _=>.p (.val Go.undef))::rev)):DS C ops S K (o::rest) k rev:=by
 simp only [Prod.mk.injEq] at e
 obtain ⟨e1,e2,e3,e4,e6,e7,e8,e9,e10,e11⟩:=e
 exact aD _ e4 e1 e6 (sT e8 e9) (rt e10) (vC hb e2 e3 e1 e7 e11) h
theorem vM {R:List Nat}{w:Bool}{g t:Nat}(hg:o.guard=some (g,w))(hj:(ops.toList[g]?).bind (·.dst)=some t)(hd:o.dst=some d)(hn:Nat.blt d C.n=true) :
  ∀ {m:Nat},gL ops S o R k rev t (.p (.val Go.undef)) m=vL (λ _=>.p (.val Go.undef)) m→Stg C ops S o k rev d (λ _=>.p (.val Go.undef)) m
 | 0,_=>trivial
 | j+1,hG=>by
  have h2:=(List.cons.inj hG).1
  refine ⟨λ ha=>?_,vM hg hj hd hn (List.cons.inj hG).2⟩
  rw [ha] at h2
  exact ⟨_,ki _,λ sl hs K hK=>rC hg hj (hs _ _ h2) hd hn hK⟩
theorem dPx {rest:List Oper}{w:Bool}{g t:Nat}
  (e:(o.dst,o.guard,(ops.toList[g]?).bind (·.dst),S.imp.findIdx? (Nat.beq k),(rev.all λ p=>!(Nat.beq p.2.1 d)),Nat.blt d C.n,cL S d S.m,(λ j=>look (S.bas (j+S.m)) d),aL (λ _=>.p (.val Go.undef)) S.m,gL ops S o [t] k rev t (.p (.val Go.undef)) (S.m+1))=(some d,some (g,w),some t,none,true,true,nL S.m,(λ _=>none),bL S (λ _=>.p (.val Go.undef)) S.m,vL (λ _=>.p (.val Go.undef)) (S.m+1)))
  (h:DS C ops S K rest (k+1) ((k,d,λ _=>.p (.val Go.undef))::rev)):DS C ops S K (o::rest) k rev:=by
 simp only [Prod.mk.injEq] at e
 obtain ⟨e1,e2,e3,e4,e6,e7,e8,e9,e10,e11⟩:=e
 exact aD _ e4 e1 e6 (sT e8 e9) (rt e10) (vM e2 e3 e1 e7 e11) h
end
def lkM (s:List (Nat×List AV)):List (Nat×List AV)→List (Option (List AV))
 | []=>[]
 | (j,_)::r=>look s j::lkM s r
def smM:List (Nat×List AV)→List (Option (List AV))
 | []=>[]
 | (_,cs)::r=>some cs::smM r
theorem oJ {s:List (Nat×List AV)}:∀ {t:List (Nat×List AV)},lkM s t=smM t→leO s t
 | [],_=>trivial
 | (j,cs)::r,h=>⟨⟨cs,(List.cons.inj h).1,aw cs⟩,oJ (List.cons.inj h).2⟩
theorem pf:∀ l:List AV,lE l l
 | []=>trivial
 | x::r=>⟨AV.sub_refl x,pf r⟩
def lkB (sl:List (Nat×AV)):List (Nat×AV)→List (Option AV)
 | []=>[]
 | (i,_)::r=>look sl i::lkB sl r
def smB:List (Nat×AV)→List (Option AV)
 | []=>[]
 | (_,x)::r=>some x::smB r
theorem mM {sl:List (Nat×AV)}:∀ {b:List (Nat×AV)},lkB sl b=smB b→dF sl b
 | [],_=>trivial
 | (i,x)::r,h=>⟨(List.cons.inj h).1,mM (List.cons.inj h).2⟩
def lkS (S:dV):Nat→List (List (Option AV))
 | 0=>[]
 | j+1=>lkB (trL (S.D j) (S.bas j)) (S.bas (j+1))::lkS S j
def smS (S:dV):Nat→List (List (Option AV))
 | 0=>[]
 | j+1=>smB (S.bas (j+1))::smS S j
theorem pn {S:dV}:∀ {m:Nat},lkS S m=smS S m→∀ j,j < m→dF (trL (S.D j) (S.bas j)) (S.bas (j+1))
 | 0,_,j,h=>absurd h (Nat.not_lt_zero _)
 | m+1,h,j,hj=>by
  by_cases e:j=m
  ·subst e; exact mM (List.cons.inj h).1
  ·exact pn (List.cons.inj h).2 j (by omega)
section
variable {C:Cx} {Q:Exit→AS→Prop} {K:AS→Prop} {sl:List (Nat×AV)} {ob:List (Nat×List AV)} {o:Oper} {d:Nat} {s:AS} {k:List Fr} {ops:Array Oper}
theorem cVq (ids vids:List Nat)(NB NE:Nat){f:FuncId}{args:Array Operand}{ts:Array TypeId}{l q:List AV}{obs qo rob ob':List (Nat×List AV)}{r r':AV}(hc:aF C.P f q qo (λ x y=>x=r∧y=rob))(henter:∀ vs w,(callFunc f vs).run C.P w=.ok (.enter f vs) w)
  (e:(o.op,o.dst,Nat.blt d C.n,ix sl args.toList,AV.mapA.go (iy ids vids) l,fo ob ids,fe (iy ids vids) obs,lkM qo qo,nodupB ids,ids.all (λ i=>Nat.blt i (2*M1)),Nat.ble ids.length M1,Nat.ble NE M1,ids.all (λ i=>!(cq vids NB NE i)),nodupB vids,vids.all (λ i=>Nat.blt i M1),Nat.ble vids.length 100000,r.mapA (im ids NB NE),fe (im ids NB NE) rob)=(.call { callee:=.value (.func f),args:=args,argTypes:=ts },some d,true,some l,some q,some obs,some qo,smM qo,true,true,true,true,true,true,true,true,some r',some ob'))
  (hK:K ⟨(d,r')::(cD (cq vids NB NE) ⟨sl,ob⟩).sl,ob'++(cD (cq vids NB NE) ⟨sl,ob.filter λ p=>!(ids.any (Nat.beq p.1))⟩).ob⟩):aS C o K ⟨sl,ob⟩:=by
 simp only [Prod.mk.injEq] at e
 obtain ⟨e1,e2,e3,e4,e5,e6,e7,e8,e9,e10,e11,e12,e13,e14,e15,e16,e17,e18⟩:=e
 exact aZ ids vids NB NE hc e1 e2 e3 e4 e5 (pf _) e6 e7 (oJ e8) e9 e10 e11 e12 e13 e14 e15 e16 henter e17 e18 hK
theorem fC {β:Type}{v v0:β}{tt:List (Nat×TI)}{fn:Func}{ts ids:List Nat}{mk:β→AV}{mo:β→List (Nat×List AV)}{obs:List (Nat×List AV)}{l:List AV}(e:some v=some v0)
  (h:(jz tt fn.results.toList s,(mW l).mapA (iW ts),fo s.ob ids,fe (iW ts) obs,lkM (mo v) (mo v))=(some l,some (mk v),some obs,some (mo v),smM (mo v))):M C (λ e s=>∃ v,v=v0∧pG C tt fn ts ids (mk v) (mo v) e s) ⟨.ex .ret,[],s⟩:=by
 simp only [Prod.mk.injEq] at h
 obtain ⟨h1,h2,h3,h4,h5⟩:=h
 exact mQo (Option.some.inj e) (al _) h1 h2 h3 h4 (AV.sub_refl _) (oJ h5)
theorem mSq (S:dV){id:Nat}
  (e:(C.P.follows .mixedOrders,S.imp.length,S.obj 0,lkB sl (S.bas 0),lkS S S.m,nodupB S.imp,S.imp.all (λ i=>Nat.blt i ops.size),chainB ops S.imp,(ops.toList.zipIdx.all λ p=>p.1.after.toList.all λ e=>!(Region.binds .any e)||Nat.blt e.on p.2))=(true,S.m,ob,smB (S.bas 0),smS S S.m,true,true,true,true))
  (h:DS C ops S (λ rev=>M C Q ⟨.ex .normal,k,⟨cH rev S.m++S.bas S.m,S.obj S.m⟩⟩) ops.toList 0 []):M C Q ⟨.cd (.region id ops true),k,⟨sl,ob⟩⟩:=by
 simp only [Prod.mk.injEq] at e
 obtain ⟨e1,e2,e3,e4,e5,e6,e7,e8,e9⟩:=e
 exact mS S e1 e2 e3 (mM e4) (pn e5) e6 e7 e8 e9 h
end
def ob2 (A:List (Nat×List AV))(x:Nat×List AV):Nat→List (Nat×List AV)
 | 0=>A
 | _+1=>x::A
def ob3 (A:List (Nat×List AV))(x y:Nat×List AV):Nat→List (Nat×List AV)
 | 0=>A
 | 1=>x::A
 | _+2=>y::x::A
def ob5 (A:List (Nat×List AV))(x y z u:Nat×List AV):Nat→List (Nat×List AV)
 | 0=>A
 | 1=>x::A
 | 2=>y::x::A
 | 3=>z::y::x::A
 | _+4=>u::z::y::x::A
end Go.Ab
end
section
set_option linter.unusedVariables false
set_option linter.unusedSimpArgs false
set_option linter.unnecessarySimpa false
namespace Go.Ab.R06
open Go.Proofs Go.Ab Go.Ab.RB
attribute [local irreducible] awp fk aS au aF AV.sub M cB
def jq (n_0:Int):Option Bool :=
 (
   if (-9007199254740992)≤n_0 then
    some (decide (n_0≤9007199254740992))
   else
    some false
  : Option Bool).bind λ t2 =>
 some t2
set_option maxHeartbeats 4000000 in
theorem oM (n_0:Int)(r:Bool)(h0:jq n_0=some r):au Tryz.prog 190 [eI n_0] (·=.p (eB r)):=by
 unfold jq at h0
 refine aW good Tryz.func190 rfl rfl rfl λ w0=>mP (λ v:Bool=>.p (eB v)) ?_
 refine nx 5 rfl (bd h0 λ o4 h1 h0=>?_)
 refine kN o4 (λ v5=>⟨[(2,.p (eB v5))],[]⟩) ?_ ?_
 ·exact nx 2 rfl (mQ (oi h0) rfl (sr))
 refine nx 4 rfl (fD [4,5] h1 rfl (λ c1 h1=>?_) λ c1 h1=>?_)
 ·exact nx 5 rfl (eX _ (oi h1).symm (gE rfl rfl))
 exact nx 5 rfl (eX _ (oi h1).symm (gE rfl rfl))
def oa (s_0:Bytes):Nat→Int→Option (Unit⊕Bool)
 | 0,_=>none
 | m+1,i9 =>
 if i9 < (s_0.length:Int) then
  (
    ck ((0:Int)≤i9∧i9 < (s_0.length:Int)) <|
    if byt s_0 i9 < 48 then
     some true
    else
     ck ((0:Int)≤i9∧i9 < (s_0.length:Int)) <|
     some (decide (57 < byt s_0 i9))
   : Option Bool).bind λ t14 =>
  if t14=true then
   some (.inr false)
  else
   ck (inR (i9+1)) <|
   oa s_0 m (i9+1)
 else
  some (.inl ())
def dd (s_0:Bytes)(i_1:Int)(lo_2:Int)(hi_3:Int):Option Bool :=
 (
   if i_1 < (s_0.length:Int) then
    ck ((0:Int)≤i_1∧i_1 < (s_0.length:Int)) <|
    if lo_2≤byt s_0 i_1 then
     ck ((0:Int)≤i_1∧i_1 < (s_0.length:Int)) <|
     some (decide (byt s_0 i_1≤hi_3))
    else
     some false
   else
    some false
  : Option Bool).bind λ t5 =>
 some t5
set_option maxHeartbeats 4000000 in
theorem fu (s_0:Bytes)(i_1:Int)(lo_2:Int)(hi_3:Int)(r:Bool)(h0:dd s_0 i_1 lo_2 hi_3=some r):au Tryz.prog 179 [eS s_0,eI i_1,eK .u8 lo_2,eK .u8 hi_3] (·=.p (eB r)):=by
 unfold dd at h0
 refine aW good Tryz.func179 rfl rfl rfl λ w0=>mP (λ v:Bool=>.p (eB v)) ?_
 refine nx 5 rfl (bd h0 λ o7 h1 h0=>?_)
 refine kN o7 (λ v8=>⟨[(8,.p (eB v8))],[]⟩) ?_ ?_
 ·exact nx 2 rfl (mQ (oi h0) rfl (sr))
 refine nx 3 rfl (oLs rfl ?_)
 refine nx 2 rfl (fD [12,13] h1 rfl (λ c1 h1=>?_) λ c1 h1=>?_)
 ·refine nx 2 rfl (oI h1 rfl λ hk2 h1=>?_)
  refine nx 4 rfl (fD [18,19,20] h1 rfl (λ c3 h1=>?_) λ c3 h1=>?_)
  ·refine nx 2 rfl (oI h1 rfl λ hk4 h1=>?_)
   exact nx 5 rfl (eX _ (oi h1).symm (gE rfl rfl))
  exact nx 8 rfl (eX _ (oi h1).symm (gE rfl rfl))
 exact nx 15 rfl (eX _ (oi h1).symm (gE rfl rfl))
def gR (s_0:Bytes)(i_1:Int):Option (Int×Int) :=
 (
   if i_1 < 0 then
    some true
   else
    some (decide ((s_0.length:Int)≤i_1))
  : Option Bool).bind λ t2 =>
 if t2=true then
  some (0,0)
 else
  ck ((0:Int)≤i_1∧i_1 < (s_0.length:Int)) <|
  if byt s_0 i_1 < 128 then
   ck (inR (byt s_0 i_1)) <|
   some (byt s_0 i_1,1)
  else
   (
     if 194≤byt s_0 i_1 then
      if byt s_0 i_1≤223 then
       ck (inR (i_1+1)) <|
       (dd s_0 (i_1+1) 128 191).bind λ r10 =>
       some r10
      else
       some false
     else
      some false
    : Option Bool).bind λ t12 =>
   if t12=true then
    ck (inR (bR .u8 (byt s_0 i_1) 31)) <|
    ck ((0:Int)≤6) <|
    ck (inR (i_1+1)) <|
    ck ((0:Int)≤i_1+1∧i_1+1 < (s_0.length:Int)) <|
    ck (inR (bR .u8 (byt s_0 (i_1+1)) 63)) <|
    some (iOr .i64 (gG .i64 (bR .u8 (byt s_0 i_1) 31) 6) (bR .u8 (byt s_0 (i_1+1)) 63),2)
   else
    (
      if byt s_0 i_1=224 then
       some 160
      else
       some 128
     : Option Int).bind λ lo20 =>
    (
      if byt s_0 i_1=237 then
       some 159
      else
       some 191
     : Option Int).bind λ hi22 =>
    (
      if 224≤byt s_0 i_1 then
       if byt s_0 i_1≤239 then
        ck (inR (i_1+1)) <|
        (dd s_0 (i_1+1) lo20 hi22).bind λ r26 =>
        if r26=true then
         ck (inR (i_1+2)) <|
         (dd s_0 (i_1+2) 128 191).bind λ r30 =>
         some r30
        else
         some false
       else
        some false
      else
       some false
     : Option Bool).bind λ t32 =>
    if t32=true then
     ck (inR (bR .u8 (byt s_0 i_1) 15)) <|
     ck ((0:Int)≤12) <|
     ck (inR (i_1+1)) <|
     ck ((0:Int)≤i_1+1∧i_1+1 < (s_0.length:Int)) <|
     ck (inR (bR .u8 (byt s_0 (i_1+1)) 63)) <|
     ck ((0:Int)≤6) <|
     ck (inR (i_1+2)) <|
     ck ((0:Int)≤i_1+2∧i_1+2 < (s_0.length:Int)) <|
     ck (inR (bR .u8 (byt s_0 (i_1+2)) 63)) <|
     some (iOr .i64 (iOr .i64 (gG .i64 (bR .u8 (byt s_0 i_1) 15) 12) (gG .i64 (bR .u8 (byt s_0 (i_1+1)) 63) 6)) (bR .u8 (byt s_0 (i_1+2)) 63),3)
    else
     (
       if byt s_0 i_1=240 then
        some 144
       else
        some 128
      : Option Int).bind λ lo44 =>
     (
       if byt s_0 i_1=244 then
        some 143
       else
        some 191
      : Option Int).bind λ hi46 =>
     (
       if 240≤byt s_0 i_1 then
        if byt s_0 i_1≤244 then
         ck (inR (i_1+1)) <|
         (dd s_0 (i_1+1) lo44 hi46).bind λ r50 =>
         if r50=true then
          ck (inR (i_1+2)) <|
          (dd s_0 (i_1+2) 128 191).bind λ r54 =>
          if r54=true then
           ck (inR (i_1+3)) <|
           (dd s_0 (i_1+3) 128 191).bind λ r58 =>
           some r58
          else
           some false
         else
          some false
        else
         some false
       else
        some false
      : Option Bool).bind λ t60 =>
     if t60=true then
      ck (inR (bR .u8 (byt s_0 i_1) 7)) <|
      ck ((0:Int)≤18) <|
      ck (inR (i_1+1)) <|
      ck ((0:Int)≤i_1+1∧i_1+1 < (s_0.length:Int)) <|
      ck (inR (bR .u8 (byt s_0 (i_1+1)) 63)) <|
      ck ((0:Int)≤12) <|
      ck (inR (i_1+2)) <|
      ck ((0:Int)≤i_1+2∧i_1+2 < (s_0.length:Int)) <|
      ck (inR (bR .u8 (byt s_0 (i_1+2)) 63)) <|
      ck ((0:Int)≤6) <|
      ck (inR (i_1+3)) <|
      ck ((0:Int)≤i_1+3∧i_1+3 < (s_0.length:Int)) <|
      ck (inR (bR .u8 (byt s_0 (i_1+3)) 63)) <|
      some (iOr .i64 (iOr .i64 (iOr .i64 (gG .i64 (bR .u8 (byt s_0 i_1) 7) 18) (gG .i64 (bR .u8 (byt s_0 (i_1+1)) 63) 12)) (gG .i64 (bR .u8 (byt s_0 (i_1+2)) 63) 6)) (bR .u8 (byt s_0 (i_1+3)) 63),4)
     else
      some (0,0)
set_option maxHeartbeats 4000000 in
theorem nS (s_0:Bytes)(i_1:Int)(r:Int×Int)(h0:gR s_0 i_1=some r):au Tryz.prog 161 [eS s_0,eI i_1] (·=.tuple [.p (eI r.1),.p (eI r.2)]):=by
 unfold gR at h0
 refine aW good Tryz.func161 rfl rfl rfl λ w0=>mP (λ v:Int×Int=>.tuple [.p (eI v.1),.p (eI v.2)]) ?_
 refine nx 7 rfl (bd h0 λ o83 h1 h0=>?_)
 refine kN o83 (λ v84=>⟨[(0,.p (eS s_0)),(1,.p (eI i_1)),(16,.p (eB v84))],[]⟩) ?_ ?_
 ·refine nx 1 rfl (fB [16] h0 rfl (λ c3 h0=>?_) λ c3 h0=>?_)
  ·exact nx 7 rfl (mQ (oi h0) rfl (ap ⟨sr,sr,trivial⟩))
  refine nx 6 rfl (oI h0 rfl λ hk4 h0=>?_)
  refine nx 8 rfl (fD [21] h0 rfl (λ c5 h0=>?_) λ c5 h0=>?_)
  ·refine nx 4 rfl (cc' h0 λ hk6 h0=>?_)
   refine mO rfl (ep rfl rfl rfl rfl rfl rfl rfl rfl (hC hk6) ?_)
   exact nx 4 rfl (mQ (oi h0) rfl (ap ⟨sr,sr,trivial⟩))
  refine nx 4 rfl (bd h0 λ o85 h1 h0=>?_)
  refine kN o85 (λ v86=>⟨[(0,.p (eS s_0)),(1,.p (eI i_1)),(6,.p (eK .u8 (byt s_0 i_1))),(35,.p (eB v86))],[]⟩) ?_ ?_
  ·refine nx 1 rfl (fB [35] h0 rfl (λ c13 h0=>?_) λ c13 h0=>?_)
   ·refine nx 5 rfl (cc' h0 λ hk14 h0=>?_)
    refine mO rfl (ep rfl rfl rfl rfl rfl rfl rfl rfl (hC hk14) ?_)
    refine cc' h0 λ hk15 h0=>mO rfl (kq rfl rfl rfl rfl rfl rfl hk15 ?_)
    refine nx 2 rfl (oA h0 rfl rfl λ hk16 h0=>?_)
    refine oI h0 rfl λ hk17 h0=>nx 1 rfl (cc' h0 λ hk18 h0=>?_)
    refine mO rfl (ep rfl rfl rfl rfl rfl rfl rfl rfl (hC hk18) ?_)
    exact nx 5 rfl (mQ (oi h0) rfl (ap ⟨sr,sr,trivial⟩))
   refine nx 8 rfl (bd h0 λ o87 h1 h0=>?_)
   refine kN o87 (λ v88=>⟨[(0,.p (eS s_0)),(1,.p (eI i_1)),(6,.p (eK .u8 (byt s_0 i_1))),(7,.p (eK .u8 v88)),(8,.p (eK .u8 191))],[]⟩) ?_ ?_
   ·refine nx 2 rfl (bd h0 λ o89 h1 h0=>?_)
    refine kN o89 (λ v90=>⟨[(0,.p (eS s_0)),(1,.p (eI i_1)),(6,.p (eK .u8 (byt s_0 i_1))),(7,.p (eK .u8 o87)),(8,.p (eK .u8 v90))],[]⟩) ?_ ?_
    ·refine nx 3 rfl (bd h0 λ o91 h1 h0=>?_)
     refine kN o91 (λ v92=>⟨[(0,.p (eS s_0)),(1,.p (eI i_1)),(6,.p (eK .u8 (byt s_0 i_1))),(70,.p (eB v92))],[]⟩) ?_ ?_
     ·refine nx 1 rfl (fB [70] h0 rfl (λ c33 h0=>?_) λ c33 h0=>?_)
      ·refine nx 2 rfl (cc' h0 λ hk34 h0=>?_)
       refine cc' h0 λ hk35 h0=>cc' h0 λ hk36 h0=>cc' h0 λ hk37 h0=>cc' h0 λ hk38 h0=>cc' h0 λ hk39 h0=>cc' h0 λ hk40 h0=>cc' h0 λ hk41 h0=>cc' h0 λ hk42 h0=>mD [(0,.p (eS s_0)),(1,.p (eI i_1)),(6,.p (eK .u8 (byt s_0 i_1)))] rfl ⟨rfl,rfl,rfl,trivial⟩ rfl (dR 2 rfl ?_)
       refine dq (.p (eI (bR .u8 (byt s_0 i_1) 15))) [72] rfl (λ _ e _ q=>ag rfl (ep rfl rfl rfl rfl rfl rfl rfl (e _ _ rfl) (hC hk34) q)) rfl (dq (.p (eI (gG .i64 (bR .u8 (byt s_0 i_1) 15) 12))) [73] rfl (λ _ e _ q=>ag rfl (kq rfl rfl rfl (e _ _ rfl) rfl rfl hk35 q)) rfl ?_)
       refine dR 2 rfl (dq (.p (eI (i_1+1))) [76] rfl (λ _ e _ q=>ag rfl (de rfl rfl rfl (e _ _ rfl) rfl rfl hk36 q)) rfl ?_)
       refine dq (.p (eK .u8 (byt s_0 (i_1+1)))) [75,77] rfl (λ _ e _ q=>ag rfl (ei rfl rfl rfl rfl rfl (e _ _ rfl) (e _ _ rfl) hk37 q)) rfl (dR 1 rfl ?_)
       refine dq (.p (eI (bR .u8 (byt s_0 (i_1+1)) 63))) [79] rfl (λ _ e _ q=>ag rfl (ep rfl rfl rfl rfl rfl rfl rfl (e _ _ rfl) (hC hk38) q)) rfl (dq (.p (eI (gG .i64 (bR .u8 (byt s_0 (i_1+1)) 63) 6))) [80] rfl (λ _ e _ q=>ag rfl (kq rfl rfl rfl (e _ _ rfl) rfl rfl hk39 q)) rfl ?_)
       refine dR 3 rfl (dq (.p (eI (i_1+2))) [84] rfl (λ _ e _ q=>ag rfl (de rfl rfl rfl (e _ _ rfl) rfl rfl hk40 q)) rfl ?_)
       refine dq (.p (eK .u8 (byt s_0 (i_1+2)))) [83,85] rfl (λ _ e _ q=>ag rfl (ei rfl rfl rfl rfl rfl (e _ _ rfl) (e _ _ rfl) hk41 q)) rfl (dR 1 rfl ?_)
       refine dq (.p (eI (bR .u8 (byt s_0 (i_1+2)) 63))) [87] rfl (λ _ e _ q=>ag rfl (ep rfl rfl rfl rfl rfl rfl rfl (e _ _ rfl) (hC hk42) q)) rfl (dR 3 rfl ?_)
       refine dE rfl (nx 2 rfl ?_)
       exact mQ (oi h0) rfl (ap ⟨sr,sr,trivial⟩)
      refine nx 8 rfl (bd h0 λ o93 h1 h0=>?_)
      refine kN o93 (λ v94=>⟨[(0,.p (eS s_0)),(1,.p (eI i_1)),(6,.p (eK .u8 (byt s_0 i_1))),(7,.p (eK .u8 v94)),(8,.p (eK .u8 191))],[]⟩) ?_ ?_
      ·refine nx 2 rfl (bd h0 λ o95 h1 h0=>?_)
       refine kN o95 (λ v96=>⟨[(0,.p (eS s_0)),(1,.p (eI i_1)),(6,.p (eK .u8 (byt s_0 i_1))),(7,.p (eK .u8 o93)),(8,.p (eK .u8 v96))],[]⟩) ?_ ?_
       ·refine nx 3 rfl (bd h0 λ o97 h1 h0=>?_)
        refine kN o97 (λ v98=>⟨[(0,.p (eS s_0)),(1,.p (eI i_1)),(6,.p (eK .u8 (byt s_0 i_1))),(119,.p (eB v98))],[]⟩) ?_ ?_
        ·refine nx 1 rfl (fB [119] h0 rfl (λ c61 h0=>?_) λ c61 h0=>?_)
         ·refine nx 2 rfl (cc' h0 λ hk62 h0=>?_)
          refine cc' h0 λ hk63 h0=>cc' h0 λ hk64 h0=>cc' h0 λ hk65 h0=>cc' h0 λ hk66 h0=>cc' h0 λ hk67 h0=>cc' h0 λ hk68 h0=>cc' h0 λ hk69 h0=>cc' h0 λ hk70 h0=>cc' h0 λ hk71 h0=>cc' h0 λ hk72 h0=>cc' h0 λ hk73 h0=>cc' h0 λ hk74 h0=>?_
          refine mD [(0,.p (eS s_0)),(1,.p (eI i_1)),(6,.p (eK .u8 (byt s_0 i_1)))] rfl ⟨rfl,rfl,rfl,trivial⟩ rfl (dR 2 rfl ?_)
          refine dq (.p (eI (bR .u8 (byt s_0 i_1) 7))) [121] rfl (λ _ e _ q=>ag rfl (ep rfl rfl rfl rfl rfl rfl rfl (e _ _ rfl) (hC hk62) q)) rfl (dq (.p (eI (gG .i64 (bR .u8 (byt s_0 i_1) 7) 18))) [122] rfl (λ _ e _ q=>ag rfl (kq rfl rfl rfl (e _ _ rfl) rfl rfl hk63 q)) rfl ?_)
          refine dR 2 rfl (dq (.p (eI (i_1+1))) [125] rfl (λ _ e _ q=>ag rfl (de rfl rfl rfl (e _ _ rfl) rfl rfl hk64 q)) rfl ?_)
          refine dq (.p (eK .u8 (byt s_0 (i_1+1)))) [124,126] rfl (λ _ e _ q=>ag rfl (ei rfl rfl rfl rfl rfl (e _ _ rfl) (e _ _ rfl) hk65 q)) rfl (dR 1 rfl ?_)
          refine dq (.p (eI (bR .u8 (byt s_0 (i_1+1)) 63))) [128] rfl (λ _ e _ q=>ag rfl (ep rfl rfl rfl rfl rfl rfl rfl (e _ _ rfl) (hC hk66) q)) rfl (dq (.p (eI (gG .i64 (bR .u8 (byt s_0 (i_1+1)) 63) 12))) [129] rfl (λ _ e _ q=>ag rfl (kq rfl rfl rfl (e _ _ rfl) rfl rfl hk67 q)) rfl ?_)
          refine dR 3 rfl (dq (.p (eI (i_1+2))) [133] rfl (λ _ e _ q=>ag rfl (de rfl rfl rfl (e _ _ rfl) rfl rfl hk68 q)) rfl ?_)
          refine dq (.p (eK .u8 (byt s_0 (i_1+2)))) [132,134] rfl (λ _ e _ q=>ag rfl (ei rfl rfl rfl rfl rfl (e _ _ rfl) (e _ _ rfl) hk69 q)) rfl (dR 1 rfl ?_)
          refine dq (.p (eI (bR .u8 (byt s_0 (i_1+2)) 63))) [136] rfl (λ _ e _ q=>ag rfl (ep rfl rfl rfl rfl rfl rfl rfl (e _ _ rfl) (hC hk70) q)) rfl (dq (.p (eI (gG .i64 (bR .u8 (byt s_0 (i_1+2)) 63) 6))) [137] rfl (λ _ e _ q=>ag rfl (kq rfl rfl rfl (e _ _ rfl) rfl rfl hk71 q)) rfl ?_)
          refine dR 3 rfl (dq (.p (eI (i_1+3))) [141] rfl (λ _ e _ q=>ag rfl (de rfl rfl rfl (e _ _ rfl) rfl rfl hk72 q)) rfl ?_)
          refine dq (.p (eK .u8 (byt s_0 (i_1+3)))) [140,142] rfl (λ _ e _ q=>ag rfl (ei rfl rfl rfl rfl rfl (e _ _ rfl) (e _ _ rfl) hk73 q)) rfl (dR 1 rfl ?_)
          refine dq (.p (eI (bR .u8 (byt s_0 (i_1+3)) 63))) [144] rfl (λ _ e _ q=>ag rfl (ep rfl rfl rfl rfl rfl rfl rfl (e _ _ rfl) (hC hk74) q)) rfl (dR 3 rfl ?_)
          refine dE rfl (nx 1 rfl ?_)
          refine mG (gE (t:=⟨[(4,.p (eI (iOr .i64 (iOr .i64 (iOr .i64 (gG .i64 (bR .u8 (byt s_0 i_1) 7) 18) (gG .i64 (bR .u8 (byt s_0 (i_1+1)) 63) 12)) (gG .i64 (bR .u8 (byt s_0 (i_1+2)) 63) 6)) (bR .u8 (byt s_0 (i_1+3)) 63)))),(5,.p (eI 4))],[]⟩) rfl rfl) (nx 1 rfl ?_)
          exact mQ (oi h0) rfl (ap ⟨sr,sr,trivial⟩)
         exact nx 8 rfl (mQ (oi h0) rfl (ap ⟨sr,sr,trivial⟩))
        refine nx 4 rfl (fD [95,96] h1 rfl (λ c47 h1=>?_) λ c47 h1=>?_)
        ·refine nx 4 rfl (fD [98,99,100] h1 rfl (λ c48 h1=>?_) λ c48 h1=>?_)
         ·refine nx 2 rfl (oA h1 rfl rfl λ hk49 h1=>?_)
          refine nx 2 rfl (bd h1 λ r50 e51 h1=>?_)
          refine oK (fu s_0 (i_1+1) o93 o95 _ e51) rfl ⟨sr,sr,sr,sr,trivial⟩ Tryz.call179 rfl (nx 2 rfl ?_)
          refine fB [106,107,108] h1 rfl (λ c52 h1=>?_) λ c52 h1=>?_
          ·refine nx 2 rfl (oA h1 rfl rfl λ hk53 h1=>?_)
           refine bd h1 λ r54 e55 h1=>oK (fu s_0 (i_1+2) 128 191 _ e55) rfl ⟨sr,sr,sr,sr,trivial⟩ Tryz.call179 rfl (nx 2 rfl ?_)
           refine fB [112,113,114] h1 rfl (λ c56 h1=>?_) λ c56 h1=>?_
           ·refine nx 2 rfl (oA h1 rfl rfl λ hk57 h1=>?_)
            refine bd h1 λ r58 e59 h1=>oK (fu s_0 (i_1+3) 128 191 _ e59) rfl ⟨sr,sr,sr,sr,trivial⟩ Tryz.call179 rfl (nx 2 rfl ?_)
            exact eX _ (oi h1).symm (gE rfl rfl)
           exact nx 6 rfl (eX _ (oi h1).symm (gE rfl rfl))
          exact nx 12 rfl (eX _ (oi h1).symm (gE rfl rfl))
         exact nx 20 rfl (eX _ (oi h1).symm (gE rfl rfl))
        exact nx 24 rfl (eX _ (oi h1).symm (gE rfl rfl))
       refine nx 5 rfl (fD [93] h1 rfl (λ c45 h1=>?_) λ c45 h1=>?_)
       ·exact nx 4 rfl (eX _ (oi h1).symm (gE rfl rfl))
       exact nx 2 rfl (eX _ (oi h1).symm (gE rfl rfl))
      refine nx 5 rfl (fD [91] h1 rfl (λ c43 h1=>?_) λ c43 h1=>?_)
      ·exact nx 4 rfl (eX _ (oi h1).symm (gE rfl rfl))
      exact nx 2 rfl (eX _ (oi h1).symm (gE rfl rfl))
     refine nx 4 rfl (fD [52,53] h1 rfl (λ c23 h1=>?_) λ c23 h1=>?_)
     ·refine nx 4 rfl (fD [55,56,57] h1 rfl (λ c24 h1=>?_) λ c24 h1=>?_)
      ·refine nx 2 rfl (oA h1 rfl rfl λ hk25 h1=>?_)
       refine nx 2 rfl (bd h1 λ r26 e27 h1=>?_)
       refine oK (fu s_0 (i_1+1) o87 o89 _ e27) rfl ⟨sr,sr,sr,sr,trivial⟩ Tryz.call179 rfl (nx 2 rfl ?_)
       refine fB [63,64,65] h1 rfl (λ c28 h1=>?_) λ c28 h1=>?_
       ·refine nx 2 rfl (oA h1 rfl rfl λ hk29 h1=>?_)
        refine bd h1 λ r30 e31 h1=>oK (fu s_0 (i_1+2) 128 191 _ e31) rfl ⟨sr,sr,sr,sr,trivial⟩ Tryz.call179 rfl (nx 2 rfl ?_)
        exact eX _ (oi h1).symm (gE rfl rfl)
       exact nx 6 rfl (eX _ (oi h1).symm (gE rfl rfl))
      exact nx 14 rfl (eX _ (oi h1).symm (gE rfl rfl))
     exact nx 18 rfl (eX _ (oi h1).symm (gE rfl rfl))
    refine nx 5 rfl (fD [50] h1 rfl (λ c21 h1=>?_) λ c21 h1=>?_)
    ·exact nx 4 rfl (eX _ (oi h1).symm (gE rfl rfl))
    exact nx 2 rfl (eX _ (oi h1).symm (gE rfl rfl))
   refine nx 5 rfl (fD [48] h1 rfl (λ c19 h1=>?_) λ c19 h1=>?_)
   ·exact nx 4 rfl (eX _ (oi h1).symm (gE rfl rfl))
   exact nx 2 rfl (eX _ (oi h1).symm (gE rfl rfl))
  refine nx 4 rfl (fD [25,26] h1 rfl (λ c7 h1=>?_) λ c7 h1=>?_)
  ·refine nx 4 rfl (fD [28,29,30] h1 rfl (λ c8 h1=>?_) λ c8 h1=>?_)
   ·refine nx 2 rfl (oA h1 rfl rfl λ hk9 h1=>?_)
    refine bd h1 λ r10 e11 h1=>oK (fu s_0 (i_1+1) 128 191 _ e11) rfl ⟨sr,sr,sr,sr,trivial⟩ Tryz.call179 rfl (nx 2 rfl ?_)
    exact eX _ (oi h1).symm (gE rfl rfl)
   exact nx 6 rfl (eX _ (oi h1).symm (gE rfl rfl))
  exact nx 10 rfl (eX _ (oi h1).symm (gE rfl rfl))
 refine nx 4 rfl (fD [10,11] h1 rfl (λ c1 h1=>?_) λ c1 h1=>?_)
 ·exact nx 6 rfl (eX _ (oi h1).symm (gE rfl rfl))
 refine nx 2 rfl (oLs rfl ?_)
 exact nx 3 rfl (eX _ (oi h1).symm (gE rfl rfl))
def d9 (s_0:Bytes):Nat→Int→Option (Unit⊕Bool)
 | 0,_=>none
 | m+1,i8 =>
 if i8 < (s_0.length:Int) then
  (gR s_0 i8).bind λ r10 =>
  if r10.2=0 then
   some (.inr false)
  else
   ck (inR (i8+r10.2)) <|
   d9 s_0 m (i8+r10.2)
 else
  some (.inl ())
def ii (n:Nat)(s_0:Bytes):Option Bool :=
 if 4096 < (s_0.length:Int) then
  some false
 else
  jn (d9 s_0 n 0) λ q15 =>
  some true
set_option maxHeartbeats 4000000 in
theorem px (n:Nat)(s_0:Bytes)(r:Bool)(h0:ii n s_0=some r):au Tryz.prog 205 [eS s_0] (·=.p (eB r)):=by
 unfold ii at h0
 refine aW good Tryz.func205 rfl rfl rfl λ w0=>mP (λ v:Bool=>.p (eB v)) ?_
 refine nx 8 rfl (oLs rfl ?_)
 refine nx 2 rfl (fD [8] h0 rfl (λ c1 h0=>?_) λ c1 h0=>?_)
 ·exact nx 6 rfl (mQ (oi h0) rfl (sr))
 refine nx 8 rfl ?_
 obtain ⟨o16,h1,hL0,hR0⟩:=cz h0
 refine kEx 0 (λ v17:Unit=>o16=.inl v17) (λ v17=>⟨[],[]⟩) (λ v17 hv=>?_) ?_
 ·have h0:=hL0 _ hv
  exact nx 6 rfl (mQ (oi h0) rfl (sr))
 refine lG (λ (q18:Int)=>⟨[(0,.p (eS s_0)),(3,.p (eI q18))],[]⟩) (λ m (q18:Int)=>d9 s_0 m q18) (λ _=>rfl) 0 h1 (gE rfl rfl) ?_
 rintro m i8 h1
 replace h1:d9 s_0 (m+1) i8=some o16:=h1
 rw [d9] at h1
 refine nx 5 rfl (oLs rfl ?_)
 refine nx 2 rfl (fD [12] h1 rfl (λ c9 h1=>?_) λ c9 h1=>?_)
 ·refine nx 7 rfl (bd h1 λ r10 e11 h1=>?_)
  refine oK (nS s_0 i8 _ e11) rfl ⟨sr,sr,trivial⟩ Tryz.call161 rfl (nx 12 rfl ?_)
  refine fD [20] h1 rfl (λ c12 h1=>?_) λ c12 h1=>?_
  ·exact nx 6 rfl (mQ (hR0 _ (oi h1).symm) rfl (sr))
  refine nx 5 rfl (oA h1 rfl rfl λ hk13 h1=>?_)
  exact nx 2 rfl (eX (i8+r10.2) h1 (gE rfl rfl))
 exact nx 2 rfl (eXi _ (oi h1).symm (gE rfl rfl))
end Go.Ab.R06
end
section
set_option linter.unusedVariables false
set_option linter.unusedSimpArgs false
set_option linter.unnecessarySimpa false
namespace Go.Ab.R06
open Go.Proofs Go.Ab Go.Ab.RB
attribute [local irreducible] awp fk aS au aF AV.sub M cB
def gP (v_0:ad):Option Bool :=
 (
   if v_0.fKind=2 then
    some true
   else
    if v_0.fKind=1 then
     if v_0.fNum=0 then
      some true
     else
      if v_0.fNum=1 then
       some true
      else
       some (decide (v_0.fNum=0))
    else
     some (decide (v_0.fNum=0))
  : Option Bool).bind λ num5 =>
 (
   if v_0.fKind=3 then
    some true
   else
    some (decide (v_0.fStr=([]:Bytes)))
  : Option Bool).bind λ str7 =>
 (
   if v_0.fKind=4 then
    some true
   else
    if v_0.fKind=5 then
     some true
    else
     some (decide ((v_0.fItems.length:Int)=0))
  : Option Bool).bind λ items10 =>
 (
   if v_0.fKind=5 then
    if (v_0.fKeys.length:Int)=(v_0.fItems.length:Int) then
     some true
    else
     some false
   else
    some (decide ((v_0.fKeys.length:Int)=0))
  : Option Bool).bind λ keys13 =>
 (
   if 0≤v_0.fKind then
    if v_0.fKind≤6 then
     if num5=true then
      if str7=true then
       if items10=true then
        some keys13
       else
        some false
      else
       some false
     else
      some false
    else
     some false
   else
    some false
  : Option Bool).bind λ t19 =>
 some t19
set_option maxHeartbeats 4000000 in
theorem nU (v_0:ad)(r:Bool)(h0:gP v_0=some r):au Tryz.prog 189 [.agg (ad.cs v_0)] (·=.p (eB r)):=by
 unfold gP at h0
 refine aW good Tryz.func189 rfl rfl rfl λ w0=>mP (λ v:Bool=>.p (eB v)) ?_
 refine nx 6 rfl (bd h0 λ o25 h1 h0=>?_)
 refine kN o25 (λ v26=>⟨[(1,.ptr 1 0),(3,.p (eB v26))],[(1,(ad.cs v_0).map .p)]⟩) ?_ ?_
 ·refine nx 2 rfl (bd h0 λ o27 h1 h0=>?_)
  refine kN o27 (λ v28=>⟨[(1,.ptr 1 0),(3,.p (eB o25)),(4,.p (eB v28))],[(1,(ad.cs v_0).map .p)]⟩) ?_ ?_
  ·refine nx 2 rfl (bd h0 λ o29 h1 h0=>?_)
   refine kN o29 (λ v30=>⟨[(1,.ptr 1 0),(3,.p (eB o25)),(4,.p (eB o27)),(5,.p (eB v30))],[(1,(ad.cs v_0).map .p)]⟩) ?_ ?_
   ·refine nx 2 rfl (bd h0 λ o31 h1 h0=>?_)
    refine kN o31 (λ v32=>⟨[(1,.ptr 1 0),(3,.p (eB o25)),(4,.p (eB o27)),(5,.p (eB o29)),(6,.p (eB v32))],[(1,(ad.cs v_0).map .p)]⟩) ?_ ?_
    ·refine nx 2 rfl (bd h0 λ o33 h1 h0=>?_)
     refine kN o33 (λ v34=>⟨[(2,.p (eB v34))],[]⟩) ?_ ?_
     ·exact nx 2 rfl (mQ (oi h0) rfl (sr))
     refine nx 5 rfl (fD [77,78] h1 rfl (λ c14 h1=>?_) λ c14 h1=>?_)
     ·refine nx 5 rfl (fD [81,82,83] h1 rfl (λ c15 h1=>?_) λ c15 h1=>?_)
      ·refine nx 3 rfl (fB [3,84,85,86] h1 rfl (λ c16 h1=>?_) λ c16 h1=>?_)
       ·refine nx 3 rfl (fB [4,87,88,89] h1 rfl (λ c17 h1=>?_) λ c17 h1=>?_)
        ·refine nx 3 rfl (fB [5,90,91,92] h1 rfl (λ c18 h1=>?_) λ c18 h1=>?_)
         ·exact nx 4 rfl (eX _ (oi h1).symm (gE rfl rfl))
         exact nx 4 rfl (eX _ (oi h1).symm (gE rfl rfl))
        exact nx 7 rfl (eX _ (oi h1).symm (gE rfl rfl))
       exact nx 10 rfl (eX _ (oi h1).symm (gE rfl rfl))
      exact nx 13 rfl (eX _ (oi h1).symm (gE rfl rfl))
     exact nx 18 rfl (eX _ (oi h1).symm (gE rfl rfl))
    refine nx 5 rfl (fD [54,55] h1 rfl (λ c11 h1=>?_) λ c11 h1=>?_)
    ·refine nx 2 rfl (oLl (f:=eS) rfl rfl ?_)
     refine nx 2 rfl (oLl (f:=cU) rfl rfl ?_)
     refine nx 3 rfl (fD [62,63,64] h1 rfl (λ c12 h1=>?_) λ c12 h1=>?_)
     ·exact nx 12 rfl (eX _ (oi h1).symm (gE rfl rfl))
     refine nx 4 rfl (lT [68] (vr c11) rfl ?_)
     exact nx 8 rfl (eX _ (oi h1).symm (gE rfl rfl))
    refine nx 13 rfl (lT [68] (wS c11) rfl ?_)
    refine nx 2 rfl (oLl (f:=eS) rfl rfl ?_)
    exact nx 5 rfl (eX _ (oi h1).symm (gE rfl rfl))
   refine nx 5 rfl (fD [40,41] h1 rfl (λ c8 h1=>?_) λ c8 h1=>?_)
   ·exact nx 12 rfl (eX _ (oi h1).symm (gE rfl rfl))
   refine nx 5 rfl (fD [44,45,46] h1 rfl (λ c9 h1=>?_) λ c9 h1=>?_)
   ·exact nx 7 rfl (eX _ (oi h1).symm (gE rfl rfl))
   refine nx 2 rfl (oLl (f:=cU) rfl rfl ?_)
   exact nx 4 rfl (eX _ (oi h1).symm (gE rfl rfl))
  refine nx 5 rfl (fD [32,33] h1 rfl (λ c6 h1=>?_) λ c6 h1=>?_)
  ·exact nx 6 rfl (eX _ (oi h1).symm (gE rfl rfl))
  refine nx 2 rfl (oS rfl rfl ?_)
  exact nx 3 rfl (eX _ (oi h1).symm (gE rfl rfl))
 refine nx 5 rfl (fD [9,10] h1 rfl (λ c1 h1=>?_) λ c1 h1=>?_)
 ·exact nx 21 rfl (eX _ (oi h1).symm (gE rfl rfl))
 refine nx 4 rfl (fD [13,14] h1 rfl (λ c2 h1=>?_) λ c2 h1=>?_)
 ·refine nx 4 rfl (fD [17,18] h1 rfl (λ c3 h1=>?_) λ c3 h1=>?_)
  ·exact nx 13 rfl (eX _ (oi h1).symm (gE rfl rfl))
  refine nx 7 rfl (fD [21,22,23,24,25] h1 rfl (λ c4 h1=>?_) λ c4 h1=>?_)
  ·exact nx 6 rfl (eX _ (oi h1).symm (gE rfl rfl))
  exact nx 6 rfl (eX _ (oi h1).symm (gE rfl rfl))
 exact nx 17 rfl (eX _ (oi h1).symm (gE rfl rfl))
def gt (n:Nat)(s_0:Bytes):Option Int :=
 if 4096 < (s_0.length:Int) then
  some 3
 else
  (ii n s_0).bind λ r2 =>
  if (!r2)=true then
   some 1
  else
   some 0
set_option maxHeartbeats 4000000 in
theorem lM (n:Nat)(s_0:Bytes)(r:Int)(h0:gt n s_0=some r):au Tryz.prog 191 [eS s_0] (·=.p (eI r)):=by
 unfold gt at h0
 refine aW good Tryz.func191 rfl rfl rfl λ w0=>mP (λ v:Int=>.p (eI v)) ?_
 refine nx 8 rfl (oLs rfl ?_)
 refine nx 2 rfl (fD [5] h0 rfl (λ c1 h0=>?_) λ c1 h0=>?_)
 ·exact nx 6 rfl (mQ (oi h0) rfl (sr))
 refine nx 6 rfl (bd h0 λ r2 e3 h0=>?_)
 refine oK (px _ s_0 _ e3) rfl ⟨sr,trivial⟩ Tryz.call205 rfl (nx 2 rfl ?_)
 refine fB [8] h0 rfl (λ c4 h0=>?_) λ c4 h0=>?_
 ·exact nx 6 rfl (mQ (oi h0) rfl (sr))
 exact nx 7 rfl (mQ (oi h0) rfl (sr))
def dX (n:Nat)(v_0:ad):Nat→Int→Option (Unit⊕Int)
 | 0,_=>none
 | m+1,i25 =>
 if i25 < (v_0.fKeys.length:Int) then
  ck ((0:Int)≤i25∧i25 < (v_0.fKeys.length:Int)) <|
  (gt n (lat v_0.fKeys i25)).bind λ r28 =>
  if r28=0 then
   (
     if 0 < i25 then
      ck (inR (i25 - 1)) <|
      ck ((0:Int)≤i25 - 1∧i25 - 1 < (v_0.fKeys.length:Int)) <|
      ck ((0:Int)≤i25∧i25 < (v_0.fKeys.length:Int)) <|
      some (!Op.bytesLess (lat v_0.fKeys (i25 - 1)) (lat v_0.fKeys i25))
     else
      some false
    : Option Bool).bind λ t35 =>
   if t35=true then
    some (.inr 1)
   else
    ck (inR (i25+1)) <|
    dX n v_0 m (i25+1)
  else
   some (.inr r28)
 else
  some (.inl ())
def iQ (n:Nat)(v_0:ad):Option Int :=
 (gP v_0).bind λ r1 =>
 if (!r1)=true then
  some 1
 else
  (
    if v_0.fKind=2 then
     (jq v_0.fNum).bind λ r5 =>
     some (!r5)
    else
     some false
   : Option Bool).bind λ t7 =>
  if t7=true then
   some 5
  else
   (gt n v_0.fStr).bind λ r9 =>
   if r9=0 then
    jn (dX n v_0 n 0) λ q40 =>
    some 0
   else
    some r9
set_option maxHeartbeats 4000000 in
theorem pY (n:Nat)(v_0:ad)(r:Int)(h0:iQ n v_0=some r):au Tryz.prog 173 [.agg (ad.cs v_0)] (·=.p (eI r)):=by
 unfold iQ at h0
 refine aW good Tryz.func173 rfl rfl rfl λ w0=>mP (λ v:Int=>.p (eI v)) ?_
 refine nx 9 rfl (bd h0 λ r1 e2 h0=>?_)
 refine oK (nU v_0 _ e2) rfl ⟨sr,trivial⟩ Tryz.call189 rfl (nx 2 rfl ?_)
 refine fB [8] h0 rfl (λ c3 h0=>?_) λ c3 h0=>?_
 ·exact nx 6 rfl (mQ (oi h0) rfl (sr))
 refine nx 4 rfl (bd h0 λ o42 h1 h0=>?_)
 refine kN o42 (λ v43=>⟨[(1,.ptr 1 0),(17,.p (eB v43))],[(1,(ad.cs v_0).map .p)]⟩) ?_ ?_
 ·refine nx 1 rfl (fB [17] h0 rfl (λ c8 h0=>?_) λ c8 h0=>?_)
  ·exact nx 6 rfl (mQ (oi h0) rfl (sr))
  refine nx 7 rfl (bd h0 λ r9 e10 h0=>?_)
  refine oK (lM _ v_0.fStr _ e10) rfl ⟨sr,trivial⟩ Tryz.call191 rfl (nx 7 rfl ?_)
  refine fN [22] h0 rfl (λ c11 h0=>?_) λ c11 h0=>?_
  ·refine nx 8 rfl ?_
   obtain ⟨o44,h1,hL0,hR0⟩:=cz h0
   refine kEx 0 (λ v45:Unit=>o44=.inl v45) (λ v45=>⟨[],[]⟩) (λ v45 hv=>?_) ?_
   ·have h0:=hL0 _ hv
    exact nx 6 rfl (mQ (oi h0) rfl (sr))
   refine lG (λ (q46:Int)=>⟨[(1,.ptr 1 0),(4,.p (eI q46))],[(1,(ad.cs v_0).map .p)]⟩) (λ m (q46:Int)=>dX n v_0 m q46) (λ _=>rfl) 0 h1 (gE rfl rfl) ?_
   rintro m i25 h1
   replace h1:dX n v_0 (m+1) i25=some o44:=h1
   rw [dX] at h1
   refine nx 6 rfl (oLl (f:=eS) rfl rfl ?_)
   refine nx 2 rfl (fD [28] h1 rfl (λ c26 h1=>?_) λ c26 h1=>?_)
   ·refine nx 10 rfl (oE h1 (λ _=>rfl) rfl rfl (λ _=>rfl) λ hk27 h1=>?_)
    refine nx 1 rfl (bd h1 λ r28 e29 h1=>?_)
    refine oK (lM _ (lat v_0.fKeys i25) _ e29) rfl ⟨sr,trivial⟩ Tryz.call191 rfl (nx 7 rfl ?_)
    refine fN [38] h1 rfl (λ c30 h1=>?_) λ c30 h1=>?_
    ·refine nx 3 rfl (bd h1 λ o47 h2 h1=>?_)
     refine kN o47 (λ v48=>⟨[(1,.ptr 1 0),(4,.p (eI i25)),(55,.p (eB v48))],[(1,(ad.cs v_0).map .p)]⟩) ?_ ?_
     ·refine nx 1 rfl (fB [55] h1 rfl (λ c36 h1=>?_) λ c36 h1=>?_)
      ·exact nx 6 rfl (mQ (hR0 _ (oi h1).symm) rfl (sr))
      refine nx 4 rfl (oA h1 rfl rfl λ hk37 h1=>?_)
      exact nx 2 rfl (eX (i25+1) h1 (gE rfl rfl))
     refine fD (p:=0 < i25) [] h2 rfl (λ c31 h2=>?_) λ c31 h2=>?_
     ·refine cc' h2 λ hk32 h2=>cc' h2 λ hk33 h2=>cc' h2 λ hk34 h2=>mD [(1,.ptr 1 0),(4,.p (eI i25))] rfl ⟨rfl,rfl,trivial⟩ rfl (dR 1 rfl ?_)
      refine dL (dt c31) rfl (dR 4 rfl ?_)
      refine dq (.p (eI (i25 - 1))) [42,45] rfl (λ _ e _ q=>cX (de rfl rfl rfl (e _ _ rfl) rfl rfl hk32 q) rfl rfl (e _ _ rfl) (rfl)) rfl (dq (.rptr [eS (lat v_0.fKeys (i25 - 1))]) [42,44,46] rfl (λ _ e _ q=>cX (qn (f:=eS) (l:=v_0.fKeys) (λ x=>[eS x]) rfl rfl rfl rfl rfl rfl (e _ _ rfl) rfl (e _ _ rfl) hk33 (λ _=>rfl) (λ _=>rfl) q) rfl rfl (e _ _ rfl) (rfl)) rfl ?_)
      refine dR 4 rfl (dq (.rptr [eS (lat v_0.fKeys i25)]) [42,50,51] rfl (λ _ e _ q=>cX (qn (f:=eS) (l:=v_0.fKeys) (λ x=>[eS x]) rfl rfl rfl rfl rfl rfl (e _ _ rfl) rfl (e _ _ rfl) hk34 (λ _=>rfl) (λ _=>rfl) q) rfl rfl (e _ _ rfl) (rfl)) rfl ?_)
      refine dR 1 rfl (dq (.p (eB (!Op.bytesLess (lat v_0.fKeys (i25 - 1)) (lat v_0.fKeys i25)))) [42,48,53] rfl (λ _ e _ q=>cX (oh rfl rfl rfl (e _ _ rfl) (e _ _ rfl) rfl q) rfl rfl (e _ _ rfl) (rfl)) rfl ?_)
      refine dR 1 rfl (dE rfl ?_)
      exact nx 1 rfl (eX _ (oi h2).symm (gE rfl rfl))
     refine mD [(1,.ptr 1 0),(4,.p (eI i25))] rfl ⟨rfl,rfl,trivial⟩ rfl (dR 1 rfl ?_)
     refine dL (df c31) rfl (dR 14 rfl ?_)
     refine dE rfl (nx 1 rfl ?_)
     exact eX _ (oi h2).symm (gE rfl rfl)
    exact nx 7 rfl (mQ (hR0 _ (oi h1).symm) rfl (sr))
   exact nx 2 rfl (eXi _ (oi h1).symm (gE rfl rfl))
  exact nx 7 rfl (mQ (oi h0) rfl (sr))
 refine nx 5 rfl (fD [11,12] h1 rfl (λ c4 h1=>?_) λ c4 h1=>?_)
 ·refine nx 2 rfl (bd h1 λ r5 e6 h1=>?_)
  refine oK (oM v_0.fNum _ e6) rfl ⟨sr,trivial⟩ Tryz.call190 rfl (nx 3 rfl ?_)
  exact eX _ (oi h1).symm (gE rfl rfl)
 exact nx 6 rfl (eX _ (oi h1).symm (gE rfl rfl))
def ed (r_ref07_check:ad→Int→Int→Option (Int×Int))(v_0:ad)(level_1:Int):Nat→Int→Int→Option (Int⊕(Int×Int))
 | 0,_,_=>none
 | m+1,n16,i17 =>
 if i17 < (v_0.fItems.length:Int) then
  ck ((0:Int)≤i17∧i17 < (v_0.fItems.length:Int)) <|
  ck (inR (level_1+1)) <|
  (r_ref07_check (lat v_0.fItems i17) (level_1+1) n16).bind λ r21 =>
  if r21.1=0 then
   ck (inR (i17+1)) <|
   ed r_ref07_check v_0 level_1 m r21.2 (i17+1)
  else
   some (.inr (r21.1,r21.2))
 else
  some (.inl n16)
def eR:Nat→ad→Int→Int→Option (Int×Int)
 | 0,_,_,_=>none
 | n+1,v_0,level_1,before_2 =>
 if 32 < level_1 then
  some (4,before_2)
 else
  if 4096≤before_2 then
   some (14,before_2)
  else
   (iQ n v_0).bind λ r3 =>
   if r3=0 then
    ck (inR (before_2+1)) <|
    jn (ed (eR n) v_0 level_1 n (before_2+1) 0) λ n27 =>
    some (0,n27)
   else
    some (r3,before_2)
set_option maxHeartbeats 4000000 in
theorem pg (n:Nat):∀ (v_0:ad) (level_1:Int) (before_2:Int) (r:Int×Int),eR n v_0 level_1 before_2=some r→au Tryz.prog 154 [.agg (ad.cs v_0),eI level_1,eI before_2] (·=.tuple [.p (eI r.1),.p (eI r.2)]):=by
 induction n with
 | zero=>intro v_0 level_1 before_2 r h0; cases h0
 | succ n ih =>
 have ih_ref07_check_ok:=ih
 intro v_0 level_1 before_2 r h0
 rw [eR] at h0
 refine aW good Tryz.func154 rfl rfl rfl λ w0=>mP (λ v:Int×Int=>.tuple [.p (eI v.1),.p (eI v.2)]) ?_
 refine nx 12 rfl (fD [14] h0 rfl (λ c1 h0=>?_) λ c1 h0=>?_)
 ·exact nx 8 rfl (mQ (oi h0) rfl (ap ⟨sr,sr,trivial⟩))
 refine nx 8 rfl (fD [17] h0 rfl (λ c2 h0=>?_) λ c2 h0=>?_)
 ·exact nx 8 rfl (mQ (oi h0) rfl (ap ⟨sr,sr,trivial⟩))
 refine nx 6 rfl (bd h0 λ r3 e4 h0=>?_)
 refine oK (pY _ v_0 _ e4) rfl ⟨sr,trivial⟩ Tryz.call173 rfl (nx 7 rfl ?_)
 refine fN [22] h0 rfl (λ c5 h0=>?_) λ c5 h0=>?_
 ·refine nx 5 rfl (oA h0 rfl rfl λ hk6 h0=>?_)
  refine nx 8 rfl ?_
  obtain ⟨o29,h1,hL0,hR0⟩:=cz h0
  refine kEx 0 (λ v30:Int=>o29=.inl v30) (λ v30=>⟨[(9,.p (eI v30))],[]⟩) (λ v30 hv=>?_) ?_
  ·have h0:=hL0 _ hv
   exact nx 8 rfl (mQ (oi h0) rfl (ap ⟨sr,sr,trivial⟩))
  refine lG (λ (q31:Int×Int)=>⟨[(1,.p (eI level_1)),(3,.ptr 3 0),(9,.p (eI q31.1)),(10,.p (eI q31.2))],[(3,(ad.cs v_0).map .p)]⟩) (λ m (q31:Int×Int)=>ed (eR n) v_0 level_1 m q31.1 q31.2) (λ _=>rfl) (before_2+1,0) h1 (gE rfl rfl) ?_
  rintro m ⟨n16,i17⟩ h1
  replace h1:ed (eR n) v_0 level_1 (m+1) n16 i17=some o29:=h1
  rw [ed] at h1
  refine nx 6 rfl (oLl (f:=cU) rfl rfl ?_)
  refine nx 2 rfl (fD [31] h1 rfl (λ c18 h1=>?_) λ c18 h1=>?_)
  ·refine nx 9 rfl (oE h1 ad.cells_eq rfl rfl (λ _=>rfl) λ hk19 h1=>?_)
   refine nx 2 rfl (oA h1 rfl rfl λ hk20 h1=>?_)
   refine nx 1 rfl (bd h1 λ r21 e22 h1=>?_)
   refine oK (ih_ref07_check_ok (lat v_0.fItems i17) (level_1+1) n16 _ e22) rfl ⟨sr,sr,sr,trivial⟩ Tryz.call154 rfl (nx 12 rfl ?_)
   refine fN [47] h1 rfl (λ c23 h1=>?_) λ c23 h1=>?_
   ·refine nx 8 rfl (oA h1 rfl rfl λ hk24 h1=>?_)
    exact nx 2 rfl (eX (r21.2,i17+1) h1 (gE rfl rfl))
   refine nx 8 rfl (mG (gE (t:=⟨[(6,.p (eI r21.1)),(7,.p (eI r21.2))],[]⟩) rfl rfl) ?_)
   exact nx 1 rfl (mQ (hR0 _ (oi h1).symm) rfl (ap ⟨sr,sr,trivial⟩))
  exact nx 2 rfl (eXi _ (oi h1).symm (gE rfl rfl))
 exact nx 9 rfl (mQ (oi h0) rfl (ap ⟨sr,sr,trivial⟩))
def ic (n:Nat)(v_0:ad):Option Int :=
 (eR n v_0 1 0).bind λ r1 =>
 some r1.1
set_option maxHeartbeats 4000000 in
theorem oG (n:Nat)(v_0:ad)(r:Int)(h0:ic n v_0=some r):au Tryz.prog 116 [.agg (ad.cs v_0)] (·=.p (eI r)):=by
 unfold ic at h0
 refine aW good Tryz.func116 rfl rfl rfl λ w0=>mP (λ v:Int=>.p (eI v)) ?_
 refine nx 8 rfl (bd h0 λ r1 e2 h0=>?_)
 refine oK (pg _ v_0 1 0 _ e2) rfl ⟨sr,sr,sr,trivial⟩ Tryz.call154 rfl (nx 12 rfl ?_)
 exact mQ (oi h0) rfl (sr)
end Go.Ab.R06
end
section
set_option linter.unusedVariables false
set_option linter.unusedSimpArgs false
set_option linter.unnecessarySimpa false
namespace Go.Ab.R06
open Go.Proofs Go.Ab Go.Ab.RB
attribute [local irreducible] awp fk aS au aF AV.sub M cB
def nY (s_0:Bytes):Nat→Int→Option Int
 | 0,_=>none
 | m+1,at11 =>
 (
   if at11 < (s_0.length:Int) then
    ck ((0:Int)≤at11∧at11 < (s_0.length:Int)) <|
    if byt s_0 at11=32 then
     some true
    else
     ck ((0:Int)≤at11∧at11 < (s_0.length:Int)) <|
     if byt s_0 at11=9 then
      some true
     else
      ck ((0:Int)≤at11∧at11 < (s_0.length:Int)) <|
      some (decide (byt s_0 at11=13))
   else
    some false
  : Option Bool).bind λ t18 =>
 if t18=true then
  ck (inR (at11+1)) <|
  nY s_0 m (at11+1)
 else
  some at11
def fX (c_0:Int):Option Bool :=
 (
   if 97≤c_0 then
    if c_0≤122 then
     some true
    else
     if 65≤c_0 then
      if c_0≤90 then
       some true
      else
       some (decide (c_0=95))
     else
      some (decide (c_0=95))
   else
    if 65≤c_0 then
     if c_0≤90 then
      some true
     else
      some (decide (c_0=95))
    else
     some (decide (c_0=95))
  : Option Bool).bind λ t7 =>
 some t7
set_option maxHeartbeats 4000000 in
theorem ko (c_0:Int)(r:Bool)(h0:fX c_0=some r):au Tryz.prog 155 [eK .u8 c_0] (·=.p (eB r)):=by
 unfold fX at h0
 refine aW good Tryz.func155 rfl rfl rfl λ w0=>mP (λ v:Bool=>.p (eB v)) ?_
 refine nx 5 rfl (bd h0 λ o9 h1 h0=>?_)
 refine kN o9 (λ v10=>⟨[(2,.p (eB v10))],[]⟩) ?_ ?_
 ·exact nx 2 rfl (mQ (oi h0) rfl (sr))
 refine nx 4 rfl (fD [4,5] h1 rfl (λ c1 h1=>?_) λ c1 h1=>?_)
 ·refine nx 4 rfl (fD [7,8,9] h1 rfl (λ c2 h1=>?_) λ c2 h1=>?_)
  ·exact nx 13 rfl (eX _ (oi h1).symm (gE rfl rfl))
  refine nx 3 rfl (fD [11,12] h1 rfl (λ c3 h1=>?_) λ c3 h1=>?_)
  ·refine nx 5 rfl (fD [14,15,16,17] h1 rfl (λ c4 h1=>?_) λ c4 h1=>?_)
   ·exact nx 5 rfl (eX _ (oi h1).symm (gE rfl rfl))
   exact nx 5 rfl (eX _ (oi h1).symm (gE rfl rfl))
  exact nx 10 rfl (eX _ (oi h1).symm (gE rfl rfl))
 refine nx 7 rfl (fD [11,12] h1 rfl (λ c5 h1=>?_) λ c5 h1=>?_)
 ·refine nx 5 rfl (fD [14,15,16,17] h1 rfl (λ c6 h1=>?_) λ c6 h1=>?_)
  ·exact nx 5 rfl (eX _ (oi h1).symm (gE rfl rfl))
  exact nx 5 rfl (eX _ (oi h1).symm (gE rfl rfl))
 exact nx 10 rfl (eX _ (oi h1).symm (gE rfl rfl))
def ce (s_0:Bytes):Nat→Int→Option (Unit⊕Bool)
 | 0,_=>none
 | m+1,i20 =>
 if i20 < (s_0.length:Int) then
  (
    ck ((0:Int)≤i20∧i20 < (s_0.length:Int)) <|
    (fX (byt s_0 i20)).bind λ r23 =>
    if (!r23)=true then
     ck ((0:Int)≤i20∧i20 < (s_0.length:Int)) <|
     if byt s_0 i20 < 48 then
      some true
     else
      ck ((0:Int)≤i20∧i20 < (s_0.length:Int)) <|
      some (decide (57 < byt s_0 i20))
    else
     some false
   : Option Bool).bind λ t29 =>
  if t29=true then
   some (.inr false)
  else
   ck (inR (i20+1)) <|
   ce s_0 m (i20+1)
 else
  some (.inl ())
def d3 (n:Nat)(s_0:Bytes):Option Bool :=
 (
   if s_0=([]:Bytes) then
    some true
   else
    if 64 < (s_0.length:Int) then
     some true
    else
     ck ((0:Int)≤0∧0 < (s_0.length:Int)) <|
     (fX (byt s_0 0)).bind λ r4 =>
     some (!r4)
  : Option Bool).bind λ t6 =>
 if t6=true then
  some false
 else
  jn (ce s_0 n 0) λ q34 =>
  some true
set_option maxHeartbeats 4000000 in
theorem iA (n:Nat)(s_0:Bytes)(r:Bool)(h0:d3 n s_0=some r):au Tryz.prog 118 [eS s_0] (·=.p (eB r)):=by
 unfold d3 at h0
 refine aW good Tryz.func118 rfl rfl rfl λ w0=>mP (λ v:Bool=>.p (eB v)) ?_
 refine nx 6 rfl (bd h0 λ o36 h1 h0=>?_)
 refine kN o36 (λ v37=>⟨[(0,.p (eS s_0)),(16,.p (eB v37))],[]⟩) ?_ ?_
 ·refine nx 1 rfl (fB [16] h0 rfl (λ c7 h0=>?_) λ c7 h0=>?_)
  ·exact nx 6 rfl (mQ (oi h0) rfl (sr))
  refine nx 8 rfl ?_
  obtain ⟨o38,h1,hL0,hR0⟩:=cz h0
  refine kEx 0 (λ v39:Unit=>o38=.inl v39) (λ v39=>⟨[],[]⟩) (λ v39 hv=>?_) ?_
  ·have h0:=hL0 _ hv
   exact nx 6 rfl (mQ (oi h0) rfl (sr))
  refine lG (λ (q40:Int)=>⟨[(0,.p (eS s_0)),(3,.p (eI q40))],[]⟩) (λ m (q40:Int)=>ce s_0 m q40) (λ _=>rfl) 0 h1 (gE rfl rfl) ?_
  rintro m i20 h1
  replace h1:ce s_0 (m+1) i20=some o38:=h1
  rw [ce] at h1
  refine nx 5 rfl (oLs rfl ?_)
  refine nx 2 rfl (fD [20] h1 rfl (λ c21 h1=>?_) λ c21 h1=>?_)
  ·refine nx 5 rfl (bd h1 λ o41 h2 h1=>?_)
   refine kN o41 (λ v42=>⟨[(0,.p (eS s_0)),(3,.p (eI i20)),(39,.p (eB v42))],[]⟩) ?_ ?_
   ·refine nx 1 rfl (fB [39] h1 rfl (λ c30 h1=>?_) λ c30 h1=>?_)
    ·exact nx 6 rfl (mQ (hR0 _ (oi h1).symm) rfl (sr))
    refine nx 4 rfl (oA h1 rfl rfl λ hk31 h1=>?_)
    exact nx 2 rfl (eX (i20+1) h1 (gE rfl rfl))
   refine nx 3 rfl (oI h2 rfl λ hk22 h2=>?_)
   refine bd h2 λ r23 e24 h2=>oK (ko (byt s_0 i20) _ e24) rfl ⟨sr,trivial⟩ Tryz.call155 rfl (nx 2 rfl ?_)
   refine fB [27,28] h2 rfl (λ c25 h2=>?_) λ c25 h2=>?_
   ·refine nx 2 rfl (oI h2 rfl λ hk26 h2=>?_)
    refine nx 2 rfl (fD [32,33] h2 rfl (λ c27 h2=>?_) λ c27 h2=>?_)
    ·exact nx 7 rfl (eX _ (oi h2).symm (gE rfl rfl))
    refine nx 2 rfl (oI h2 rfl λ hk28 h2=>?_)
    exact nx 4 rfl (eX _ (oi h2).symm (gE rfl rfl))
   exact nx 12 rfl (eX _ (oi h2).symm (gE rfl rfl))
  exact nx 2 rfl (eXi _ (oi h1).symm (gE rfl rfl))
 refine nx 2 rfl (oS rfl rfl ?_)
 refine nx 1 rfl (fD [5,6] h1 rfl (λ c1 h1=>?_) λ c1 h1=>?_)
 ·exact nx 11 rfl (eX _ (oi h1).symm (gE rfl rfl))
 refine nx 1 rfl (oLs rfl ?_)
 refine nx 3 rfl (fD [9,10,11] h1 rfl (λ c2 h1=>?_) λ c2 h1=>?_)
 ·exact nx 6 rfl (eX _ (oi h1).symm (gE rfl rfl))
 refine nx 1 rfl (oI h1 rfl λ hk3 h1=>?_)
 refine bd h1 λ r4 e5 h1=>oK (ko (byt s_0 0) _ e5) rfl ⟨sr,trivial⟩ Tryz.call155 rfl (nx 3 rfl ?_)
 exact eX _ (oi h1).symm (gE rfl rfl)
end Go.Ab.R06
end
section
set_option linter.unusedVariables false
set_option linter.unusedSimpArgs false
set_option linter.unnecessarySimpa false
namespace Go.Ab.R06
open Go.Proofs Go.Ab Go.Ab.RB
attribute [local irreducible] awp fk aS au aF AV.sub M cB
def fj (k_0:Int):Option Bool :=
 (
   if k_0=12 then
    some true
   else
    some (decide (k_0=13))
  : Option Bool).bind λ t2 =>
 some t2
set_option maxHeartbeats 4000000 in
theorem lJ (k_0:Int)(r:Bool)(h0:fj k_0=some r):au Tryz.prog 152 [eI k_0] (·=.p (eB r)):=by
 unfold fj at h0
 refine aW good Tryz.func152 rfl rfl rfl λ w0=>mP (λ v:Bool=>.p (eB v)) ?_
 refine nx 5 rfl (bd h0 λ o4 h1 h0=>?_)
 refine kN o4 (λ v5=>⟨[(2,.p (eB v5))],[]⟩) ?_ ?_
 ·exact nx 2 rfl (mQ (oi h0) rfl (sr))
 refine nx 4 rfl (fD [4,5] h1 rfl (λ c1 h1=>?_) λ c1 h1=>?_)
 ·exact nx 5 rfl (eX _ (oi h1).symm (gE rfl rfl))
 exact nx 5 rfl (eX _ (oi h1).symm (gE rfl rfl))
def eV (k_0:Int):Option Bool :=
 (
   if k_0=3 then
    some true
   else
    if k_0=4 then
     some true
    else
     if k_0=9 then
      some true
     else
      (fj k_0).bind λ r4 =>
      some r4
  : Option Bool).bind λ t6 =>
 some t6
set_option maxHeartbeats 4000000 in
theorem iR (k_0:Int)(r:Bool)(h0:eV k_0=some r):au Tryz.prog 117 [eI k_0] (·=.p (eB r)):=by
 unfold eV at h0
 refine aW good Tryz.func117 rfl rfl rfl λ w0=>mP (λ v:Bool=>.p (eB v)) ?_
 refine nx 5 rfl (bd h0 λ o8 h1 h0=>?_)
 refine kN o8 (λ v9=>⟨[(2,.p (eB v9))],[]⟩) ?_ ?_
 ·exact nx 2 rfl (mQ (oi h0) rfl (sr))
 refine nx 4 rfl (fD [4,5] h1 rfl (λ c1 h1=>?_) λ c1 h1=>?_)
 ·exact nx 13 rfl (eX _ (oi h1).symm (gE rfl rfl))
 refine nx 4 rfl (fD [7,8,9] h1 rfl (λ c2 h1=>?_) λ c2 h1=>?_)
 ·exact nx 9 rfl (eX _ (oi h1).symm (gE rfl rfl))
 refine nx 4 rfl (fD [11,12,13] h1 rfl (λ c3 h1=>?_) λ c3 h1=>?_)
 ·exact nx 5 rfl (eX _ (oi h1).symm (gE rfl rfl))
 refine nx 1 rfl (bd h1 λ r4 e5 h1=>?_)
 refine oK (lJ k_0 _ e5) rfl ⟨sr,trivial⟩ Tryz.call152 rfl (nx 3 rfl ?_)
 exact eX _ (oi h1).symm (gE rfl rfl)
def fb (k_0:Int)(n_1:Int):Option Bool :=
 (
   if k_0=1 then
    some true
   else
    some (decide (k_0=3))
  : Option Bool).bind λ t2 =>
 if t2=true then
  some (decide (n_1=0))
 else
  if k_0=2 then
   some (decide (1≤n_1))
  else
   (
     if k_0=4 then
      some true
     else
      some (decide (k_0=6))
    : Option Bool).bind λ t6 =>
   if t6=true then
    some (decide (n_1=1))
   else
    (
      if k_0=5 then
       some true
      else
       some (decide (k_0=7))
     : Option Bool).bind λ t9 =>
    if t9=true then
     some (decide (n_1=2))
    else
     if k_0=8 then
      some (decide (n_1=3))
     else
      (
        if k_0=9 then
         some true
        else
         some (decide (k_0=10))
       : Option Bool).bind λ t13 =>
      if t13=true then
       some true
      else
       if k_0=11 then
        ck ((2:Int)≠0) <|
        some (decide (n_1.tmod 2=0))
       else
        if k_0=12 then
         (
           if n_1=2 then
            some true
           else
            some (decide (n_1=3))
          : Option Bool).bind λ t19 =>
         some t19
        else
         if k_0=13 then
          (
            if n_1=3 then
             some true
            else
             some (decide (n_1=4))
           : Option Bool).bind λ t22 =>
          some t22
         else
          some false
set_option maxHeartbeats 4000000 in
theorem pZ (k_0:Int)(n_1:Int)(r:Bool)(h0:fb k_0 n_1=some r):au Tryz.prog 151 [eI k_0,eI n_1] (·=.p (eB r)):=by
 unfold fb at h0
 refine aW good Tryz.func151 rfl rfl rfl λ w0=>mP (λ v:Bool=>.p (eB v)) ?_
 refine nx 11 rfl (bd h0 λ o29 h1 h0=>?_)
 refine kN o29 (λ v30=>⟨[(1,.p (eI n_1)),(5,.p (eI k_0)),(6,.p (eB v30))],[]⟩) ?_ ?_
 ·refine nx 1 rfl (fB [6] h0 rfl (λ c3 h0=>?_) λ c3 h0=>?_)
  ·exact nx 8 rfl (mQ (oi h0) rfl (sr))
  refine nx 6 rfl (fD [11,12] h0 rfl (λ c4 h0=>?_) λ c4 h0=>?_)
  ·exact nx 8 rfl (mQ (oi h0) rfl (sr))
  refine nx 2 rfl (bd h0 λ o31 h1 h0=>?_)
  refine kN o31 (λ v32=>⟨[(1,.p (eI n_1)),(5,.p (eI k_0)),(15,.p (eB v32))],[]⟩) ?_ ?_
  ·refine nx 1 rfl (fB [15] h0 rfl (λ c7 h0=>?_) λ c7 h0=>?_)
   ·exact nx 8 rfl (mQ (oi h0) rfl (sr))
   refine nx 2 rfl (bd h0 λ o33 h1 h0=>?_)
   refine kN o33 (λ v34=>⟨[(1,.p (eI n_1)),(5,.p (eI k_0)),(20,.p (eB v34))],[]⟩) ?_ ?_
   ·refine nx 1 rfl (fB [20] h0 rfl (λ c10 h0=>?_) λ c10 h0=>?_)
    ·exact nx 8 rfl (mQ (oi h0) rfl (sr))
    refine nx 6 rfl (fD [25,26] h0 rfl (λ c11 h0=>?_) λ c11 h0=>?_)
    ·exact nx 8 rfl (mQ (oi h0) rfl (sr))
    refine nx 2 rfl (bd h0 λ o35 h1 h0=>?_)
    refine kN o35 (λ v36=>⟨[(1,.p (eI n_1)),(5,.p (eI k_0)),(29,.p (eB v36))],[]⟩) ?_ ?_
    ·refine nx 1 rfl (fB [29] h0 rfl (λ c14 h0=>?_) λ c14 h0=>?_)
     ·exact nx 6 rfl (mQ (oi h0) rfl (sr))
     refine nx 6 rfl (fD [32,33] h0 rfl (λ c15 h0=>?_) λ c15 h0=>?_)
     ·refine nx 4 rfl (cc' h0 λ hk16 h0=>?_)
      refine mO rfl (uX rfl rfl rfl rfl rfl rfl hk16 ?_)
      exact nx 4 rfl (mQ (oi h0) rfl (sr))
     refine nx 6 rfl (fD [37,38] h0 rfl (λ c17 h0=>?_) λ c17 h0=>?_)
     ·refine nx 2 rfl (bd h0 λ o37 h1 h0=>?_)
      refine kN o37 (λ v38=>⟨[(4,.p (eB v38))],[]⟩) ?_ ?_
      ·exact nx 2 rfl (mQ (oi h0) rfl (sr))
      refine nx 4 rfl (fD [40,41] h1 rfl (λ c18 h1=>?_) λ c18 h1=>?_)
      ·exact nx 5 rfl (eX _ (oi h1).symm (gE rfl rfl))
      exact nx 5 rfl (eX _ (oi h1).symm (gE rfl rfl))
     refine nx 6 rfl (fD [45,46] h0 rfl (λ c20 h0=>?_) λ c20 h0=>?_)
     ·refine nx 2 rfl (bd h0 λ o39 h1 h0=>?_)
      refine kN o39 (λ v40=>⟨[(4,.p (eB v40))],[]⟩) ?_ ?_
      ·exact nx 2 rfl (mQ (oi h0) rfl (sr))
      refine nx 4 rfl (fD [48,49] h1 rfl (λ c21 h1=>?_) λ c21 h1=>?_)
      ·exact nx 5 rfl (eX _ (oi h1).symm (gE rfl rfl))
      exact nx 5 rfl (eX _ (oi h1).symm (gE rfl rfl))
     exact nx 7 rfl (mQ (oi h0) rfl (sr))
    refine nx 5 rfl (fD [29,30] h1 rfl (λ c12 h1=>?_) λ c12 h1=>?_)
    ·exact nx 2 rfl (eX _ (oi h1).symm (gE rfl rfl))
    exact nx 5 rfl (eX _ (oi h1).symm (gE rfl rfl))
   refine nx 5 rfl (fD [20,21] h1 rfl (λ c8 h1=>?_) λ c8 h1=>?_)
   ·exact nx 2 rfl (eX _ (oi h1).symm (gE rfl rfl))
   exact nx 5 rfl (eX _ (oi h1).symm (gE rfl rfl))
  refine nx 5 rfl (fD [15,16] h1 rfl (λ c5 h1=>?_) λ c5 h1=>?_)
  ·exact nx 2 rfl (eX _ (oi h1).symm (gE rfl rfl))
  exact nx 5 rfl (eX _ (oi h1).symm (gE rfl rfl))
 refine nx 5 rfl (fD [6,7] h1 rfl (λ c1 h1=>?_) λ c1 h1=>?_)
 ·exact nx 2 rfl (eX _ (oi h1).symm (gE rfl rfl))
 exact nx 5 rfl (eX _ (oi h1).symm (gE rfl rfl))
def gn (v_0:ad):Option Bool :=
 (
   if v_0.fKind=0 then
    if v_0.fNum=0 then
     if v_0.fStr=([]:Bytes) then
      if (v_0.fItems.length:Int)=0 then
       some (decide ((v_0.fKeys.length:Int)=0))
      else
       some false
     else
      some false
    else
     some false
   else
    some false
  : Option Bool).bind λ t5 =>
 some t5
set_option maxHeartbeats 4000000 in
theorem pE (v_0:ad)(r:Bool)(h0:gn v_0=some r):au Tryz.prog 153 [.agg (ad.cs v_0)] (·=.p (eB r)):=by
 unfold gn at h0
 refine aW good Tryz.func153 rfl rfl rfl λ w0=>mP (λ v:Bool=>.p (eB v)) ?_
 refine nx 6 rfl (bd h0 λ o7 h1 h0=>?_)
 refine kN o7 (λ v8=>⟨[(2,.p (eB v8))],[]⟩) ?_ ?_
 ·exact nx 2 rfl (mQ (oi h0) rfl (sr))
 refine nx 5 rfl (fD [5,6] h1 rfl (λ c1 h1=>?_) λ c1 h1=>?_)
 ·refine nx 5 rfl (fD [9,10,11] h1 rfl (λ c2 h1=>?_) λ c2 h1=>?_)
  ·refine nx 2 rfl (oS rfl rfl ?_)
   refine nx 2 rfl (fD [14,15,16] h1 rfl (λ c3 h1=>?_) λ c3 h1=>?_)
   ·refine nx 2 rfl (oLl (f:=cU) rfl rfl ?_)
    refine nx 3 rfl (fD [20,21,22] h1 rfl (λ c4 h1=>?_) λ c4 h1=>?_)
    ·refine nx 2 rfl (oLl (f:=eS) rfl rfl ?_)
     exact nx 4 rfl (eX _ (oi h1).symm (gE rfl rfl))
    exact nx 7 rfl (eX _ (oi h1).symm (gE rfl rfl))
   exact nx 13 rfl (eX _ (oi h1).symm (gE rfl rfl))
  exact nx 18 rfl (eX _ (oi h1).symm (gE rfl rfl))
 exact nx 23 rfl (eX _ (oi h1).symm (gE rfl rfl))
def dU (e_0:ac):Option Bool :=
 (
   (fb e_0.fKind (e_0.fKids.length:Int)).bind λ r1 =>
   if (!r1)=true then
    some true
   else
    (fj e_0.fKind).bind λ r4 =>
    if (!r4)=true then
     if e_0.fKey=([]:Bytes) then
      (eV e_0.fKind).bind λ r8 =>
      if (!r8)=true then
       some (!decide (e_0.fName=([]:Bytes)))
      else
       some false
     else
      some true
    else
     (eV e_0.fKind).bind λ r11 =>
     if (!r11)=true then
      some (!decide (e_0.fName=([]:Bytes)))
     else
      some false
  : Option Bool).bind λ t14 =>
 if t14=true then
  some false
 else
  if e_0.fKind=1 then
   (
     if e_0.fOp=0 then
      if e_0.fValue.fKind=0 then
       some true
      else
       if e_0.fValue.fKind=1 then
        some true
       else
        if e_0.fValue.fKind=3 then
         some true
        else
         if e_0.fValue.fKind=2 then
          some (decide (0≤e_0.fValue.fNum))
         else
          some false
     else
      some false
    : Option Bool).bind λ t22 =>
   some t22
  else
   (gn e_0.fValue).bind λ r23 =>
   if (!r23)=true then
    some false
   else
    if e_0.fKind=6 then
     (
       if e_0.fOp=1 then
        some true
       else
        some (decide (e_0.fOp=2))
      : Option Bool).bind λ t28 =>
     some t28
    else
     if e_0.fKind=7 then
      (
        if 3≤e_0.fOp then
         some (decide (e_0.fOp≤15))
        else
         some false
       : Option Bool).bind λ t31 =>
      some t31
     else
      some (decide (e_0.fOp=0))
set_option maxHeartbeats 4000000 in
theorem og (e_0:ac)(r:Bool)(h0:dU e_0=some r):au Tryz.prog 115 [.agg (ac.cs e_0)] (·=.p (eB r)):=by
 unfold dU at h0
 refine aW good Tryz.func115 rfl rfl rfl λ w0=>mP (λ v:Bool=>.p (eB v)) ?_
 refine nx 7 rfl (bd h0 λ o36 h1 h0=>?_)
 refine kN o36 (λ v37=>⟨[(1,.ptr 1 0),(32,.p (eB v37))],[(1,(ac.cs e_0).map .p)]⟩) ?_ ?_
 ·refine nx 1 rfl (fB [32] h0 rfl (λ c15 h0=>?_) λ c15 h0=>?_)
  ·exact nx 6 rfl (mQ (oi h0) rfl (sr))
  refine nx 9 rfl (fD [35] h0 rfl (λ c16 h0=>?_) λ c16 h0=>?_)
  ·refine nx 9 rfl (bd h0 λ o38 h1 h0=>?_)
   refine kN o38 (λ v39=>⟨[(2,.p (eB v39))],[]⟩) ?_ ?_
   ·exact nx 2 rfl (mQ (oi h0) rfl (sr))
   refine nx 5 rfl (fD [41,42] h1 rfl (λ c17 h1=>?_) λ c17 h1=>?_)
   ·refine nx 3 rfl (fD [44,45] h1 rfl (λ c18 h1=>?_) λ c18 h1=>?_)
    ·exact nx 20 rfl (eX _ (oi h1).symm (gE rfl rfl))
    refine nx 4 rfl (fD [47,48,49] h1 rfl (λ c19 h1=>?_) λ c19 h1=>?_)
    ·exact nx 16 rfl (eX _ (oi h1).symm (gE rfl rfl))
    refine nx 4 rfl (fD [51,52,53] h1 rfl (λ c20 h1=>?_) λ c20 h1=>?_)
    ·exact nx 12 rfl (eX _ (oi h1).symm (gE rfl rfl))
    refine nx 3 rfl (fD [55,56] h1 rfl (λ c21 h1=>?_) λ c21 h1=>?_)
    ·exact nx 9 rfl (eX _ (oi h1).symm (gE rfl rfl))
    exact nx 9 rfl (eX _ (oi h1).symm (gE rfl rfl))
   exact nx 23 rfl (eX _ (oi h1).symm (gE rfl rfl))
  refine nx 7 rfl (bd h0 λ r23 e24 h0=>?_)
  refine oK (pE e_0.fValue _ e24) rfl ⟨sr,trivial⟩ Tryz.call153 rfl (nx 2 rfl ?_)
  refine fB [67] h0 rfl (λ c25 h0=>?_) λ c25 h0=>?_
  ·exact nx 6 rfl (mQ (oi h0) rfl (sr))
  refine nx 14 rfl (fD [70,71] h0 rfl (λ c26 h0=>?_) λ c26 h0=>?_)
  ·refine nx 2 rfl (bd h0 λ o40 h1 h0=>?_)
   refine kN o40 (λ v41=>⟨[(2,.p (eB v41))],[]⟩) ?_ ?_
   ·exact nx 2 rfl (mQ (oi h0) rfl (sr))
   refine nx 5 rfl (fD [74,75] h1 rfl (λ c27 h1=>?_) λ c27 h1=>?_)
   ·exact nx 6 rfl (eX _ (oi h1).symm (gE rfl rfl))
   exact nx 6 rfl (eX _ (oi h1).symm (gE rfl rfl))
  refine nx 6 rfl (fD [80,81] h0 rfl (λ c29 h0=>?_) λ c29 h0=>?_)
  ·refine nx 2 rfl (bd h0 λ o42 h1 h0=>?_)
   refine kN o42 (λ v43=>⟨[(2,.p (eB v43))],[]⟩) ?_ ?_
   ·exact nx 2 rfl (mQ (oi h0) rfl (sr))
   refine nx 5 rfl (fD [84,85] h1 rfl (λ c30 h1=>?_) λ c30 h1=>?_)
   ·exact nx 6 rfl (eX _ (oi h1).symm (gE rfl rfl))
   exact nx 6 rfl (eX _ (oi h1).symm (gE rfl rfl))
  exact nx 10 rfl (mQ (oi h0) rfl (sr))
 refine nx 5 rfl (oLl (f:=ae) rfl rfl ?_)
 refine bd h1 λ r1 e2 h1=>oK (pZ e_0.fKind (e_0.fKids.length:Int) _ e2) rfl ⟨sr,sr,trivial⟩ Tryz.call151 rfl (nx 2 rfl ?_)
 refine fB [10,11] h1 rfl (λ c3 h1=>?_) λ c3 h1=>?_
 ·exact nx 22 rfl (eX _ (oi h1).symm (gE rfl rfl))
 refine nx 2 rfl (bd h1 λ r4 e5 h1=>?_)
 refine oK (lJ e_0.fKind _ e5) rfl ⟨sr,trivial⟩ Tryz.call152 rfl (nx 2 rfl ?_)
 refine fB [15,16] h1 rfl (λ c6 h1=>?_) λ c6 h1=>?_
 ·refine nx 2 rfl (oS rfl rfl ?_)
  refine nx 3 rfl (fN [19,20,21,22] h1 rfl (λ c7 h1=>?_) λ c7 h1=>?_)
  ·refine nx 2 rfl (bd h1 λ r8 e9 h1=>?_)
   refine oK (iR e_0.fKind _ e9) rfl ⟨sr,trivial⟩ Tryz.call117 rfl (nx 2 rfl ?_)
   refine fB [26,27] h1 rfl (λ c10 h1=>?_) λ c10 h1=>?_
   ·refine nx 2 rfl (oS rfl rfl ?_)
    exact nx 3 rfl (eX _ (oi h1).symm (gE rfl rfl))
   exact nx 6 rfl (eX _ (oi h1).symm (gE rfl rfl))
  exact nx 11 rfl (eX _ (oi h1).symm (gE rfl rfl))
 refine nx 8 rfl (bd h1 λ r11 e12 h1=>?_)
 refine oK (iR e_0.fKind _ e12) rfl ⟨sr,trivial⟩ Tryz.call117 rfl (nx 2 rfl ?_)
 refine fB [26,27] h1 rfl (λ c13 h1=>?_) λ c13 h1=>?_
 ·refine nx 2 rfl (oS rfl rfl ?_)
  exact nx 3 rfl (eX _ (oi h1).symm (gE rfl rfl))
 exact nx 6 rfl (eX _ (oi h1).symm (gE rfl rfl))
def eG (s_0:Bytes):Option Bool :=
 (
   if s_0=([110,117,108,108]:Bytes) then
    some true
   else
    if s_0=([116,114,117,101]:Bytes) then
     some true
    else
     if s_0=([102,97,108,115,101]:Bytes) then
      some true
     else
      if s_0=([102,111,114]:Bytes) then
       some true
      else
       if s_0=([105,110]:Bytes) then
        some true
       else
        some (decide (s_0=([105,102]:Bytes)))
  : Option Bool).bind λ t6 =>
 some t6
set_option maxHeartbeats 4000000 in
theorem jm (s_0:Bytes)(r:Bool)(h0:eG s_0=some r):au Tryz.prog 119 [eS s_0] (·=.p (eB r)):=by
 unfold eG at h0
 refine aW good Tryz.func119 rfl rfl rfl λ w0=>mP (λ v:Bool=>.p (eB v)) ?_
 refine nx 5 rfl (bd h0 λ o8 h1 h0=>?_)
 refine kN o8 (λ v9=>⟨[(2,.p (eB v9))],[]⟩) ?_ ?_
 ·exact nx 2 rfl (mQ (oi h0) rfl (sr))
 refine nx 2 rfl (oS rfl rfl ?_)
 refine nx 1 rfl (fD [4,5] h1 rfl (λ c1 h1=>?_) λ c1 h1=>?_)
 ·exact nx 21 rfl (eX _ (oi h1).symm (gE rfl rfl))
 refine nx 1 rfl (oS rfl rfl ?_)
 refine nx 2 rfl (fD [7,8,9] h1 rfl (λ c2 h1=>?_) λ c2 h1=>?_)
 ·exact nx 17 rfl (eX _ (oi h1).symm (gE rfl rfl))
 refine nx 1 rfl (oS rfl rfl ?_)
 refine nx 2 rfl (fD [11,12,13] h1 rfl (λ c3 h1=>?_) λ c3 h1=>?_)
 ·exact nx 13 rfl (eX _ (oi h1).symm (gE rfl rfl))
 refine nx 1 rfl (oS rfl rfl ?_)
 refine nx 2 rfl (fD [15,16,17] h1 rfl (λ c4 h1=>?_) λ c4 h1=>?_)
 ·exact nx 9 rfl (eX _ (oi h1).symm (gE rfl rfl))
 refine nx 1 rfl (oS rfl rfl ?_)
 refine nx 2 rfl (fD [19,20,21] h1 rfl (λ c5 h1=>?_) λ c5 h1=>?_)
 ·exact nx 5 rfl (eX _ (oi h1).symm (gE rfl rfl))
 refine nx 1 rfl (oS rfl rfl ?_)
 exact nx 3 rfl (eX _ (oi h1).symm (gE rfl rfl))
def kd (n:Nat)(s_0:Bytes):Option Bool :=
 (
   (d3 n s_0).bind λ r1 =>
   if r1=true then
    (eG s_0).bind λ r4 =>
    some (!r4)
   else
    some false
  : Option Bool).bind λ t6 =>
 some t6
set_option maxHeartbeats 4000000 in
theorem pO (n:Nat)(s_0:Bytes)(r:Bool)(h0:kd n s_0=some r):au Tryz.prog 120 [eS s_0] (·=.p (eB r)):=by
 unfold kd at h0
 refine aW good Tryz.func120 rfl rfl rfl λ w0=>mP (λ v:Bool=>.p (eB v)) ?_
 refine nx 5 rfl (bd h0 λ o8 h1 h0=>?_)
 refine kN o8 (λ v9=>⟨[(2,.p (eB v9))],[]⟩) ?_ ?_
 ·exact nx 2 rfl (mQ (oi h0) rfl (sr))
 refine nx 2 rfl (bd h1 λ r1 e2 h1=>?_)
 refine oK (iA _ s_0 _ e2) rfl ⟨sr,trivial⟩ Tryz.call118 rfl (nx 1 rfl ?_)
 refine fB [4,5] h1 rfl (λ c3 h1=>?_) λ c3 h1=>?_
 ·refine nx 1 rfl (bd h1 λ r4 e5 h1=>?_)
  refine oK (jm s_0 _ e5) rfl ⟨sr,trivial⟩ Tryz.call119 rfl (nx 4 rfl ?_)
  exact eX _ (oi h1).symm (gE rfl rfl)
 exact nx 6 rfl (eX _ (oi h1).symm (gE rfl rfl))
def ja (n:Nat)(e_0:ac):Option Int :=
 (dU e_0).bind λ r1 =>
 if (!r1)=true then
  some 1
 else
  if e_0.fKind=1 then
   (ic n e_0.fValue).bind λ r5 =>
   some r5
  else
   (
     (eV e_0.fKind).bind λ r7 =>
     if r7=true then
      (d3 n e_0.fName).bind λ r10 =>
      if (!r10)=true then
       some true
      else
       if e_0.fKind=4 then
        some false
       else
        (eG e_0.fName).bind λ r14 =>
        some r14
     else
      some false
    : Option Bool).bind λ t16 =>
   if t16=true then
    some 7
   else
    (
      if e_0.fKey=([]:Bytes) then
       some false
      else
       (kd n e_0.fKey).bind λ r19 =>
       some (!r19)
     : Option Bool).bind λ t21 =>
    if t21=true then
     some 7
    else
     some 0
set_option maxHeartbeats 4000000 in
theorem pW (n:Nat)(e_0:ac)(r:Int)(h0:ja n e_0=some r):au Tryz.prog 69 [.agg (ac.cs e_0)] (·=.p (eI r)):=by
 unfold ja at h0
 refine aW good Tryz.func69 rfl rfl rfl λ w0=>mP (λ v:Int=>.p (eI v)) ?_
 refine nx 9 rfl (bd h0 λ r1 e2 h0=>?_)
 refine oK (og e_0 _ e2) rfl ⟨sr,trivial⟩ Tryz.call115 rfl (nx 2 rfl ?_)
 refine fB [5] h0 rfl (λ c3 h0=>?_) λ c3 h0=>?_
 ·exact nx 6 rfl (mQ (oi h0) rfl (sr))
 refine nx 9 rfl (fD [8] h0 rfl (λ c4 h0=>?_) λ c4 h0=>?_)
 ·refine nx 5 rfl (bd h0 λ r5 e6 h0=>?_)
  refine oK (oG _ e_0.fValue _ e6) rfl ⟨sr,trivial⟩ Tryz.call116 rfl (nx 3 rfl ?_)
  exact mQ (oi h0) rfl (sr)
 refine nx 4 rfl (bd h0 λ o25 h1 h0=>?_)
 refine kN o25 (λ v26=>⟨[(1,.ptr 1 0),(30,.p (eB v26))],[(1,(ac.cs e_0).map .p)]⟩) ?_ ?_
 ·refine nx 1 rfl (fB [30] h0 rfl (λ c17 h0=>?_) λ c17 h0=>?_)
  ·exact nx 6 rfl (mQ (oi h0) rfl (sr))
  refine nx 4 rfl (bd h0 λ o27 h1 h0=>?_)
  refine kN o27 (λ v28=>⟨[(39,.p (eB v28))],[]⟩) ?_ ?_
  ·refine nx 1 rfl (fB [39] h0 rfl (λ c22 h0=>?_) λ c22 h0=>?_)
   ·exact nx 6 rfl (mQ (oi h0) rfl (sr))
   exact nx 7 rfl (mQ (oi h0) rfl (sr))
  refine nx 3 rfl (oS rfl rfl ?_)
  refine nx 1 rfl (fN [33,34] h1 rfl (λ c18 h1=>?_) λ c18 h1=>?_)
  ·exact nx 6 rfl (eX _ (oi h1).symm (gE rfl rfl))
  refine nx 2 rfl (bd h1 λ r19 e20 h1=>?_)
  refine oK (pO _ e_0.fKey _ e20) rfl ⟨sr,trivial⟩ Tryz.call120 rfl (nx 3 rfl ?_)
  exact eX _ (oi h1).symm (gE rfl rfl)
 refine nx 3 rfl (bd h1 λ r7 e8 h1=>?_)
 refine oK (iR e_0.fKind _ e8) rfl ⟨sr,trivial⟩ Tryz.call117 rfl (nx 1 rfl ?_)
 refine fB [14,15] h1 rfl (λ c9 h1=>?_) λ c9 h1=>?_
 ·refine nx 2 rfl (bd h1 λ r10 e11 h1=>?_)
  refine oK (iA _ e_0.fName _ e11) rfl ⟨sr,trivial⟩ Tryz.call118 rfl (nx 2 rfl ?_)
  refine fB [19,20] h1 rfl (λ c12 h1=>?_) λ c12 h1=>?_
  ·exact nx 11 rfl (eX _ (oi h1).symm (gE rfl rfl))
  refine nx 4 rfl (fN [23,24] h1 rfl (λ c13 h1=>?_) λ c13 h1=>?_)
  ·exact nx 7 rfl (eX _ (oi h1).symm (gE rfl rfl))
  refine nx 2 rfl (bd h1 λ r14 e15 h1=>?_)
  refine oK (jm e_0.fName _ e15) rfl ⟨sr,trivial⟩ Tryz.call119 rfl (nx 4 rfl ?_)
  exact eX _ (oi h1).symm (gE rfl rfl)
 exact nx 16 rfl (eX _ (oi h1).symm (gE rfl rfl))
def bP (r_ref14_check:ac→Int→Int→Option (Int×Int))(e_0:ac)(level_1:Int):Nat→Int→Int→Int→Option (Int×Int)
 | 0,_,_,_=>none
 | m+1,k17,n18,i19 =>
 (
   if i19 < (e_0.fKids.length:Int) then
    some (decide (k17=0))
   else
    some false
  : Option Bool).bind λ t21 =>
 if t21=true then
  ck ((0:Int)≤i19∧i19 < (e_0.fKids.length:Int)) <|
  ck (inR (level_1+1)) <|
  (r_ref14_check (lat e_0.fKids i19) (level_1+1) n18).bind λ r25 =>
  ck (inR (i19+1)) <|
  bP r_ref14_check e_0 level_1 m r25.1 r25.2 (i19+1)
 else
  some (k17,n18)
def cR:Nat→ac→Int→Int→Option (Int×Int)
 | 0,_,_,_=>none
 | n+1,e_0,level_1,before_2 =>
 if 32 < level_1 then
  some (4,0)
 else
  if 4096≤before_2 then
   some (14,0)
  else
   (ja n e_0).bind λ r3 =>
   ck (inR (before_2+1)) <|
   (bP (cR n) e_0 level_1 n r3 (before_2+1) 0).bind λ q33 =>
   some (q33.1,q33.2)
set_option maxHeartbeats 4000000 in
theorem oY (n:Nat):∀ (e_0:ac) (level_1:Int) (before_2:Int) (r:Int×Int),cR n e_0 level_1 before_2=some r→au Tryz.prog 32 [.agg (ac.cs e_0),eI level_1,eI before_2] (·=.tuple [.p (eI r.1),.p (eI r.2)]):=by
 induction n with
 | zero=>intro e_0 level_1 before_2 r h0; cases h0
 | succ n ih =>
 have ih_ref14_check_ok:=ih
 intro e_0 level_1 before_2 r h0
 rw [cR] at h0
 refine aW good Tryz.func32 rfl rfl rfl λ w0=>mP (λ v:Int×Int=>.tuple [.p (eI v.1),.p (eI v.2)]) ?_
 refine nx 12 rfl (fD [12] h0 rfl (λ c1 h0=>?_) λ c1 h0=>?_)
 ·exact nx 7 rfl (mQ (oi h0) rfl (ap ⟨sr,sr,trivial⟩))
 refine nx 8 rfl (fD [14] h0 rfl (λ c2 h0=>?_) λ c2 h0=>?_)
 ·exact nx 7 rfl (mQ (oi h0) rfl (ap ⟨sr,sr,trivial⟩))
 refine nx 5 rfl (bd h0 λ r3 e4 h0=>?_)
 refine oK (pW _ e_0 _ e4) rfl ⟨sr,trivial⟩ Tryz.call69 rfl (nx 5 rfl ?_)
 refine oA h0 rfl rfl λ hk5 h0=>nx 8 rfl (bd h0 λ o35 h1 h0=>?_)
 refine kE 0 o35 (λ v36=>⟨[(8,.p (eI v36.1)),(9,.p (eI v36.2))],[]⟩) ?_ ?_
 ·exact nx 9 rfl (mQ (oi h0) rfl (ap ⟨sr,sr,trivial⟩))
 refine lG (λ (q37:Int×Int×Int)=>⟨[(1,.p (eI level_1)),(3,.ptr 3 0),(8,.p (eI q37.1)),(9,.p (eI q37.2.1)),(10,.p (eI q37.2.2))],[(3,(ac.cs e_0).map .p)]⟩) (λ m (q37:Int×Int×Int)=>bP (cR n) e_0 level_1 m q37.1 q37.2.1 q37.2.2) (λ _=>rfl) (r3,before_2+1,0) h1 (gE rfl rfl) ?_
 rintro m ⟨k17,n18,i19⟩ h1
 replace h1:bP (cR n) e_0 level_1 (m+1) k17 n18 i19=some o35:=h1
 rw [bP] at h1
 refine nx 2 rfl (bd h1 λ o38 h2 h1=>?_)
 refine kN o38 (λ v39=>⟨[(1,.p (eI level_1)),(3,.ptr 3 0),(8,.p (eI k17)),(9,.p (eI n18)),(10,.p (eI i19)),(27,.p (eB v39))],[(3,(ac.cs e_0).map .p)]⟩) ?_ ?_
 ·refine nx 1 rfl (fB [27] h1 rfl (λ c22 h1=>?_) λ c22 h1=>?_)
  ·refine nx 8 rfl (oE h1 ac.cells_eq rfl rfl (λ _=>rfl) λ hk23 h1=>?_)
   refine nx 2 rfl (oA h1 rfl rfl λ hk24 h1=>?_)
   refine nx 1 rfl (bd h1 λ r25 e26 h1=>?_)
   refine oK (ih_ref14_check_ok (lat e_0.fKids i19) (level_1+1) n18 _ e26) rfl ⟨sr,sr,sr,trivial⟩ Tryz.call32 rfl (nx 8 rfl ?_)
   exact oA h1 rfl rfl λ hk27 h1=>nx 2 rfl (eX (r25.1,r25.2,i19+1) h1 (gE rfl rfl))
  exact nx 2 rfl (eXi _ (oi h1).symm (gE rfl rfl))
 refine nx 4 rfl (oLl (f:=ae) rfl rfl ?_)
 refine nx 2 rfl (fD [23,24] h2 rfl (λ c20 h2=>?_) λ c20 h2=>?_)
 ·exact nx 4 rfl (eX _ (oi h2).symm (gE rfl rfl))
 exact nx 4 rfl (eX _ (oi h2).symm (gE rfl rfl))
def ip (n:Nat)(e_0:ac):Option Int :=
 (cR n e_0 1 0).bind λ r1 =>
 some r1.1
set_option maxHeartbeats 4000000 in
theorem i6 (n:Nat)(e_0:ac)(r:Int)(h0:ip n e_0=some r):au Tryz.prog 13 [.agg (ac.cs e_0)] (·=.p (eI r)):=by
 unfold ip at h0
 refine aW good Tryz.func13 rfl rfl rfl λ w0=>mP (λ v:Int=>.p (eI v)) ?_
 refine nx 8 rfl (bd h0 λ r1 e2 h0=>?_)
 refine oK (oY _ e_0 1 0 _ e2) rfl ⟨sr,sr,sr,trivial⟩ Tryz.call32 rfl (nx 12 rfl ?_)
 exact mQ (oi h0) rfl (sr)
end Go.Ab.R06
end
section
set_option linter.unusedVariables false
set_option linter.unusedSimpArgs false
set_option linter.unnecessarySimpa false
namespace Go.Ab.R06
open Go.Proofs Go.Ab Go.Ab.RB
attribute [local irreducible] awp fk aS au aF AV.sub M cB
def cJ (r_ref14_Nodes:ac→Option Int)(e_0:ac):Nat→Int→Int→Option Int
 | 0,_,_=>none
 | m+1,n9,i10 =>
 if i10 < (e_0.fKids.length:Int) then
  ck ((0:Int)≤i10∧i10 < (e_0.fKids.length:Int)) <|
  (r_ref14_Nodes (lat e_0.fKids i10)).bind λ r13 =>
  ck (inR (n9+r13)) <|
  ck (inR (i10+1)) <|
  cJ r_ref14_Nodes e_0 m (n9+r13) (i10+1)
 else
  some n9
def dG:Nat→ac→Option Int
 | 0,_=>none
 | n+1,e_0 =>
 (cJ (dG n) e_0 n 1 0).bind λ n19 =>
 some n19
set_option maxHeartbeats 4000000 in
theorem kO (n:Nat):∀ (e_0:ac) (r:Int),dG n e_0=some r→au Tryz.prog 15 [.agg (ac.cs e_0)] (·=.p (eI r)):=by
 induction n with
 | zero=>intro e_0 r h0; cases h0
 | succ n ih =>
 have ih_ref14_Nodes_ok:=ih
 intro e_0 r h0
 rw [dG] at h0
 refine aW good Tryz.func15 rfl rfl rfl λ w0=>mP (λ v:Int=>.p (eI v)) ?_
 refine nx 15 rfl (bd h0 λ o21 h1 h0=>?_)
 refine kE 0 o21 (λ v22=>⟨[(3,.p (eI v22))],[]⟩) ?_ ?_
 ·exact nx 7 rfl (mQ (oi h0) rfl (sr))
 refine lG (λ (q23:Int×Int)=>⟨[(1,.ptr 1 0),(3,.p (eI q23.1)),(4,.p (eI q23.2))],[(1,(ac.cs e_0).map .p)]⟩) (λ m (q23:Int×Int)=>cJ (dG n) e_0 m q23.1 q23.2) (λ _=>rfl) (1,0) h1 (gE rfl rfl) ?_
 rintro m ⟨n9,i10⟩ h1
 replace h1:cJ (dG n) e_0 (m+1) n9 i10=some o21:=h1
 rw [cJ] at h1
 refine nx 6 rfl (oLl (f:=ae) rfl rfl ?_)
 refine nx 2 rfl (fD [9] h1 rfl (λ c11 h1=>?_) λ c11 h1=>?_)
 ·refine nx 9 rfl (oE h1 ac.cells_eq rfl rfl (λ _=>rfl) λ hk12 h1=>?_)
  refine nx 1 rfl (bd h1 λ r13 e14 h1=>?_)
  refine oK (ih_ref14_Nodes_ok (lat e_0.fKids i10) _ e14) rfl ⟨sr,trivial⟩ Tryz.call15 rfl (oA h1 rfl rfl λ hk15 h1=>?_)
  refine nx 4 rfl (oA h1 rfl rfl λ hk16 h1=>?_)
  exact nx 2 rfl (eX (n9+r13,i10+1) h1 (gE rfl rfl))
 exact nx 2 rfl (eXi _ (oi h1).symm (gE rfl rfl))
def cW (r_ref14_left:ac→Int→Int→Option Int)(e_0:ac)(levels_2:Int):Nat→Int→Int→Option Int
 | 0,_,_=>none
 | m+1,nodes13,i14 =>
 (
   if i14 < (e_0.fKids.length:Int) then
    some (decide (0≤nodes13))
   else
    some false
  : Option Bool).bind λ t16 =>
 if t16=true then
  ck ((0:Int)≤i14∧i14 < (e_0.fKids.length:Int)) <|
  ck (inR (levels_2 - 1)) <|
  (r_ref14_left (lat e_0.fKids i14) nodes13 (levels_2 - 1)).bind λ r20 =>
  ck (inR (i14+1)) <|
  cW r_ref14_left e_0 levels_2 m r20 (i14+1)
 else
  some nodes13
def ea:Nat→ac→Int→Int→Option Int
 | 0,_,_,_=>none
 | n+1,e_0,nodes_1,levels_2 =>
 if levels_2≤0 then
  some (-1)
 else
  ck (inR (nodes_1 - 1)) <|
  (cW (ea n) e_0 levels_2 n (nodes_1 - 1) 0).bind λ nodes25 =>
  some nodes25
set_option maxHeartbeats 4000000 in
theorem pS (n:Nat):∀ (e_0:ac) (nodes_1:Int) (levels_2:Int) (r:Int),ea n e_0 nodes_1 levels_2=some r→au Tryz.prog 30 [.agg (ac.cs e_0),eI nodes_1,eI levels_2] (·=.p (eI r)):=by
 induction n with
 | zero=>intro e_0 nodes_1 levels_2 r h0; cases h0
 | succ n ih =>
 have ih_ref14_left_ok:=ih
 intro e_0 nodes_1 levels_2 r h0
 rw [ea] at h0
 refine aW good Tryz.func30 rfl rfl rfl λ w0=>mP (λ v:Int=>.p (eI v)) ?_
 refine nx 11 rfl (fD [9] h0 rfl (λ c1 h0=>?_) λ c1 h0=>?_)
 ·exact nx 6 rfl (mQ (oi h0) rfl (sr))
 refine nx 5 rfl (oA h0 rfl rfl λ hk2 h0=>?_)
 refine nx 8 rfl (bd h0 λ o28 h1 h0=>?_)
 refine kE 0 o28 (λ v29=>⟨[(1,.p (eI v29))],[]⟩) ?_ ?_
 ·exact nx 7 rfl (mQ (oi h0) rfl (sr))
 refine lG (λ (q30:Int×Int)=>⟨[(1,.p (eI q30.1)),(2,.p (eI levels_2)),(3,.ptr 3 0),(7,.p (eI q30.2))],[(3,(ac.cs e_0).map .p)]⟩) (λ m (q30:Int×Int)=>cW (ea n) e_0 levels_2 m q30.1 q30.2) (λ _=>rfl) (nodes_1 - 1,0) h1 (gE rfl rfl) ?_
 rintro m ⟨nodes13,i14⟩ h1
 replace h1:cW (ea n) e_0 levels_2 (m+1) nodes13 i14=some o28:=h1
 rw [cW] at h1
 refine nx 2 rfl (bd h1 λ o31 h2 h1=>?_)
 refine kN o31 (λ v32=>⟨[(1,.p (eI nodes13)),(2,.p (eI levels_2)),(3,.ptr 3 0),(7,.p (eI i14)),(20,.p (eB v32))],[(3,(ac.cs e_0).map .p)]⟩) ?_ ?_
 ·refine nx 1 rfl (fB [20] h1 rfl (λ c17 h1=>?_) λ c17 h1=>?_)
  ·refine nx 8 rfl (oE h1 ac.cells_eq rfl rfl (λ _=>rfl) λ hk18 h1=>?_)
   refine nx 3 rfl (oA h1 rfl rfl λ hk19 h1=>?_)
   refine bd h1 λ r20 e21 h1=>oK (ih_ref14_left_ok (lat e_0.fKids i14) nodes13 (levels_2 - 1) _ e21) rfl ⟨sr,sr,sr,trivial⟩ Tryz.call30 rfl (nx 4 rfl ?_)
   exact oA h1 rfl rfl λ hk22 h1=>nx 2 rfl (eX (r20,i14+1) h1 (gE rfl rfl))
  exact nx 2 rfl (eXi _ (oi h1).symm (gE rfl rfl))
 refine nx 4 rfl (oLl (f:=ae) rfl rfl ?_)
 refine nx 2 rfl (fD [16,17] h2 rfl (λ c15 h2=>?_) λ c15 h2=>?_)
 ·exact nx 4 rfl (eX _ (oi h2).symm (gE rfl rfl))
 exact nx 4 rfl (eX _ (oi h2).symm (gE rfl rfl))
def il (n:Nat)(e_0:ac)(nodes_1:Int):Option Bool :=
 (ea n e_0 nodes_1 40).bind λ r1 =>
 some (decide (0≤r1))
set_option maxHeartbeats 4000000 in
theorem pi (n:Nat)(e_0:ac)(nodes_1:Int)(r:Bool)(h0:il n e_0 nodes_1=some r):au Tryz.prog 10 [.agg (ac.cs e_0),eI nodes_1] (·=.p (eB r)):=by
 unfold il at h0
 refine aW good Tryz.func10 rfl rfl rfl λ w0=>mP (λ v:Bool=>.p (eB v)) ?_
 refine nx 9 rfl (bd h0 λ r1 e2 h0=>?_)
 refine oK (pS _ e_0 nodes_1 40 _ e2) rfl ⟨sr,sr,sr,trivial⟩ Tryz.call30 rfl (nx 4 rfl ?_)
 exact mQ (oi h0) rfl (sr)
end Go.Ab.R06
end
