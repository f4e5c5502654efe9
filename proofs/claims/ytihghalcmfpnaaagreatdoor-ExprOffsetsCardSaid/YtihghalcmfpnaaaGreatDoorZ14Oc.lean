/- Texts of the proof, one behind the other. No statement is proved here. -/
import Derived.Lib.OthersKept
import Derived.Defers
import Derived.Lib.MapLaws
import Derived.Lib.ValidLaws
import Derived.Test.YtihghalcmfpnaaaGreatDoorZ14Oa
import Derived.Test.YtihghalcmfpnaaaGreatDoorZ14Ob
set_option maxHeartbeats 4000000
section
namespace Go.Ab
@[irreducible] def qQ (n:Nat):List UInt8:=List.replicate n 0
section
variable {C:Cx} {o:Oper} {K:AS→Prop} {sl:List (Nat×AV)} {ob:List (Nat×List AV)} {d:Nat}
theorem ua {α:Type} [Inhabited α] (f:α→PV)(l:List α){t m e:Nat}{x y:Operand}{i ie:TI}{k:IntKind}{n:Int}(ho:o.op=.index t x y)(hd:o.dst=some d)(hn:Nat.blt d C.n=true)
  (hi:look C.tt t=some i) (hik:i.k=.array m e) (hie:look C.tt e=some ie) (hia:ie.k.isAgg=false) (hs1:ie.size=1) (hm:Nat.beq m l.length=true) (hx:evo sl x=some (.p (.agg (l.map f))))
  (hy:evo sl y=some (.p (.val (.int k n)))) (hb:0≤n∧n < (l.length:Int)) (hK:K ⟨(d,.p (f (lat l n)))::sl,ob⟩):bq C o K ⟨sl,ob⟩:=by
 obtain ⟨u,h1,h2⟩:=cv C.good hi
 have h3:=ou (h2.trans hik)
 subst h3
 have hm':=Nat.eq_of_beq_eq_true hm
 refine ok_one hd hn (λ g a w hs=>?_) hK
 have h5:=cb hs hx
 generalize hv:a.eval x=v at h5
 cases h5 with
 | p h5 =>
  cases h5 with
  | agg hl hh =>
   rename_i vs
   have hlt:n.toNat < l.length:=by omega
   have hlt2:n.toNat < vs.size:=by rw [hl]; simpa using hlt
   have hnm:n < (m:Int):=by omega
   refine ⟨vs[n.toNat],by simp [execOp,ho,hv,ct hs hy,Instr.index,asIntOf,run_underlying h1,hb.1,hnm,run_sizeOf C.good hie,hs1,part,ly C.good hie,hia,hlt2],.p (hh n.toNat (f (lat l n)) _ ?_ (Array.getElem?_eq_getElem hlt2))⟩
   simp [lat,List.getElem?_map,List.getElem?_eq_getElem hlt,List.getD_eq_getElem?_getD]
theorem a6 {t:TypeId}{x:Operand}{i:TI}{id k:Nat}{cs:List AV}{y:AV}(ho:o.op=.load t x)(hd:o.dst=some d)(hn:Nat.blt d C.n=true)
  (hi:look C.tt t=some i) (hia:i.k.isAgg=false) (hx:evo sl x=some (.ptr id k)) (hob:look ob id=some cs) (hy:cs[k]? = some y) (hK:K ⟨(d,y)::sl,ob⟩):bq C o K ⟨sl,ob⟩ :=
 j2 ho hd hn hi hia hx hob hy hK
theorem zl {t:TypeId}{x:Operand}{i:TI}{id k:Nat}{cs:List AV}{y:AV}(ho:o.op=.load t x)(hd:o.dst=some d)(hn:Nat.blt d C.n=true)
  (hi:look C.tt t=some i) (hia:i.k.isAgg=true) (hx:evo sl x=some (.ptr id k)) (hob:look ob id=some cs) (hl:Nat.ble (k+i.size) cs.length=true) (hy:kd ((cs.drop k).take i.size)=y)
  (hK:K ⟨(d,y)::sl,ob⟩):bq C o K ⟨sl,ob⟩:=nB ho hd hn hi hia hx hob hl (congrArg some hy) hK
theorem ek {t:TypeId}{x v:Operand}{i:TI}{id k:Nat}{cs xs ds:List AV}{y:AV}(ho:o.op=.store t x v)(hd:o.dst=none)
  (hi:look C.tt t=some i) (hx:evo sl x=some (.ptr id k)) (hv:evo sl v=some y) (hc:y.cellsA=some xs) (hsz:Nat.beq xs.length i.size=true) (hob:look ob id=some cs) (hl:k+xs.length≤cs.length) (hu:kS cs k xs=ds)
  (hK:K ⟨sl,(id,ds)::ob⟩):bq C o K ⟨sl,ob⟩:=by
 subst hu
 exact kb ho hd hi hx hv hc (Nat.eq_of_beq_eq_true hsz) hob hl hK
theorem tN {α:Type}(f:α→PV)(hf:∀ x,(f x).one=true):∀ l:List α,AV.onesB ((l.map f).map .p)=true
 | []=>rfl
 | x::r=>by simp only [List.map_cons,AV.onesB,AV.one,hf x,tN f hf r,Bool.and_self]
theorem tX {α:Type}(f:α→PV)(l:List α){t:TypeId}{i:TI}{sl':List (Nat×AV)}{ob':List (Nat×List AV)}(hf:∀ x,(f x).one=true)(ho:o.op=.alloc t)(hd:o.dst=some d)(hn:Nat.blt d C.n=true)
  (hi:look C.tt t=some i) (hz:eh i=(l.map f).map .p) (h1:dmS (λ i=>Nat.beq i d) sl=some sl') (h2:dmO (λ i=>Nat.beq i d) ob=some ob') (hK:K ⟨(d,.ptr d 0)::sl',(d,(l.map f).map .p)::ob'⟩):bq C o K ⟨sl,ob⟩:=by
 refine gO ho hd hn hi ?_ ?_
 ·rw [hz]; simp only [AV.cellsA,tN f hf l,cond_true]
 ·rw [hz,kP]
  have e1:(dB (λ i=>Nat.beq i d) ⟨sl,ob⟩).sl=sl':=(qi h1).symm
  have e2:(dB (λ i=>Nat.beq i d) ⟨sl,ob⟩).ob=ob':=(ov h2).symm
  rw [e1,e2]; exact hK
theorem CS (cs:List PV){t:TypeId}{v:Operand}{sl':List (Nat×AV)}{ob':List (Nat×List AV)}(ho:o.op=.box t v)(hd:o.dst=some d)(hn:Nat.blt d C.n=true)(hx:evo sl v=some (.p (.agg cs)))(h0:PV.onesB cs=true)
  (h1:dmS (λ i=>Nat.beq i d) sl=some sl') (h2:dmO (λ i=>Nat.beq i d) ob=some ob') (hK:K ⟨(d,.ptr d 0)::sl',(d,cs.map .p)::ob'⟩):bq C o K ⟨sl,ob⟩:=by
 refine xd ho hd hn hx (cs:=cs.map .p) (by simp only [AV.cellsA,h0,cond_true]) ?_
 rw [kP]
 have e1:(dB (λ i=>Nat.beq i d) ⟨sl,ob⟩).sl=sl':=(qi h1).symm
 have e2:(dB (λ i=>Nat.beq i d) ⟨sl,ob⟩).ob=ob':=(ov h2).symm
 rw [e1,e2]; exact hK
theorem yH {α:Type}(f:α→PV)(l:List α){t:TypeId}{x:Operand}{i:TI}{id:Nat}(ho:o.op=.load t x)(hd:o.dst=some d)(hn:Nat.blt d C.n=true)
  (hi:look C.tt t=some i) (hia:i.k.isAgg=true) (hx:evo sl x=some (.ptr id 0)) (hob:look ob id=some ((l.map f).map .p)) (hl:Nat.beq i.size l.length=true)
  (hK:K ⟨(d,.p (.agg (l.map f)))::sl,ob⟩):bq C o K ⟨sl,ob⟩:=by
 have hl':=Nat.eq_of_beq_eq_true hl
 refine nB ho hd hn hi hia hx hob (by simp [hl']) (y:=.p (.agg (l.map f))) (congrArg some ?_) hK
 have e:(((l.map f).map AV.p).drop 0).take i.size=(l.map f).map AV.p:=by
  rw [List.drop_zero,hl']; exact List.take_of_length_le G
 rw [e]
 have ha:∀ q:List PV,uB (q.map .p)=some q:=by
  intro q
  induction q with
  | nil=>rfl
  | cons x r ih=>simp only [List.map_cons,uB,ih]
 simp only [kd,ha]
theorem rE:∀ q:List PV,uB (q.map .p)=some q
 | []=>rfl
 | x::r=>by simp only [List.map_cons,uB,rE r]
theorem BR {α:Type}(f:α→PV)(l:List α){tt:List (Nat×TI)}{rs:List ResultVar}{s:AS}{c id:Nat}{t:TypeId}{i:TI}(hr:rs=[.cell c t])(hc:look s.sl c=some (.ptr id 0))(hob:look s.ob id=some ((l.map f).map .p))(hi:look tt t=some i)(hia:i.k.isAgg=true)
  (hl:Nat.beq i.size l.length=true):kO tt rs s=some [.p (.agg (l.map f))]:=by
 have hl':=Nat.eq_of_beq_eq_true hl
 subst hr
 have e:(((l.map f).map AV.p).drop 0).take i.size=(l.map f).map AV.p:=by
  rw [List.drop_zero,hl']; exact List.take_of_length_le G
 have e2:Nat.ble (0+i.size) ((l.map f).map AV.p).length=true:=by simp [hl']
 simp only [kO,hc,hob,hi,hia,cond_true,e,e2,kd,rE]
theorem wG {α:Type}(f:α→PV)(l l2:List α){t:TypeId}{x v:Operand}{i:TI}{id:Nat}(ho:o.op=.store t x v)(hd:o.dst=none)
  (hi:look C.tt t=some i) (hx:evo sl x=some (.ptr id 0)) (hv:evo sl v=some (.p (.agg (l2.map f)))) (hob:look ob id=some ((l.map f).map .p)) (hf:∀ x,(f x).one=true) (hl:Nat.beq i.size l.length=true) (hl2:Nat.beq i.size l2.length=true)
  (hK:K ⟨sl,(id,(l2.map f).map .p)::ob⟩):bq C o K ⟨sl,ob⟩:=by
 have e1:=Nat.eq_of_beq_eq_true hl
 have e2:=Nat.eq_of_beq_eq_true hl2
 have ho1:∀ q:List α,PV.onesB (q.map f)=true:=by
  intro q
  induction q with
  | nil=>rfl
  | cons x r ih=>simp only [List.map_cons,PV.onesB,hf x,ih,Bool.and_self]
 refine ek (xs:=(l2.map f).map .p) ho hd hi hx hv (by simp only [AV.cellsA,ho1 l2,cond_true]) (by simp [e2]) hob (by simp; omega) ?_ hK
 unfold kS
 split
 ·rename_i y hy
  have h3:=congrArg List.length hy
  simp only [List.length_map,List.length_cons,List.length_nil] at h3
  rw [hy]
  match l,e1 with
  | [z],_=>rfl
  | [],e1=>simp at e1; omega
  | _::_::_,e1=>simp at e1; omega
 ·rw [List.take_zero,List.nil_append,List.drop_eq_nil_of_le (by simp; omega),List.append_nil]
theorem A0 {t:TypeId}{x:Operand}{s:List UInt8}{i:TI}{sl':List (Nat×AV)}{ob':List (Nat×List AV)}(ho:o.op=.range t x)(hd:o.dst=some d)(hn:Nat.blt d C.n=true)
  (hi:look C.tt t=some i) (hik:i.k=.string) (hx:evo sl x=some (.p (.val (.string ⟨s.toArray⟩)))) (h1:dmS (Nat.beq · d) sl=some sl') (h2:dmO (Nat.beq · d) ob=some ob')
  (hK:K ⟨(d,.it d s 0)::sl',ob'⟩):bq C o K ⟨sl,ob⟩:=by
 obtain ⟨u,hu1,hu2⟩:=cv C.good hi
 have h3:=iC (hu2.trans hik)
 subst h3
 intro g a w hs
 have hdl:d < M1:=by have h1:=Nat.le_of_ble_eq_true C.nl; have h2:d < C.n:=Nat.blt_eq ▸ hn; omega
 unfold Oper.wp
 have hrun:(execOp a.eval o).run C.P w=.ok (.value (.pointer (some ⟨w.heap.size,0,none⟩))) (w.alloc (.stringIter ⟨s.toArray⟩ 0)):=by
  simp [execOp,ho,Instr.range,ct hs hx,run_underlying hu1,newObj,Sem.run,Result.andThen]
 rw [hrun]
 obtain ⟨g',hg'⟩:∃ g':Gh,g'=⟨λ b o=>g.st b o∨(b=w.heap.size∧o=0),λ i=>if i=d then some w.heap.size else g.ow i⟩:=⟨_,rfl⟩
 have hsz:(w.alloc (.stringIter ⟨s.toArray⟩ 0)).heap.size=w.heap.size+1:=by simp
 have hev:Ev w g.st (w.alloc (.stringIter ⟨s.toArray⟩ 0)) g'.st:=λ b o h=>⟨by rw [hg']; exact .inl h,World.cell?_alloc_lt w _ _ (hs.lt b o h)⟩
 have hs':St C.n C.w0 C.F g' (dB (Nat.beq · d) ⟨sl,ob⟩) a (w.alloc (.stringIter ⟨s.toArray⟩ 0)):=by
  subst hg'
  refine hs.evolve (Nat.beq · d) (BA hdl) hev (λ id b hD h=>?_) (λ i j b hi hj=>?_) (λ i b hi=>?_) (λ b o h=>?_) (λ b hb=>?_) Z Z Z O (λ b hb o=>?_) (λ i hi=>?_)
  ·have hne:id≠d:=λ e=>by subst e; simp at hD
   have hlt:=(hs.own id b h).1
   exact ⟨by simp only [if_neg hne]; exact h,dp hlt,λ o h=>h.resolve_right λ e=>by omega⟩
  ·dsimp only at hi hj
   by_cases e1:i=d <;> by_cases e2:j=d
   ·omega
   ·rw [if_pos e1] at hi; rw [if_neg e2] at hj; cases hi; have:=(hs.own j _ hj).1; omega
   ·rw [if_neg e1] at hi; rw [if_pos e2] at hj; cases hj; have:=(hs.own i _ hi).1; omega
   ·rw [if_neg e1] at hi; rw [if_neg e2] at hj; exact hs.inj i j b hi hj
  ·dsimp only at hi
   by_cases e1:i=d
   ·rw [if_pos e1] at hi; cases hi
    exact ⟨by omega,λ hF=>by have:=hs.fl _ hF; have:=hs.size; omega⟩
   ·rw [if_neg e1] at hi; have:=hs.own i b hi; exact ⟨by omega,this.2⟩
  ·rcases h with h | h
   ·have:=hs.lt b o h; omega
   ·omega
  ·exact dp (by have:=hs.fl b hb; have:=hs.size; omega)
  ·have h1:=hs.fl b hb
   have h2:=hs.size
   exact ⟨λ h=>h.resolve_right λ e=>by omega,.inl⟩
  ·dsimp only
   rw [if_neg O]
 refine ⟨g',⟨(d,.it d s 0)::sl',ob'⟩,?_,hK⟩
 have hp:=hs'.put (d:=o.dst) (λ t ht=>by rw [hd] at ht; cases ht; exact Nat.blt_eq ▸ hn) (x:=.it d s 0) (v:=.pointer (some ⟨w.heap.size,0,none⟩))
  (.it (by rw [hg']; simp) gv (by rw [hg']; exact .inr ⟨Z,Z⟩))
 rw [hd] at hp ⊢
 rw [qi h1,ov h2]
 exact hp
theorem uV {n:Nat}{w0:Base}{w:World}{F:Nat→Prop}{g:Gh}{s:AS}{a:Act}(_hs:St n w0 F g s a w){tok pos:Nat}{l:List UInt8}{v:Value}(h:ARep w g (.it tok l pos) v) :
  ∃ b,v=.pointer (some ⟨b,0,none⟩)∧g.ow tok=some b∧w.heap[b]? = some (.stringIter ⟨l.toArray⟩ pos)∧g.st b 0:=by
 cases h with
 | it how hb hm=>exact ⟨_,Z,how,hb,hm⟩
theorem AA {x:Operand}{s:List UInt8}{tok pos:Nat}(ho:o.op=.next x true)(hd:o.dst=some d)(hn:Nat.blt d C.n=true)
  (hx:evo sl x=some (.it tok s pos)) (hp:¬ pos < s.length) (hK:K ⟨(d,.tuple [.p (eB false)])::sl,ob⟩):bq C o K ⟨sl,ob⟩:=by
 refine ok_one hd hn (λ g a w hs=>?_) hK
 obtain ⟨b,hv,_,hb,_⟩:=uV hs (cb hs hx)
 refine ⟨.tuple #[.bool false],?_,.tuple Z λ i c v h1 h2=>?_⟩
 ·have hsz:¬ pos < (⟨s.toArray⟩:ByteArray).size:=by simpa [ByteArray.size] using hp
  have:=Go.Lib.run_next_end_at (P:=C.P) w b ⟨s.toArray⟩ pos o.type hb hsz
  simp [execOp,ho,hv,this]
 ·match i,h1,h2 with
  | 0,h1,h2=>simp at h1 h2; subst h1 h2; exact .p (.val _)
theorem Bj {j:Nat}{s:List UInt8}{tok pos:Nat}{sl':List (Nat×AV)}{ob':List (Nat×List AV)}(ho:o.op=.next (.tmp j) true)(hd:o.dst=some d)(hn:Nat.blt d C.n=true)(hj:Nat.blt j C.n=true)
  (hx:evo sl (.tmp j)=some (.it tok s pos)) (htok:Nat.blt tok M1=true) (hp:pos < s.length) (ha:(s.getD pos 0).toNat < 128) (h1:dmS (Nat.beq · tok) sl=some sl') (h2:dmO (Nat.beq · tok) ob=some ob')
  (hdj:Nat.beq d j=false) (hK:K ⟨(d,.tuple [.p (eB true),.p (eI (pos:Int)),.p (eK .i32 ((s.getD pos 0).toNat:Int))])::(j,.it tok s (pos+1))::sl',ob'⟩):bq C o K ⟨sl,ob⟩:=by
 intro g a w hs
 obtain ⟨b,hv,how,hb,hm⟩:=uV hs (cb hs hx)
 have htl:tok < M1:=Nat.blt_eq ▸ htok
 have hbl:=(hs.own tok b how).1
 unfold Oper.wp
 have hsz:pos < (⟨s.toArray⟩:ByteArray).size:=by simpa [ByteArray.size] using hp
 have hg0:(⟨s.toArray⟩:ByteArray)[pos]'hsz=s.getD pos 0:=by
  rw [List.getD_eq_getElem?_getD,List.getElem?_eq_getElem hp]; rfl
 have hnx:=Go.Lib.run_next_ascii_at (P:=C.P) w b ⟨s.toArray⟩ pos o.type hb hsz (by rw [hg0]; exact ha)
 rw [hg0] at hnx
 have hrun:(execOp a.eval o).run C.P w=.ok (.value (.tuple #[.bool true,.int .i64 pos,.int .i32 (s.getD pos 0).toNat])) (w.iterAt b ⟨s.toArray⟩ (pos+1)):=by
  simp [execOp,ho,hv,hnx]
 rw [hrun]
 have hheap:∀ b',b'≠b→(w.iterAt b ⟨s.toArray⟩ (pos+1)).heap[b']? = w.heap[b']?:=λ b' hne=>by
  simp only [World.iterAt,Array.getElem?_setIfInBounds]
  rw [if_neg O]
 have hheapb:=Go.Lib.iterAt_heap w b ⟨s.toArray⟩ pos (pos+1) hb
 have hwsz:(w.iterAt b ⟨s.toArray⟩ (pos+1)).heap.size=w.heap.size:=by simp [World.iterAt]
 have hcell:∀ b' o',(w.iterAt b ⟨s.toArray⟩ (pos+1)).cell? ⟨b',o',none⟩=w.cell? ⟨b',o',none⟩:=λ b' o'=>by
  by_cases e:b'=b
  ·subst e
   simp only [World.cell?,hheapb,hb]
  ·simp only [World.cell?,hheap b' e]
 have hs':St C.n C.w0 C.F g (dB (Nat.beq · tok) ⟨sl,ob⟩) a (w.iterAt b ⟨s.toArray⟩ (pos+1)):=by
  refine hs.evolve (Nat.beq · tok) (BA htl) (λ b' o' h=>⟨h,hcell b' o'⟩) (λ id b' hD h=>⟨h,hheap b' λ e=>?_,λ o h=>h⟩) hs.inj (λ i b' h=>by rw [hwsz]; exact hs.own i b' h) (λ b' o' h=>by rw [hwsz]; exact hs.lt b' o' h) (λ b' hb'=>hheap b' λ e=>?_) Z Z Z O (λ b' _ o'=>Iff.rfl) (λ i _=>rfl)
  ·subst e
   have:=hs.inj id tok b' h how
   subst this
   simp at hD
  ·subst e
   exact (hs.own tok b' how).2 hb'
 have hjd:j < C.n:=Nat.blt_eq ▸ hj
 refine ⟨g,⟨(d,.tuple [.p (eB true),.p (eI (pos:Int)),.p (eK .i32 ((s.getD pos 0).toNat:Int))])::(j,.it tok s (pos+1))::sl',ob'⟩,?_,hK⟩
 have hs2:St C.n C.w0 C.F g ⟨(j,.it tok s (pos+1))::sl',ob'⟩ a (w.iterAt b ⟨s.toArray⟩ (pos+1)):=by
  rw [qi h1,ov h2]
  refine { hs' with sl:=λ i=>?_ }
  simp only [AS.get,bp]
  by_cases e:j=i
  ·subst e
   rw [if_pos rfl]
   simp only [Option.getD_some]
   have:a.eval (.tmp j)=a.tmps.getD j Go.undef:=rfl
   rw [← this,hv]
   exact .it how hheapb hm
  ·rw [if_neg e]
   exact hs'.sl i
 have hp2:=hs2.put (d:=o.dst) (λ t ht=>by rw [hd] at ht; cases ht; exact Nat.blt_eq ▸ hn) (x:=.tuple [.p (eB true),.p (eI (pos:Int)),.p (eK .i32 ((s.getD pos 0).toNat:Int))]) (v:=.tuple #[.bool true,.int .i64 pos,.int .i32 (s.getD pos 0).toNat])
  (.tuple Z λ i c v h1 h2=>by
   match i,h1,h2 with
   | 0,h1,h2=>simp at h1 h2; subst h1 h2; exact .p (.val _)
   | 1,h1,h2=>simp at h1 h2; subst h1 h2; exact .p (.val _)
   | 2,h1,h2=>simp at h1 h2; subst h1 h2; exact .p (.val _))
 rw [hd] at hp2 ⊢
 exact hp2
end
end Go.Ab
end
section
namespace Go.Ab
def gW:List UInt8:=[0,0,0,0,0,0,0,0,0,1,6,0,0,1,0,0,0,0,0,0,0,0,0,0,0,0,0,0,0,0,0,0,1,4,5,7,0,4,4,0,4,4,4,4,4,4,4,4,3,3,3,3,3,3,3,3,3,3,4,0,4,4,4,4,0,2,2,2,2,2,2,2,2,2,2,2,2,2,2,2,2,2,2,2,2,2,2,2,2,2,2,4,0,4,0,2,0,2,2,2,2,2,2,2,2,2,2,2,2,2,2,2,2,2,2,2,2,2,2,2,2,2,2,4,4,4,0,0,0,0,0,0,0,0,0,0,0,0,0,0,0,0,0,0,0,0,0,0,0,0,0,0,0,0,0,0,0,0,0,0,0,0,0,0,0,0,0,0,0,0,0,0,0,0,0,0,0,0,0,0,0,0,0,0,0,0,0,0,0,0,0,0,0,0,0,0,0,0,0,0,0,0,0,0,0,0,0,0,0,0,0,0,0,0,0,0,0,0,0,0,0,0,0,0,0,0,0,0,0,0,0,0,0,0,0,0,0,0,0,0,0,0,0,0,0,0,0,0,0,0,0,0,0,0,0,0]
theorem vd:gW.length=256:=by kernel_rfl
def Au:List PV:=gW.map eU
theorem ko:Au.length=256:=by rw [Au,List.length_map,vd]
structure aa where
 fs:Bytes
 fat:Int
 fouter:Int
 fbad:ap
 deriving Inhabited
def aa.cs (x:aa):List PV:=eS x.fs::eI x.fat::(Au++[eI x.fouter,eI x.fbad.fKind,eI x.fbad.fAt,eS x.fbad.fName])
theorem aa.len (x:aa):((aa.cs x).map AV.p).length=262:=by simp [aa.cs,ko]
theorem aa.g_s (x:aa):((aa.cs x).map AV.p)[0]? = some (.p (eS x.fs)):=rfl
theorem aa.g_at (x:aa):((aa.cs x).map AV.p)[1]? = some (.p (eI x.fat)):=rfl
theorem aa.g_outer (x:aa):((aa.cs x).map AV.p)[2+256]? = some (.p (eI x.fouter)):=by
 simp only [aa.cs,List.map_cons,List.map_append,List.getElem?_cons_succ]
 rw [List.getElem?_append_right (by simp [ko])]
 simp [ko]
theorem aa.g_class (x:aa){n:Int}(h:0≤n∧n < 256):((aa.cs x).map AV.p)[2+n.toNat*1]? = some (.p (eU (lat gW n))):=by
 have hn:n.toNat < 256:=by omega
 have e:2+n.toNat*1=n.toNat+1+1:=by omega
 rw [e]
 simp only [aa.cs,List.map_cons,List.map_append,List.getElem?_cons_succ]
 rw [List.getElem?_append_left (by simp [ko]; omega)]
 simp [Au,lat,List.getElem?_map,List.getElem?_eq_getElem (show n.toNat < gW.length by rw [vd]; exact hn)]
def aa.hd (x:aa):List AV:=(eS x.fs::eI x.fat::(Au++[eI x.fouter])).map .p
theorem aa.hd_len (x:aa):x.hd.length=259:=by simp [aa.hd,ko]
theorem aa.cs_hd (x:aa):(aa.cs x).map AV.p=x.hd++(ap.cs x.fbad).map .p:=by
 simp [aa.cs,aa.hd,ap.cs]
theorem aa.l_bad (x:aa):Nat.ble (2+256+1+3) ((aa.cs x).map AV.p).length=true:=by rw [aa.len]; rfl
theorem aa.g_bad (x:aa):kd ((((aa.cs x).map AV.p).drop (2+256+1)).take 3)=.p (.agg (ap.cs x.fbad)):=by
 rw [aa.cs_hd,List.drop_append_of_le_length (by rw [aa.hd_len]; decide),List.drop_eq_nil_of_le (by rw [aa.hd_len]; decide)]
 rfl
theorem aa.b_at (x:aa):1+1≤((aa.cs x).map AV.p).length:=by rw [aa.len]; decide
theorem aa.b_outer (x:aa):2+256+1≤((aa.cs x).map AV.p).length:=by rw [aa.len]; decide
theorem aa.b_bad (x:aa):2+256+1+3≤((aa.cs x).map AV.p).length:=by rw [aa.len]; decide
theorem aa.u_at (x:aa){v:Int}:kS ((aa.cs x).map AV.p) 1 [.p (eI v)]=(aa.cs (.mk x.fs v x.fouter x.fbad)).map .p:=by
 simp only [kS,aa.cs,List.map_cons,List.set_cons_succ,List.set_cons_zero]
theorem aa.u_outer (x:aa){v:Int}:kS ((aa.cs x).map AV.p) (2+256) [.p (eI v)]=(aa.cs (.mk x.fs x.fat v x.fbad)).map .p:=by
 simp only [kS,aa.cs,List.map_cons,List.map_append,List.set_cons_succ]
 rw [List.set_append_right _ _ (by simp [ko])]
 simp [ko]
theorem aa.u_bad (x:aa){k a:Int}{n:Bytes}:kS ((aa.cs x).map AV.p) (2+256+1) [.p (eI k),.p (eI a),.p (eS n)]=(aa.cs (.mk x.fs x.fat x.fouter (.mk k a n))).map .p:=by
 have e:kS ((aa.cs x).map AV.p) 259 [.p (eI k),.p (eI a),.p (eS n)]=((aa.cs x).map AV.p).take 259++(ap.cs (.mk k a n)).map .p++((aa.cs x).map AV.p).drop (259+3):=rfl
 show kS ((aa.cs x).map AV.p) 259 [.p (eI k),.p (eI a),.p (eS n)]=_
 rw [e,aa.cs_hd,aa.cs_hd,List.take_append_of_le_length (by rw [aa.hd_len]; decide),List.take_of_length_le (by rw [aa.hd_len]; decide),List.drop_eq_nil_of_le (by rw [List.length_append,aa.hd_len]; simp [ap.cs]),List.append_nil]
 rfl
end Go.Ab
end
section
namespace Go.Ab.R06
open Go.Proofs Go.Ab Go.Ab.RB
attribute [local irreducible] awp ge bq aK aW AV.sub M dc
def f0:Nat→Int→(List UInt8)→Option (List UInt8)
 | 0,_,_=>none
 | m+1,c8,l9 =>
 if c8≤122 then
  ck ((0:Int)≤c8∧(c8:Int) < 256) <|
  ck ((c8:Int) < (l9.length:Int)) <|
  ck ((0:Int)≤IntKind.wrap .i32 ((IntKind.wrap .i32 (c8 - 97))+65)∧(IntKind.wrap .i32 ((IntKind.wrap .i32 (c8 - 97))+65):Int) < 256) <|
  ck ((IntKind.wrap .i32 ((IntKind.wrap .i32 (c8 - 97))+65):Int) < ((l9.set c8.toNat (2:UInt8)).length:Int)) <|
  f0 m (IntKind.wrap .i32 (c8+1)) ((l9.set c8.toNat (2:UInt8)).set ((IntKind.wrap .i32 ((IntKind.wrap .i32 (c8 - 97))+65)).toNat) (2:UInt8))
 else
  some l9
def fW:Nat→Int→(List UInt8)→Option (List UInt8)
 | 0,_,_=>none
 | m+1,c23,l24 =>
 if c23≤57 then
  ck ((0:Int)≤c23∧(c23:Int) < 256) <|
  ck ((c23:Int) < (l24.length:Int)) <|
  fW m (IntKind.wrap .i32 (c23+1)) (l24.set c23.toNat (3:UInt8))
 else
  some l24
def fX:Nat→Nat→(List UInt8)→Option (List UInt8)
 | 0,_,_=>none
 | m+1,t37,l38 =>
 if t37 < ([123,125,91,93,40,41,44,61,60,62,43,45,42,47,37,33,38,124,63,58,46]:Bytes).length then
  ck ((([123,125,91,93,40,41,44,61,60,62,43,45,42,47,37,33,38,124,63,58,46]:Bytes).getD t37 0).toNat < 128) <|
  ck ((0:Int)≤((([123,125,91,93,40,41,44,61,60,62,43,45,42,47,37,33,38,124,63,58,46]:Bytes).getD t37 0).toNat:Int)∧(((([123,125,91,93,40,41,44,61,60,62,43,45,42,47,37,33,38,124,63,58,46]:Bytes).getD t37 0).toNat:Int):Int) < 256) <|
  ck ((((([123,125,91,93,40,41,44,61,60,62,43,45,42,47,37,33,38,124,63,58,46]:Bytes).getD t37 0).toNat:Int):Int) < (l38.length:Int)) <|
  fX m (t37+1) (l38.set (((([123,125,91,93,40,41,44,61,60,62,43,45,42,47,37,33,38,124,63,58,46]:Bytes).getD t37 0).toNat:Int).toNat) (4:UInt8))
 else
  some l38
def kV (n:Nat):Option (List UInt8) :=
 (f0 n 97 (qQ 256)).bind λ l17 =>
 (fW n 48 l17).bind λ l30 =>
 (fX n 0 l30).bind λ l45 =>
 ck ((0:Int)≤95∧(95:Int) < 256) <|
 ck ((95:Int) < (l45.length:Int)) <|
 ck ((0:Int)≤34∧(34:Int) < 256) <|
 ck ((34:Int) < ((l45.set ((95:Int).toNat) (2:UInt8)).length:Int)) <|
 ck ((0:Int)≤35∧(35:Int) < 256) <|
 ck ((35:Int) < (((l45.set ((95:Int).toNat) (2:UInt8)).set ((34:Int).toNat) (5:UInt8)).length:Int)) <|
 ck ((0:Int)≤10∧(10:Int) < 256) <|
 ck ((10:Int) < ((((l45.set ((95:Int).toNat) (2:UInt8)).set ((34:Int).toNat) (5:UInt8)).set ((35:Int).toNat) (7:UInt8)).length:Int)) <|
 ck ((0:Int)≤32∧(32:Int) < 256) <|
 ck ((32:Int) < (((((l45.set ((95:Int).toNat) (2:UInt8)).set ((34:Int).toNat) (5:UInt8)).set ((35:Int).toNat) (7:UInt8)).set ((10:Int).toNat) (6:UInt8)).length:Int)) <|
 ck ((0:Int)≤9∧(9:Int) < 256) <|
 ck ((9:Int) < ((((((l45.set ((95:Int).toNat) (2:UInt8)).set ((34:Int).toNat) (5:UInt8)).set ((35:Int).toNat) (7:UInt8)).set ((10:Int).toNat) (6:UInt8)).set ((32:Int).toNat) (1:UInt8)).length:Int)) <|
 ck ((0:Int)≤13∧(13:Int) < 256) <|
 ck ((13:Int) < (((((((l45.set ((95:Int).toNat) (2:UInt8)).set ((34:Int).toNat) (5:UInt8)).set ((35:Int).toNat) (7:UInt8)).set ((10:Int).toNat) (6:UInt8)).set ((32:Int).toNat) (1:UInt8)).set ((9:Int).toNat) (1:UInt8)).length:Int)) <|
 ck (Nat.beq 256 (((((((l45.set ((95:Int).toNat) (2:UInt8)).set ((34:Int).toNat) (5:UInt8)).set ((35:Int).toNat) (7:UInt8)).set ((10:Int).toNat) (6:UInt8)).set ((32:Int).toNat) (1:UInt8)).set ((9:Int).toNat) (1:UInt8)).set ((13:Int).toNat) (1:UInt8)).length=true) <|
 ck (Nat.beq 256 (qQ 256).length=true∧Nat.beq 256 (((((((l45.set ((95:Int).toNat) (2:UInt8)).set ((34:Int).toNat) (5:UInt8)).set ((35:Int).toNat) (7:UInt8)).set ((10:Int).toNat) (6:UInt8)).set ((32:Int).toNat) (1:UInt8)).set ((9:Int).toNat) (1:UInt8)).set ((13:Int).toNat) (1:UInt8)).length=true) <|
 some (((((((l45.set ((95:Int).toNat) (2:UInt8)).set ((34:Int).toNat) (5:UInt8)).set ((35:Int).toNat) (7:UInt8)).set ((10:Int).toNat) (6:UInt8)).set ((32:Int).toNat) (1:UInt8)).set ((9:Int).toNat) (1:UInt8)).set ((13:Int).toNat) (1:UInt8))
theorem pX (n:Nat)(r:(List UInt8))(h0:kV n=some r):aK Tryz.prog 84 [] (·=.p (.agg (r.map eU))):=by
 unfold kV at h0
 refine cB good Tryz.func84 Z Z Z λ w0=>mP (λ v:(List UInt8)=>.p (.agg (v.map eU))) ?_
 refine nx 2 Z (mO Z (tX eU (qQ 256) Y Z Z Z Z (by kernel_rfl) Z Z ?_))
 refine nx 3 Z (mO Z (tX eU (qQ 256) Y Z Z Z Z (by kernel_rfl) Z (by repeat (first | apply uS Z | apply rX Z | apply uH Z Z | exact rfl)) ?_))
 refine nx 7 Z (bd h0 λ o65 h1 h0=>?_)
 refine kE 0 o65 (λ v66=>⟨[(0,.ptr 0 0),(1,.ptr 1 0)],[(0,((qQ 256).map eU).map .p),(1,(v66.map eU).map .p)]⟩) ?_ ?_
 ·refine nx 7 Z (bd h0 λ o67 h1 h0=>?_)
  refine kE 2 o67 (λ v68=>⟨[(0,.ptr 0 0),(1,.ptr 1 0)],[(0,((qQ 256).map eU).map .p),(1,(v68.map eU).map .p)]⟩) ?_ ?_
  ·refine nx 4 Z (mO Z (A0 Z Z Z Z Z Z Z (by repeat (first | apply uS Z | apply rX Z | apply uH Z Z | exact rfl)) ?_))
   refine nx 2 Z (bd h0 λ o69 h1 h0=>?_)
   refine kE 4 o69 (λ v70=>⟨[(0,.ptr 0 0),(1,.ptr 1 0)],[(0,((qQ 256).map eU).map .p),(1,(v70.map eU).map .p)]⟩) ?_ ?_
   ·refine nx 3 Z (cc' h0 λ hk46 h0=>?_)
    refine cc' h0 λ hk47 h0=>mO Z (cR Z Z Z Z Z Z Z Z Z hk46 ?_)
    refine mO Z (fV (f:=eU) (l:=o69) (b:=(2:UInt8)) Z Z Z Z Z Z Z Z (by have:=(And.intro hk46.1 hk47); first | omega | (dsimp only; omega)) ?_)
    refine cc' h0 λ hk48 h0=>cc' h0 λ hk49 h0=>mO Z (cR Z Z Z Z Z Z Z Z Z hk48 ?_)
    refine mO Z (fV (f:=eU) (l:=o69.set ((95:Int).toNat) (2:UInt8)) (b:=(5:UInt8)) Z Z Z Z Z Z Z Z (by have:=(And.intro hk48.1 hk49); first | omega | (dsimp only; omega)) ?_)
    refine cc' h0 λ hk50 h0=>cc' h0 λ hk51 h0=>mO Z (cR Z Z Z Z Z Z Z Z Z hk50 ?_)
    refine mO Z (fV (f:=eU) (l:=(o69.set ((95:Int).toNat) (2:UInt8)).set ((34:Int).toNat) (5:UInt8)) (b:=(7:UInt8)) Z Z Z Z Z Z Z Z (by have:=(And.intro hk50.1 hk51); first | omega | (dsimp only; omega)) ?_)
    refine cc' h0 λ hk52 h0=>cc' h0 λ hk53 h0=>mO Z (cR Z Z Z Z Z Z Z Z Z hk52 ?_)
    refine mO Z (fV (f:=eU) (l:=((o69.set ((95:Int).toNat) (2:UInt8)).set ((34:Int).toNat) (5:UInt8)).set ((35:Int).toNat) (7:UInt8)) (b:=(6:UInt8)) Z Z Z Z Z Z Z Z (by have:=(And.intro hk52.1 hk53); first | omega | (dsimp only; omega)) ?_)
    refine nx 3 Z (cc' h0 λ hk54 h0=>?_)
    refine cc' h0 λ hk55 h0=>mO Z (cR Z Z Z Z Z Z Z Z Z hk54 ?_)
    refine mO Z (fV (f:=eU) (l:=(((o69.set ((95:Int).toNat) (2:UInt8)).set ((34:Int).toNat) (5:UInt8)).set ((35:Int).toNat) (7:UInt8)).set ((10:Int).toNat) (6:UInt8)) (b:=(1:UInt8)) Z Z Z Z Z Z Z Z (by have:=(And.intro hk54.1 hk55); first | omega | (dsimp only; omega)) ?_)
    refine cc' h0 λ hk56 h0=>cc' h0 λ hk57 h0=>mO Z (cR Z Z Z Z Z Z Z Z Z hk56 ?_)
    refine mO Z (fV (f:=eU) (l:=((((o69.set ((95:Int).toNat) (2:UInt8)).set ((34:Int).toNat) (5:UInt8)).set ((35:Int).toNat) (7:UInt8)).set ((10:Int).toNat) (6:UInt8)).set ((32:Int).toNat) (1:UInt8)) (b:=(1:UInt8)) Z Z Z Z Z Z Z Z (by have:=(And.intro hk56.1 hk57); first | omega | (dsimp only; omega)) ?_)
    refine cc' h0 λ hk58 h0=>cc' h0 λ hk59 h0=>mO Z (cR Z Z Z Z Z Z Z Z Z hk58 ?_)
    refine mO Z (fV (f:=eU) (l:=(((((o69.set ((95:Int).toNat) (2:UInt8)).set ((34:Int).toNat) (5:UInt8)).set ((35:Int).toNat) (7:UInt8)).set ((10:Int).toNat) (6:UInt8)).set ((32:Int).toNat) (1:UInt8)).set ((9:Int).toNat) (1:UInt8)) (b:=(1:UInt8)) Z Z Z Z Z Z Z Z (by have:=(And.intro hk58.1 hk59); first | omega | (dsimp only; omega)) ?_)
    refine nx 3 Z (cc' h0 λ hk60 h0=>?_)
    refine mO Z (yH eU (((((((o69.set ((95:Int).toNat) (2:UInt8)).set ((34:Int).toNat) (5:UInt8)).set ((35:Int).toNat) (7:UInt8)).set ((10:Int).toNat) (6:UInt8)).set ((32:Int).toNat) (1:UInt8)).set ((9:Int).toNat) (1:UInt8)).set ((13:Int).toNat) (1:UInt8)) Z Z Z Z Z Z Z hk60 ?_)
    refine cc' h0 λ hk61 h0=>mO Z (wG eU (qQ 256) (((((((o69.set ((95:Int).toNat) (2:UInt8)).set ((34:Int).toNat) (5:UInt8)).set ((35:Int).toNat) (7:UInt8)).set ((10:Int).toNat) (6:UInt8)).set ((32:Int).toNat) (1:UInt8)).set ((9:Int).toNat) (1:UInt8)).set ((13:Int).toNat) (1:UInt8)) Z Z Z Z Z Z Y hk61.1 hk61.2 ?_)
    exact nx 2 Z (mQ (oi h0) (BR eU (((((((o69.set ((95:Int).toNat) (2:UInt8)).set ((34:Int).toNat) (5:UInt8)).set ((35:Int).toNat) (7:UInt8)).set ((10:Int).toNat) (6:UInt8)).set ((32:Int).toNat) (1:UInt8)).set ((9:Int).toNat) (1:UInt8)).set ((13:Int).toNat) (1:UInt8)) Z Z Z Z Z hk60) (sr))
   refine lG (λ (q71:Nat×(List UInt8))=>⟨[(0,.ptr 0 0),(1,.ptr 1 0),(22,.it 22 ([123,125,91,93,40,41,44,61,60,62,43,45,42,47,37,33,38,124,63,58,46]:Bytes) q71.1)],[(0,((qQ 256).map eU).map .p),(1,(q71.2.map eU).map .p)]⟩) (λ m (q71:Nat×(List UInt8))=>fX m q71.1 q71.2) Y (0,o67) h1 (gE Z Z) ?_
   rintro m ⟨t37,l38⟩ h1
   replace h1:fX (m+1) t37 l38=some o69:=h1
   rw [fX] at h1
   refine nx 2 Z (fD (p:=t37 < ([123,125,91,93,40,41,44,61,60,62,43,45,42,47,37,33,38,124,63,58,46]:Bytes).length) [] h1 Z (λ c39 h1=>?_) λ c39 h1=>?_)
   ·refine cc' h1 λ hk40 h1=>mO Z (Bj Z Z Z Z Z Z c39 hk40 Z (by repeat (first | apply uS Z | apply rX Z | apply uH Z Z | exact rfl)) Z ?_)
    refine nx 13 Z (cc' h1 λ hk41 h1=>?_)
    refine cc' h1 λ hk42 h1=>mO Z (cR Z Z Z Z Z Z Z Z Z hk41 ?_)
    refine mO Z (fV (f:=eU) (l:=l38) (b:=(4:UInt8)) Z Z Z Z Z Z Z Z (by have:=(And.intro hk41.1 hk42); first | omega | (dsimp only; omega)) ?_)
    exact nx 1 Z (eX (t37+1,l38.set (((([123,125,91,93,40,41,44,61,60,62,43,45,42,47,37,33,38,124,63,58,46]:Bytes).getD t37 0).toNat:Int).toNat) (4:UInt8)) h1 (gE Z Z))
   refine mO Z (AA Z Z Z Z c39 ?_)
   exact nx 5 Z (eXi _ (oi h1).symm (gE Z Z))
  refine lG (λ (q72:Int×(List UInt8))=>⟨[(0,.ptr 0 0),(1,.ptr 1 0),(3,.p (eK .i32 q72.1))],[(0,((qQ 256).map eU).map .p),(1,(q72.2.map eU).map .p)]⟩) (λ m (q72:Int×(List UInt8))=>fW m q72.1 q72.2) Y (48,o65) h1 (gE Z Z) ?_
  rintro m ⟨c23,l24⟩ h1
  replace h1:fW (m+1) c23 l24=some o67:=h1
  rw [fW] at h1
  refine nx 6 Z (fD [17] h1 Z (λ c25 h1=>?_) λ c25 h1=>?_)
  ·refine nx 6 Z (cc' h1 λ hk26 h1=>?_)
   refine cc' h1 λ hk27 h1=>mO Z (cR Z Z Z Z Z Z Z Z Z hk26 ?_)
   refine mO Z (fV (f:=eU) (l:=l24) (b:=(3:UInt8)) Z Z Z Z Z Z Z Z (by have:=(And.intro hk26.1 hk27); first | omega | (dsimp only; omega)) ?_)
   exact nx 6 Z (eX (IntKind.wrap .i32 (c23+1),l24.set c23.toNat (3:UInt8)) h1 (gE Z Z))
  exact nx 2 Z (eXi _ (oi h1).symm (gE Z Z))
 refine lG (λ (q73:Int×(List UInt8))=>⟨[(0,.ptr 0 0),(1,.ptr 1 0),(2,.p (eK .i32 q73.1))],[(0,((qQ 256).map eU).map .p),(1,(q73.2.map eU).map .p)]⟩) (λ m (q73:Int×(List UInt8))=>f0 m q73.1 q73.2) Y (97,qQ 256) h1 (gE Z Z) ?_
 rintro m ⟨c8,l9⟩ h1
 replace h1:f0 (m+1) c8 l9=some o65:=h1
 rw [f0] at h1
 refine nx 6 Z (fD [7] h1 Z (λ c10 h1=>?_) λ c10 h1=>?_)
 ·refine nx 9 Z (cc' h1 λ hk11 h1=>?_)
  refine cc' h1 λ hk12 h1=>mO Z (cR Z Z Z Z Z Z Z Z Z hk11 ?_)
  refine mO Z (fV (f:=eU) (l:=l9) (b:=(2:UInt8)) Z Z Z Z Z Z Z Z (by have:=(And.intro hk11.1 hk12); first | omega | (dsimp only; omega)) ?_)
  refine cc' h1 λ hk13 h1=>cc' h1 λ hk14 h1=>mO Z (cR Z Z Z Z Z Z Z Z Z hk13 ?_)
  refine mO Z (fV (f:=eU) (l:=l9.set c8.toNat (2:UInt8)) (b:=(2:UInt8)) Z Z Z Z Z Z Z Z (by have:=(And.intro hk13.1 hk14); first | omega | (dsimp only; omega)) ?_)
  exact nx 6 Z (eX (IntKind.wrap .i32 (c8+1),(l9.set c8.toNat (2:UInt8)).set ((IntKind.wrap .i32 ((IntKind.wrap .i32 (c8 - 97))+65)).toNat) (2:UInt8)) h1 (gE Z Z))
 exact nx 2 Z (eXi _ (oi h1).symm (gE Z Z))
theorem pT:kV 64=some gW:=by kernel_rfl
def i7 (s_0:Bytes):Option aa:=some (.mk s_0 0 (-1) (.mk 0 0 []))
theorem aa.ones (x:aa):PV.onesB (aa.cs x)=true:=by kernel_rfl
theorem nQ (s_0:Bytes)(r:aa)(h0:i7 s_0=some r):aW Tryz.prog 51 [.p (eS s_0)] [] (λ x y=>x=.ptr 2000000 0∧y=[(2000000,(aa.cs r).map .p)]):=by
 unfold i7 at h0
 refine cw good [6] [6] Tryz.func51 Z Z Z Z Z λ w0 F=>mPo (λ _:aa=>.ptr 2000000 0) (λ v=>[(2000000,(aa.cs v).map .p)]) ?_
 refine nx 7 Z ?_
 refine oK (pX 64 _ pT) Z trivial Tryz.call84 Z ?_
 refine mO Z (vQ (cs:=(aa.cs (.mk s_0 0 (-1) (.mk 0 0 []))).map .p) (y:=.p (.agg (aa.cs (.mk s_0 0 (-1) (.mk 0 0 []))))) Z Z Z Z Z Z Z (by kernel_rfl) (by simp only [kd,rE]) ?_)
 refine mO Z (CS (aa.cs (.mk s_0 0 (-1) (.mk 0 0 []))) Z Z Z Z (aa.ones _) Z Z ?_)
 exact nx 4 Z (mQo (oi h0) (ax _) Z Z Z (av Z (aw _) Z) (sr) ⟨⟨_,Z,aF _⟩,trivial⟩)
end Go.Ab.R06
end
section
namespace Go.Ab
structure PreO (w:World)(g:Gh):Prop where
 ok:Ok0 w g.st
 own:∀ i b,g.ow i=some b→b < w.heap.size∧i < 2*M1
 inj:∀ i j b,g.ow i=some b→g.ow j=some b→i=j
 nst:∀ i b,M1≤i→g.ow i=some b→∀ o,¬ g.st b o
def Da (w:World)(g:Gh)(R:AV→List (Nat×List AV)→Prop)(v:Value)(w':World):Prop :=
 ∃ r obs' g',R r obs'∧ARep w' g' r v∧(∀ p∈obs',gM w' g' p.1 p.2)∧kI w g w' g'
def wI (P:Program)(f:FuncId)(args:List AV)(obs:List (Nat×List AV))(R:AV→List (Nat×List AV)→Prop):Prop :=
 ∀ (w:World) (g:Gh) (vs:Array Value) (u:FrameMode),PreO w g→vs.size=args.length→(∀ (i:Nat) c v,args[i]? = some c→vs[i]? = some v→ARep w g c v)→(∀ id cs,look obs id=some cs→gM w g id cs) →
  CallsD P f vs u w λ e u' w'=>u'=u∧∃ v,e=.returned v∧Da w g R v w'
theorem Ek {P:Program}{tt:List (Nat×TI)}(good:dI P tt){f:FuncId}{fn:Func}{c:Code}{args:List AV}{obs rob:List (Nat×List AV)}{r:AV}(ts ids:List Nat)(hf:P.funcs[f]? = some fn)(hb:fn.body=some c)
  (hn:Nat.ble args.length fn.ntmps=true) (hnl:Nat.ble fn.ntmps M1=true) (hts:ts.all (λ i=>Nat.blt i M1)=true) (hnd:nodupB ts=true)
  (h:∀ w0 F,awp ⟨P,tt,good,fn.ntmps,hnl,w0,F⟩ c (sR ⟨P,tt,good,fn.ntmps,hnl,w0,F⟩ tt fn ts ids r rob) ⟨gw args,obs⟩):wI P f args obs (λ x y=>x.sub r∧leO y rob) :=
 λ _ _ _ _ hp h1 h2 h3=>(callsD_of_wp hf hb (oR good ts ids (Nat.le_of_ble_eq_true hn) hnl hts hnd (λ w0 F=>pM (h w0 F)) hp.ok hp.own hp.inj hp.nst h1 h2 h3)).mono
  λ _ _ _ ⟨hu,v,r,obs',g',he,hR,e1,e2,e3⟩=>⟨hu,v,he,r,obs',g',hR,e1,e2,e3⟩
def E7:Option Code→Code
 | some (.seq _ (.seq _ B))=>B
 | _=>.skip
def zE (P:Program)(fn:Func)(B:Code)(sl:List (Nat×AV))(obs:List (Nat×List AV))(R:AV→List (Nat×List AV)→Prop):Prop :=
 ∀ (w:World) (g:Gh) (a:Act),PreO w g→a.tmps.size=fn.ntmps→(∀ i,ARep w g ((⟨sl,obs⟩:AS).get i) (a.tmps.getD i Go.undef))→(∀ id cs,look obs id=some cs→gM w g id cs) →
  B.wp P (λ e a' w'=>(e=.normal∨e=.ret)∧a'.defers=a.defers∧∃ v,(∀ w2,(results fn a'.tmps).run P w2=.ok v w2)∧Da w g R v w') a w
theorem Bf {P:Program}{tt:List (Nat×TI)}(good:dI P tt){fn:Func}{B:Code}{t:Nat}{sl:List (Nat×AV)}{obs rob:List (Nat×List AV)}{r:AV}(ids:List Nat)(hres:fn.results.toList=[.tmp t])(hnl:Nat.ble fn.ntmps M1=true)
  (h:∀ w0 F,awp ⟨P,tt,good,fn.ntmps,hnl,w0,F⟩ B (sR ⟨P,tt,good,fn.ntmps,hnl,w0,F⟩ tt fn [] ids r rob) ⟨sl,obs⟩):zE P fn B sl obs (λ x y=>x.sub r∧leO y rob):=by
 intro w g a hp hsz hsl hobs
 have hs:St fn.ntmps ⟨w,g.st,g.ow,hp.ok.gl,(λ i b h=>Nat.lt_of_lt_of_le (hp.own i b h).2 tu),a.defers⟩ (λ b=>b < w.heap.size∧∀ i,g.ow i≠some b) g ⟨sl,obs⟩ a w :=
  ⟨Z,hsz,hsl,hobs,hp.inj,λ i b hi=>⟨(hp.own i b hi).1,λ h=>h.2 i hi⟩,hp.ok.lt,λ b h=>h.1,λ b h=>rfl,Z,Z,Z,Nat.le_refl _,λ b _ o=>Iff.rfl,λ _ _ _=>rfl,iK.refl _ _,λ i b hi h=>hp.nst i b hi h,Ev.refl _ _⟩
 refine wp_mono (pM (h _ _) g a w hs) ?_
 rintro e a' w' ⟨g1,s',h3,he,l,r1,obs1,obs',hl,hr,hpk,hm,hR⟩
 obtain ⟨v,hv,hvr⟩:=lQ good h3 fn l hl
 have hrun:∀ w2,(results fn a'.tmps).run P w2=.ok (a'.tmps.getD t Go.undef) w2:=λ w2=>by
  rw [sF,Array.mapM_eq_mapM_toList,hres]
  simp [ut]
 obtain ⟨g',e1,e2,e3⟩:=uu [] ids Z Z hp.own h3 hvr hr hpk hm
 have:v=a'.tmps.getD t Go.undef:=by
  have:=(hrun w').symm.trans hv
  injection this with h1 _
  exact h1.symm
 exact ⟨he,h3.nd,v,λ w2=>by rw [this]; exact hrun w2,_,_,g',hR,e1,e2,e3⟩
theorem v6:∀ {js:List Nat} {q:List AV} {i:Nat} {c:AV},look (js.zip q) i=some c→∃ k:Nat,js[k]? = some i∧q[k]? = some c
 | [],_,_,_,h=>by simp [look] at h
 | _::_,[],_,_,h=>by simp [look] at h
 | j::js,x::q,i,c,h=>by
  rw [List.zip_cons_cons,bp] at h
  by_cases e:j=i
  ·rw [if_pos e] at h; cases h; exact ⟨0,by simp [e],rfl⟩
  ·rw [if_neg e] at h
   obtain ⟨k,h1,h2⟩:=v6 h
   exact ⟨k+1,by simpa using h1,by simpa using h2⟩
theorem qe:∀ l:List AV,nZ l l
 | []=>trivial
 | x::r=>⟨AV.sub_refl x,qe r⟩
theorem Bz {C:Cx}{fn:Func}{B:Code}{sl:List (Nat×AV)}{ob:List (Nat×List AV)}(ids vids:List Nat)(NB NE:Nat)(js:List Nat){l l':List AV}{obs qo rob ob':List (Nat×List AV)}{r r':AV}(hnt:C.n=fn.ntmps)
  (hB:zE C.P fn B (js.zip l') qo (λ x y=>x.sub r∧leO y rob)) (hl:jP sl (js.map .tmp)=some l) (hl':AV.mapA.go (jM ids vids) l=some l') (hpk:gr ob ids=some obs) (hmo:gm (jM ids vids) obs=some qo) (hqq:leO qo qo)
  (hnd:nodupB ids=true) (hids:ids.all (λ i=>Nat.blt i (2*M1))=true) (hil:Nat.ble ids.length M1=true) (hdl:Nat.ble NE M1=true) (hdis:ids.all (λ i=>!(da vids NB NE i))=true)
  (hvd:nodupB vids=true) (hvl:vids.all (λ i=>Nat.blt i M1)=true) (hvn:Nat.ble vids.length 100000=true) (hr:r.mapA (jt ids NB NE)=some r') (hro:gm (jt ids NB NE) rob=some ob')
  {g:Gh} {a a2:Act} {w:World} (hs:St C.n C.w0 C.F g ⟨sl,ob⟩ a w) (ht:a2.tmps=a.tmps) :
  B.wp C.P (λ e a' w'=>(e=.normal∨e=.ret)∧a'.defers=a2.defers∧∃ v,(∀ w2,(results fn a'.tmps).run C.P w2=.ok v w2)∧∃ g2,St C.n C.w0 C.F g2 ⟨(dB (da vids NB NE) ⟨sl,ob⟩).sl,ob'++(dB (da vids NB NE) ⟨sl,ob.filter λ p=>!(ids.any (Nat.beq p.1))⟩).ob⟩ a w'∧ARep w' g2 r' v) a2 w:=by
 obtain ⟨a1,a1'⟩:=ja hs _ l hl
 have hlen:(js.map λ j=>a.eval (.tmp j)).length=l.length:=by simpa using a1.symm
 obtain ⟨gc,⟨k1,k2,k3,k4,k5,k6,k7⟩,hpost⟩:=om ids vids NB NE hl' (qe l') hpk hmo hqq hnd hids hil hdl hdis hvd hvl hvn hs (avs:=(js.map λ j=>a.eval (.tmp j)).toArray) (by simpa using hlen)
  (λ i c v hc hv=>a1' i c v hc (by simpa using hv))
 refine wp_mono (hB w gc a2 ⟨k1,k2,k3,k4⟩ (by rw [ht,hs.sz,hnt]) (λ i=>?_) k7) ?_
 ·unfold AS.get
  cases hq:look (js.zip l') i with
  | none=>exact .undef _
  | some c =>
   obtain ⟨k,h1,h2⟩:=v6 hq
   simp only [Option.getD_some]
   refine k6 k c _ h2 ?_
   have:a2.tmps.getD i Go.undef=a.eval (.tmp i):=by rw [ht]; rfl
   rw [this]
   simp [h1]
 ·rintro e a' w' ⟨he,hd,v,hv,x,y,g',⟨hx,hy⟩,e1,e2,e3⟩
  obtain ⟨g2,f1,f2⟩:=hpost w' v r r' rob ob' g' (hx _ _ _ e1) (λ p hp=>by
   obtain ⟨ds,m1,m2⟩:=rb hy p hp
   exact nI (e2 (p.1,ds) (fR m1)) m2) e3 hr hro
  exact ⟨he,hd,v,hv,g2,f1,f2⟩
theorem Eo {C:Cx}{k:FuncId}{sl:List (Nat×AV)}{ob:List (Nat×List AV)}(ids vids:List Nat)(NB NE:Nat)(j:Nat){x:AV}{l':List AV}{obs qo rob ob':List (Nat×List AV)}{r r':AV}{u:FrameMode}
  (hD:wI C.P k l' qo (λ x y=>x.sub r∧leO y rob)) (hl:look sl j=some x) (hl':AV.mapA.go (jM ids vids) [x]=some l') (hpk:gr ob ids=some obs) (hmo:gm (jM ids vids) obs=some qo) (hqq:leO qo qo)
  (hnd:nodupB ids=true) (hids:ids.all (λ i=>Nat.blt i (2*M1))=true) (hil:Nat.ble ids.length M1=true) (hdl:Nat.ble NE M1=true) (hdis:ids.all (λ i=>!(da vids NB NE i))=true)
  (hvd:nodupB vids=true) (hvl:vids.all (λ i=>Nat.blt i M1)=true) (hvn:Nat.ble vids.length 100000=true) (hr:r.mapA (jt ids NB NE)=some r') (hro:gm (jt ids NB NE) rob=some ob')
  {g:Gh} {a:Act} {w:World} (hs:St C.n C.w0 C.F g ⟨sl,ob⟩ a w) :
  CallsD C.P k #[a.eval (.tmp j)] u w λ e u' w'=>u'=u∧∃ v,e=.returned v∧∃ g2,St C.n C.w0 C.F g2 ⟨(dB (da vids NB NE) ⟨sl,ob⟩).sl,ob'++(dB (da vids NB NE) ⟨sl,ob.filter λ p=>!(ids.any (Nat.beq p.1))⟩).ob⟩ a w':=by
 have hx:ARep w g x (a.eval (.tmp j)):=cb hs (x:=.tmp j) hl
 obtain ⟨gc,⟨k1,k2,k3,k4,k5,k6,k7⟩,hpost⟩:=om ids vids NB NE hl' (qe l') hpk hmo hqq hnd hids hil hdl hdis hvd hvl hvn hs (avs:=#[a.eval (.tmp j)]) rfl
  (λ i c v hc hv=>by
   match i,hc,hv with
   | 0,hc,hv=>simp at hc hv; subst hc hv; exact hx)
 refine (hD w gc _ u ⟨k1,k2,k3,k4⟩ k5 k6 k7).mono ?_
 rintro e u' w' ⟨hu,v,he,x,y,g',⟨hx,hy⟩,e1,e2,e3⟩
 obtain ⟨g2,f1,_⟩:=hpost w' v r r' rob ob' g' (hx _ _ _ e1) (λ p hp=>by
   obtain ⟨ds,m1,m2⟩:=rb hy p hp
   exact nI (e2 (p.1,ds) (fR m1)) m2) e3 hr hro
 exact ⟨hu,v,he,g2,f1⟩
theorem Cv {P:Program}{tt:List (Nat×TI)}(good:dI P tt){f k:FuncId}{fn:Func}{args:List AV}{obs rob:List (Nat×List AV)}{c:Value}{R0 R1 R2 B:Code}{rid t j q:Nat}{o1 o2:Oper}{s0 s1 s2:AS}{b:Bool}(ids:List Nat)
  (hf:P.funcs[f]? = some fn) (hb:fn.body=some (.seq R0 (.seq (.seq R1 (.cond (.tmp t) (.seq R2 (.region rid #[o1,o2] false)) .skip)) B)))
  (hn:Nat.ble args.length fn.ntmps=true) (hnl:Nat.ble fn.ntmps M1=true)
  (h0:∀ w0 F,awp ⟨P,tt,good,fn.ntmps,hnl,w0,F⟩ R0 (λ e s=>e=.normal∧s=s0) ⟨gw args,obs⟩)
  (h1:∀ w0 F,awp ⟨P,tt,good,fn.ntmps,hnl,w0,F⟩ R1 (λ e s=>e=.normal∧s=s1) s0) (hc:evo s1.sl (.tmp t)=some (.p (eB b)))
  (hF:b=false→∃ sE obs1 obs2,gr sE.ob ids=some obs1∧gm (km []) obs1=some obs2∧leO obs2 rob∧∀ w0 F g a a2 w,St fn.ntmps w0 F g s1 a w→a2.tmps=a.tmps →
   B.wp P (λ e a' w'=>(e=.normal∨e=.ret)∧a'.defers=a2.defers∧∃ v,(∀ w2,(results fn a'.tmps).run P w2=.ok v w2)∧∃ g2,St fn.ntmps w0 F g2 sE a w'∧ARep w' g2 (.p (.val c)) v) a2 w)
  (hT:b=true→(∀ w0 F,awp ⟨P,tt,good,fn.ntmps,hnl,w0,F⟩ R2 (λ e s=>e=.normal∧s=s2) s1)∧(o1.op=.makeFunc (.func k) #[] #[.tmp j]∧o1.dst=some q∧Nat.blt q fn.ntmps=true∧o1.guard=none∧o2.op=.defer { callee:=.value (.tmp q),args:=#[],argTypes:=#[] }∧o2.dst=none∧o2.guard=none∧Nat.beq j q=false) ∧
   (∀ vs w,(callFunc k vs).run P w=.ok (.enter k vs) w)∧∃ sE sD obs1 obs2 x,look s2.sl j=some x∧gr sD.ob ids=some obs1∧gm (km []) obs1=some obs2∧leO obs2 rob ∧
    (∀ w0 F g a a2 w,St fn.ntmps w0 F g ⟨(q,.func (.func k) [x])::s2.sl,s2.ob⟩ a w→a2.tmps=a.tmps →
     B.wp P (λ e a' w'=>(e=.normal∨e=.ret)∧a'.defers=a2.defers∧∃ v,(∀ w2,(results fn a'.tmps).run P w2=.ok v w2)∧∃ g2,St fn.ntmps w0 F g2 sE a w'∧ARep w' g2 (.p (.val c)) v) a2 w) ∧
    ∀ w0 F g a w u,St fn.ntmps w0 F g sE a w→CallsD P k #[a.eval (.tmp j)] u w λ e u' w'=>u'=u∧∃ v,e=.returned v∧∃ g2,St fn.ntmps w0 F g2 sD a w') :
  aW P f args obs (λ x y=>x=.p (.val c)∧y=rob):=by
 refine aW.of_sub ?_
 intro w g vs hlt hown hinj hnst k1 k2 hobs
 refine calls_of_wp_defers hf hb ?_
 have hn':=Nat.le_of_ble_eq_true hn
 have hs:St fn.ntmps ⟨w,g.st,g.ow,hlt.gl,(λ i b h=>Nat.lt_of_lt_of_le (hown i b h).2 tu),[]⟩ (λ b=>b < w.heap.size∧∀ i,g.ow i≠some b) g ⟨gw args,obs⟩ { tmps:=vs++Array.replicate (fn.ntmps - vs.size) Go.undef,defers:=[] } w:=by
  refine ⟨Z,?_,?_,hobs,hinj,?_,hlt.lt,?_,?_,Z,Z,Z,Nat.le_refl _,λ b _ o=>Iff.rfl,λ _ _ _=>rfl,iK.refl _ _,λ i b hi h=>hnst i b hi h,Ev.refl _ _⟩
  ·simp only [Array.size_append,Array.size_replicate]; omega
  ·intro i
   have:=nb args 0 i
   simp only [AS.get,gw,this,Nat.zero_le,if_true,Nat.sub_zero]
   cases ha:args[i]? with
   | none=>exact .undef _
   | some x =>
    have hi:i < args.length:=(List.getElem?_eq_some_iff.1 ha).1
    have hi2:i < vs.size:=by omega
    have e:(vs++Array.replicate (fn.ntmps - vs.size) Go.undef).getD i Go.undef=vs[i]:=by
     simp [Array.getD_eq_getD_getElem?,Array.getElem?_append,hi2]
    simp only [Option.getD_some]
    rw [e]
    exact k2 i x _ ha (Array.getElem?_eq_getElem hi2)
  ·intro i b hi; exact ⟨(hown i b hi).1,λ h=>h.2 i hi⟩
  ·intro b h; exact h.1
  ·intro b h; rfl
 -- behind everything: what is handed back
 have fin:∀ {sE:AS} {obs1 obs2:List (Nat×List AV)} {a:Act} {w':World} {g2:Gh} {v:Value},gr sE.ob ids=some obs1→gm (km []) obs1=some obs2→leO obs2 rob →
   St fn.ntmps ⟨w,g.st,g.ow,hlt.gl,(λ i b h=>Nat.lt_of_lt_of_le (hown i b h).2 tu),[]⟩ (λ b=>b < w.heap.size∧∀ i,g.ow i≠some b) g2 sE a w'→ARep w' g2 (.p (.val c)) v →
   ∃ v1 r obs' g',Ending.returned v=.returned v1∧(AV.sub r (.p (.val c))∧leO obs' rob)∧ARep w' g' r v1∧(∀ p∈obs',gM w' g' p.1 p.2)∧kI w g w' g':=by
  intro sE obs1 obs2 a w' g2 v p1 p2 p3 hS hv
  obtain ⟨g',e1,e2,e3⟩:=uu [] ids Z Z hown hS hv rfl p1 p2
  exact ⟨v,_,_,g',Z,⟨AV.sub_refl _,p3⟩,e1,e2,e3⟩
 refine wp_seq (wp_mono (h0 _ _ g _ w hs) ?_)
 rintro e a0 w0 ⟨g0,s0',hs0,rfl,rfl⟩
 refine wp_seq (wp_seq (wp_mono (h1 _ _ g0 a0 w0 hs0) ?_))
 rintro e a1 w1 ⟨g1,s1',hs1,rfl,rfl⟩
 have hcv:a1.eval (.tmp t)=.bool b:=ct hs1 hc
 cases hbb:b with
 | false =>
  subst hbb
  refine wp_cond_false hcv (wp_skip ?_)
  obtain ⟨sE,obs1,obs2,p1,p2,p3,hB⟩:=hF rfl
  refine wp_mono (hB _ _ g1 a1 a1 w1 hs1 Z) ?_
  rintro e a' w' ⟨he,hd,v,hv,g2,hS,hr⟩
  have hd':a'.defers=[]:=hd.trans hs1.nd
  rcases he with rfl | rfl
  ·simp only [bodyPostD,hd',Leaves]; exact ⟨v,hv w',fin p1 p2 p3 hS hr⟩
  ·simp only [bodyPostD,hd',Leaves]; exact ⟨v,hv w',fin p1 p2 p3 hS hr⟩
 | true =>
  subst hbb
  obtain ⟨h2,⟨m1,m2,m3,m4,m5,m6,m7,m8⟩,hen,sE,sD,obs1,obs2,x,hj,p1,p2,p3,hB,hD⟩:=hT rfl
  refine wp_cond_true hcv (wp_seq (wp_mono (h2 _ _ g1 a1 w1 hs1) ?_))
  rintro e a2 w2 ⟨g2,s2',hs2,rfl,rfl⟩
  refine wp_region ?_
  have hx:ARep w2 g2 x (a2.eval (.tmp j)):=cb hs2 (x:=.tmp j) hj
  have hq:q < fn.ntmps:=Nat.blt_eq ▸ m3
  have e1:(execOp a2.eval o1).run P w2=.ok (.value (.func (.func k) #[] #[a2.eval (.tmp j)])) w2:=by simp [execOp,m1,Instr.makeFunc,Act.eval]
  have hs3:=hs2.put (d:=some q) (λ t ht=>by cases ht; exact hq) (x:=.func (.func k) [x]) (v:=.func (.func k) #[] #[a2.eval (.tmp j)]) (.func rfl λ i c v hc hv=>by
   match i,hc,hv with
   | 0,hc,hv=>simp at hc hv; subst hc hv; exact hx)
  obtain ⟨a3,ha3⟩:∃ a3,a3=a2.put (some q) (.func (.func k) #[] #[a2.eval (.tmp j)]):=⟨_,rfl⟩
  rw [← ha3] at hs3
  have hqv:a3.eval (.tmp q)=.func (.func k) #[] #[a2.eval (.tmp j)]:=by
   have:q < a2.tmps.size:=by rw [hs2.sz]; exact hq
   rw [ha3]; simp [Act.put,Act.eval,Array.getD,this]
  have hjq:a3.eval (.tmp j)=a2.eval (.tmp j):=by
   have hne:q≠j:=λ e=>by subst e; simp at m8
   rw [ha3]; simp only [Act.put,Act.eval,Array.getD_eq_getD_getElem?,Array.getElem?_setIfInBounds,if_neg hne]
  have e2:(execOp a3.eval o2).run P w2=.ok (.defer { target:=.fn (.func k) #[a2.eval (.tmp j)],args:=#[] }) w2:=by simp [execOp,m5,resolve,hqv,Deferred.ofValue]
  have hr:List.range (#[o1,o2]:Array Oper).size=[0,1]:=rfl
  rw [hr]
  have g0':(#[o1,o2]:Array Oper)[0]? = some o1:=rfl
  have g1':(#[o1,o2]:Array Oper)[1]? = some o2:=rfl
  simp only [wpOps,g0',g1',Region.wanted,m4,m7,if_true]
  refine .inl ?_
  unfold Oper.wp
  rw [e1]
  simp only [Oper.upon,m2]
  rw [← ha3]
  refine .inl ?_
  rw [e2]
  simp only [Oper.upon,m6,Act.put]
  refine wp_mono (hB _ _ g2 a3 { a3 with defers:={ target:=.fn (.func k) #[a2.eval (.tmp j)],args:=#[] }::a3.defers } w2 hs3 Z) ?_
  rintro e a' w' ⟨he,hd,v,hv,g3,hS,hrv⟩
  have hnd:a3.defers=[]:=hs3.nd
  rw [hnd] at hd
  have key:Leaves P fn a'.tmps (λ e w'=>∃ v r obs' g',e=.returned v∧(AV.sub r (.p (.val c))∧leO obs' rob)∧ARep w' g' r v∧(∀ p∈obs',gM w' g' p.1 p.2)∧kI w g w' g') a'.defers .returning w':=by
   rw [hd]
   refine leaves_cons (f:=k) (args:=#[a2.eval (.tmp j)]) G (by simp [invoke,hen]) ?_
   have:=hD _ _ g3 a3 w' .returning hS
   rw [hjq] at this
   refine this.mono ?_
   rintro e u' w'' ⟨hu,v2,he2,g4,hS4⟩
   subst hu he2
   simp only [settle,Leaves]
   refine ⟨v,hv w'',fin p1 p2 p3 hS4 ?_⟩
   cases hrv with
   | p hrv=>cases hrv; exact .p (.val _)
  rcases he with rfl | rfl
  ·exact key
  ·exact key
theorem mR {C:Cx}{c:Code}{s t:AS}(h:M C (λ e s=>e=.normal∧s=t) ⟨.cd c,[],s⟩):awp C c (λ e s=>e=.normal∧s=t) s:=pM h
theorem mE {C:Cx}{s t:AS}(h:dc C s t):M C (λ e s=>e=.normal∧s=t) ⟨.ex .normal,[],s⟩:=⟨t,h,Z,Z⟩
end Go.Ab
end
section
namespace Go.Ab.R06
open Go.Proofs Go.Ab Go.Ab.RB
attribute [local irreducible] awp ge bq aK aW AV.sub M dc
theorem ky (x:aa):wI Tryz.prog 132 [.ptr 1000000 0] [(1000000,[.ptr 1000001 0]),(1000001,(aa.cs x).map .p)] (λ a b=>a.sub (.tuple [])∧leO b [(1000000,[.ptr 1000001 0]),(1000001,(aa.cs (.mk x.fs x.fat (-1) x.fbad)).map .p)]):=by
 refine Ek good [] [1000000,1000001] Tryz.func132 Z Z Z Z Z λ w0 F=>mPo (v0:=aa.mk x.fs x.fat (-1) x.fbad) (λ _:aa=>.tuple []) (λ v=>[(1000000,[.ptr 1000001 0]),(1000001,(aa.cs v).map .p)]) ?_
 refine nx 4 Z (mO Z (ek Z Z Z Z Z Z Z Z (aa.b_outer _) (aa.u_outer _) ?_))
 exact nx 1 Z (ws Z (ax _) Z Z Z (av Z Z (av Z (aw _) Z)) (sr) ⟨⟨_,Z,⟨sr,trivial⟩⟩,⟨_,Z,aF _⟩,trivial⟩)
end Go.Ab.R06
end
section
namespace Go.Ab
theorem xV {w:World}{g:Gh}{tok sz ty:Nat}{es:List PV}{b off cap:Nat}(h:ARep w g (.vec tok sz ty es) (.slice (some ⟨b,off,none⟩) es.length cap))(hc:es.length+1≤cap) :
  ARep w g (.vecp tok sz ty es) (.slice (some ⟨b,off,none⟩) (es.length+1) cap):=by
 generalize hv:Value.slice (some ⟨b,off,none⟩) es.length cap=v at h
 cases h with
 | vecn=>cases hv
 | vece _ _ a=>injection hv with _ _ h3; omega
 | vec how hb hcs hsz hst hr hty =>
  injection hv with h1 h2 h3
  injection h1 with h1
  injection h1 with h4 h5
  subst h3 h4 h5
  exact .vecp how hb hcs hc hsz hst hr hty
section
variable {C:Cx} {o:Oper} {K:AS→Prop} {sl:List (Nat×AV)} {ob:List (Nat×List AV)} {d:Nat}
theorem kJ (ty0:Nat){es ys:List PV}{t tx e:TypeId}{i ie:TI}{y:Operand}(D:Nat→Bool)(hDl:∀ i,D i=true→i < M1)(hDd:D d=true)(hy1:ys.length=1)
  (hi:look C.tt t=some i) (hik:i.k=.slice e) (hie:look C.tt e=some ie)
  (hS:tL C sl ob tx y ie.size ys) (hzl:ie.zero.length=ie.size)
  (hlen:(es.length+ys.length)*ie.bytes≤140737488355328) (hlen':es.length+ys.length≤9223372036854775807)
  {g:Gh} {a:Act} {w:World} (hs:St C.n C.w0 C.F g ⟨sl,ob⟩ a w) (base:Option Addr) (cap:Nat) (olds:List Value)
  (hold:(Builtin.firstCells ie.size es.length (.slice base es.length cap)).run C.P w.drew=.ok olds.toArray w.drew) (hol:olds.length=es.length*ie.size)
  (hes:∀ e,e∈es→e.cells.length=ie.size)
  (hoc:∀ (i:Nat) y (j:Nat) x,es[i]? = some y→y.cells[j]? = some x→x.one=true∧∃ u,olds[i*ie.size+j]? = some u∧PRep w g.st x u)
  (hg:cap < es.length+ys.length) (ty:TypeId) (hn:Nat.blt d C.n=true) (hty:ty0=0∨ty0=e+1) :
  ∃ v w' g',(Builtin.append_ #[t,tx] ty #[.slice base es.length cap,a.eval y]).run C.P w=.ok v w' ∧
   St C.n C.w0 C.F g' ⟨(d,.vecp d ie.size ty0 es)::(dB D ⟨sl,ob⟩).sl,(dB D ⟨sl,ob⟩).ob⟩ (a.put (some d) v) w':=by
 obtain ⟨u,h1,h2⟩:=cv C.good hi
 have h3:=dO (h2.trans hik)
 subst h3
 obtain ⟨info,hf1,hf2,hf3,z,hf4,hf5⟩:=jq C.good hie
 obtain ⟨news,hsrc,hnews⟩:=hS g a w hs
 have hfit:=growslice_fits (bytes:=ie.bytes) hg hlen
 have hrun:=run_append_grow_src w t tx ty e info z h1 hf1 hf4 base es.length cap olds (by rw [hf2]; exact hold) (a.eval y) ys.length news (by rw [hf2]; exact hsrc) hg O (by rw [hf3]; exact hfit)
 obtain ⟨q,hq⟩:∃ q,q=grownCap w (es.length+ys.length) cap e:=⟨_,rfl⟩
 rw [← hq] at hrun
 have hqn:es.length+ys.length≤q:=by
  rw [hq]; unfold grownCap; simp only [Question.cut]; omega
 have hzs:z.cells.size=ie.size:=by rw [← hzl,← hf5,Array.length_toList]
 obtain ⟨c,hc⟩:∃ c,c=(olds++news).toArray++Builtin.zeroCells z.cells (q - (es.length+ys.length)):=⟨_,rfl⟩
 rw [← hc] at hrun
 have hcs:c.size=q*ie.size:=by
  rw [hc]
  simp only [Array.size_append,List.size_toArray,List.length_append,hol,hsrc.newsLen,size_zeroCells,hzs]
  rw [← Nat.add_mul,← Nat.add_mul]; congr 1; omega
 have hget:∀ m,m < es.length*ie.size→c[m]? = olds[m]?:=by
  intro m hm
  rw [hc,Array.getElem?_append]
  simp only [List.size_toArray,List.length_append,hol,hsrc.newsLen]
  rw [if_pos O,List.getElem?_toArray,List.getElem?_append,hol,if_pos hm]
 have hf:=hs.drew.fresh D hDl d hDd (λ o=>o < es.length*ie.size) c e
 have hv:ARep (w.drew.alloc (.cells c e)) ⟨λ b o=>g.st b o∨(b=w.drew.heap.size∧o < es.length*ie.size),λ i=>if i=d then some w.drew.heap.size else if D i then none else g.ow i⟩
   (.vec d ie.size ty0 es) (.slice (some ⟨w.drew.heap.size,0,none⟩) es.length q):=by
  refine Bn G gv hcs O hes (λ o=>⟨λ h=>?_,λ h=>.inr ⟨Z,h⟩⟩) (λ i y j x hy hx=>?_) hty
  ·rcases h with h | h
   ·exact absurd (hs.lt _ _ h) (Nat.lt_irrefl _)
   ·exact h.2
  ·have hev:=j3 (w:=w.drew) (T:=λ o=>o < es.length*ie.size) (ob:=.cells c e) hs.drew.lt
   have hcl:=hes y (List.mem_of_getElem? hy)
   have hjl:j < ie.size:=by rw [← hcl]; exact (List.getElem?_eq_some_iff.1 hx).1
   have hil:i < es.length:=(List.getElem?_eq_some_iff.1 hy).1
   have hm1:(i+1)*ie.size≤es.length*ie.size:=Nat.mul_le_mul_right _ O
   rw [Nat.add_mul] at hm1
   obtain ⟨k1,u,hu,hr⟩:=hoc i y j x hy hx
   refine ⟨k1,u,?_,(PRep.mono (w:=w) (w':=w.drew) (st:=g.st) (st':=g.st) (λ b o h=>⟨h,Z⟩) hr).mono hev⟩
   rw [hget _ O]; exact hu
 have hp:=hf.put (d:=some d) (λ t ht=>by cases ht; exact Nat.blt_eq ▸ hn) (xV hv O)
 rw [hy1] at hrun
 exact ⟨_,_,_,hrun,hp⟩
theorem wk {t tx e:TypeId}{x y:Operand}{k sz ty:Nat}{es:List PV}{ys:List PV}{i ie:TI}(ho:o.op=.call { callee:=.builtin .append,args:=#[x,y],argTypes:=#[t,tx] })(hd:o.dst=some d)(hn:Nat.blt d C.n=true)
  (hi:look C.tt t=some i) (hik:i.k=.slice e) (hie:look C.tt e=some ie) (hx:evo sl x=some (.vec k sz ty es)) (hk:Nat.blt k M1=true) (hiz:ie.size=sz) (hy1:ys.length=1)
  (hS:tL C sl ob tx y ie.size ys) (hsz:∀ y∈ys,y.cells.length=ie.size) (h0:Nat.blt 0 ie.size=true) (hzl:Nat.beq ie.zero.length ie.size=true)
  (hlen:(es.length+1)*ie.bytes≤140737488355328) (hlen':es.length+1≤9223372036854775807) (hty:(Nat.beq ty 0||Nat.beq ty (e+1))=true)
  (hK:K ⟨(d,.vecp d sz ty es)::(dB (λ i=>Nat.beq i k||Nat.beq i d) ⟨sl,ob⟩).sl,(dB (λ i=>Nat.beq i k||Nat.beq i d) ⟨sl,ob⟩).ob⟩):bq C o K ⟨sl,ob⟩:=by
 subst hiz
 rw [← hy1] at hlen hlen'
 have h0':0 < ie.size:=by simpa using h0
 have hzl':=Nat.eq_of_beq_eq_true hzl
 have hk':k < M1:=Nat.blt_eq ▸ hk
 have hdl:d < M1:=by have h1:=Nat.le_of_ble_eq_true C.nl; have h2:d < C.n:=Nat.blt_eq ▸ hn; omega
 have hty':=Bq hty
 have hDl:∀ i,(Nat.beq i k||Nat.beq i d)=true→i < M1:=by
  intro i hi
  simp only [Bool.or_eq_true] at hi
  rcases hi with hi | hi <;> (have:=Nat.eq_of_beq_eq_true hi; omega)
 intro g a w hs
 have hxr:=cb hs hx
 generalize hxv:a.eval x=xv at hxr
 have hrun0:∀ v w',(Builtin.append_ #[t,tx] o.type #[xv,a.eval y]).run C.P w=.ok v w'→(execOp a.eval o).run C.P w=.ok (.value v) w':=by
  intro v w' h
  rw [iu ho]
  simp [builtin,hxv,h]
 cases hxr with
 | vecn =>
  obtain ⟨v,w',g',hr,hst⟩:=kJ ty (es:=[]) (λ i=>Nat.beq i k||Nat.beq i d) hDl G hy1 hi hik hie hS hzl' (by simpa using hlen) (by simpa using hlen') hs none 0 []
   (run_firstCells_none w.drew ie.size 0 0 0) G G G (by simp [hy1]) o.type hn hty'
  unfold Oper.wp
  rw [hrun0 _ _ hr]
  simp only [Oper.upon,hd]
  exact ⟨g',_,hst,hK⟩
 | vece tok sz a0 =>
  obtain ⟨v,w',g',hr,hst⟩:=kJ 0 (es:=[]) (λ i=>Nat.beq i k||Nat.beq i d) hDl G hy1 hi hik hie hS hzl' (by simpa using hlen) (by simpa using hlen') hs (some a0) 0 []
   (run_firstCells_some w.drew ie.size 0 a0 0 0 [] G G) G G G (by simp [hy1]) o.type hn hty'
  unfold Oper.wp
  rw [hrun0 _ _ hr]
  simp only [Oper.upon,hd]
  exact ⟨g',_,hst,hK⟩
 | vec how hb hcs hsz' hst hr hty0 =>
  rename_i b off cap c e0
  have hinv:=pA hsz' hb hr
  have hcapE:es.length≤cap:=by cases hr with | nile _=>exact Nat.le_refl _ | slice _ _ hcap=>exact hcap
  by_cases hroom:es.length+ys.length≤cap
  ·obtain ⟨u,h1,h2⟩:=cv C.good hi
   have h3:=dO (h2.trans hik)
   subst h3
   obtain ⟨info,hf1,hf2,hf3,z,hf4,hf5⟩:=jq C.good hie
   obtain ⟨news,hsrc,hnews⟩:=hS g a w hs
   have hfit:(off+es.length*ie.size)+news.length≤c.size:=by
    rw [hsrc.newsLen,hcs,Nat.add_assoc,← Nat.add_mul]; exact Nat.add_le_add_left (Nat.mul_le_mul_right _ hroom) _
   have hstc:=run_storeCells_at C.P b (off+es.length*ie.size) e0 news 0 c w hb (by simpa using hfit) hsrc.one
   simp only [Nat.add_zero] at hstc
   obtain ⟨c',hc'⟩:∃ c',c'=(c.toList.take (off+es.length*ie.size)++news++c.toList.drop (off+es.length*ie.size+news.length)).toArray:=⟨_,rfl⟩
   rw [← hc'] at hstc
   have hrr:=lh t tx o.type e info h1 hf1 b off es.length cap (a.eval y) ys.length news (by rw [hf2]; exact hsrc) hroom (by rw [hf2]; exact hstc)
   have hcell:∀ j,c'[j]? = if off+es.length*ie.size≤j∧j < off+es.length*ie.size+news.length then news[j - (off+es.length*ie.size)]? else c[j]?:=by
    intro j
    rw [hc']
    have:=j8 c.toList news (off+es.length*ie.size) (by simpa using hfit) j
    simpa using this
   have hcs':c'.size=off+cap*ie.size:=by rw [← hcs,hc']; simp; omega
   have hin:=hs.inplace (λ i=>Nat.beq i k||Nat.beq i d) hDl (k:=k) (d:=d) how G G  hb (c':=c') (hcs'.trans hcs.symm) (λ o h=>by
    have:=(hst o).1 h
    rw [hcell o,if_neg O]) (λ o=>o < off+es.length*ie.size) (λ o h=>(hst o).1 h)
   have hEv:Ev w g.st (w.setRow b c') (λ b' o=>(b'=b∧o < off+es.length*ie.size)∨(b'≠b∧g.st b' o)):=by
    intro b' o h
    by_cases e:b'=b
    ·subst e
     have h5:=(hst o).1 h
     refine ⟨.inl ⟨Z,h5⟩,?_⟩
     simp only [World.cell?,hb,setRow_heap w b' c c' _ (0,0) hb]
     have:=hcell o
     rw [if_neg O] at this
     simpa using this
    ·exact ⟨.inr ⟨e,h⟩,by simp only [World.cell?,setRow_other w b b' c' e]⟩
   have hv:ARep (w.setRow b c') ⟨λ b' o=>(b'=b∧o < off+es.length*ie.size)∨(b'≠b∧g.st b' o),λ i=>if i=d then some b else if (Nat.beq i k||Nat.beq i d) then none else g.ow i⟩
     (.vec d ie.size ty es) (.slice (some ⟨b,off,none⟩) es.length cap):=by
    refine rk G (setRow_heap w b c c' e0 (0,0) hb) hcs' hcapE hsz' (λ o=>⟨λ h=>?_,λ h=>.inl ⟨Z,h⟩⟩) (λ i y j x hy hx=>?_) hty0
    ·rcases h with h | h
     ·exact h.2
     ·exact absurd Z h.1
    ·have hcl:=hsz' y (List.mem_of_getElem? hy)
     have hjl:j < ie.size:=by rw [← hcl]; exact (List.getElem?_eq_some_iff.1 hx).1
     have hil:i < es.length:=(List.getElem?_eq_some_iff.1 hy).1
     obtain ⟨k1,u,hu,hr⟩:=hinv i y j x hy hx
     have hm2:(i+1)*ie.size≤es.length*ie.size:=Nat.mul_le_mul_right _ O
     rw [Nat.add_mul] at hm2
     refine ⟨k1,u,?_,hr.mono hEv⟩
     rw [hcell,if_neg O]; exact hu
   have hp:=hin.put (d:=some d) (λ t ht=>by cases ht; exact Nat.blt_eq ▸ hn) (xV hv O)
   rw [hy1] at hrr
   unfold Oper.wp
   rw [hrun0 _ _ hrr]
   simp only [Oper.upon,hd]
   exact ⟨_,_,hp,hK⟩
  ·obtain ⟨olds,hol,hocell⟩:∃ olds:List Value,olds.length=es.length*ie.size∧∀ m,m < es.length*ie.size→olds[m]? = c[off+m]? :=
    ⟨((c.toList.drop off).take (es.length*ie.size)),by
     rw [List.length_take,List.length_drop,show c.toList.length=off+cap*ie.size from Array.length_toList.trans hcs]
     have:=Nat.mul_le_mul_right ie.size hcapE; omega,λ m hm=>by rw [List.getElem?_take,if_pos hm,List.getElem?_drop,Array.getElem?_toList]⟩
   have hold:(Builtin.firstCells ie.size es.length (.slice (some ⟨b,off,none⟩) es.length cap)).run C.P w.drew=.ok olds.toArray w.drew:=by
    refine run_firstCells_some w.drew ie.size es.length ⟨b,off,none⟩ es.length cap olds hol (λ j v hv=>?_)
    have hj:j < es.length*ie.size:=by rw [← hol]; exact (List.getElem?_eq_some_iff.1 hv).1
    rw [add_lit,World.cell?_drew]
    simp only [World.cell?,hb]
    rw [← hocell j hj]; simpa using hv
   obtain ⟨v,w',g',hr',hst'⟩:=kJ ty (es:=es) (λ i=>Nat.beq i k||Nat.beq i d) hDl G hy1 hi hik hie hS hzl' hlen hlen' hs (some ⟨b,off,none⟩) cap olds
    hold hol hsz' (λ i y j x hy hx=>by
     obtain ⟨k1,u,hu,hr⟩:=hinv i y j x hy hx
     have hi:i < es.length:=(List.getElem?_eq_some_iff.1 hy).1
     have hj:j < ie.size:=by rw [← hsz' y (List.mem_of_getElem? hy)]; exact (List.getElem?_eq_some_iff.1 hx).1
     have hm2:(i+1)*ie.size≤es.length*ie.size:=Nat.mul_le_mul_right _ O
     rw [Nat.add_mul] at hm2
     exact ⟨k1,u,by rw [hocell _ O,← Nat.add_assoc]; exact hu,hr⟩) O o.type hn hty'
   unfold Oper.wp
   rw [hrun0 _ _ hr']
   simp only [Oper.upon,hd]
   exact ⟨g',_,hst',hK⟩
theorem pk {α:Type}(f:α→PV)(l0:List α){z:PV}{t tx e e':TypeId}{x y:Operand}{k sz ty:Nat}{i ie j:TI}(ho:o.op=.call { callee:=.builtin .append,args:=#[x,y],argTypes:=#[t,tx] })(hd:o.dst=some d)(hn:Nat.blt d C.n=true)
  (hi:look C.tt t=some i) (hik:i.k=.slice e) (hie:look C.tt e=some ie) (hj:look C.tt tx=some j) (hjk:j.k=.slice e') (hx:evo sl x=some (.vec k sz ty (l0.map f))) (hk:Nat.blt k M1=true) (hiz:ie.size=sz)
  (hy:evo sl y=some (.p (eL (λ x:PV=>x) [z]))) (hsz:Nat.beq z.cells.length ie.size=true) (h0:Nat.blt 0 ie.size=true) (hzl:Nat.beq ie.zero.length ie.size=true) (hby:Nat.blt 0 ie.bytes=true)
  (hty:(Nat.beq ty 0||Nat.beq ty (e+1))=true) (hlen:(l0.length+1)*ie.bytes≤140737488355328)
  (hK:K ⟨(d,.vecp d sz ty (l0.map f))::(dB (λ i=>Nat.beq i k||Nat.beq i d) ⟨sl,ob⟩).sl,(dB (λ i=>Nat.beq i k||Nat.beq i d) ⟨sl,ob⟩).ob⟩):bq C o K ⟨sl,ob⟩:=by
 have hby':1≤ie.bytes:=Nat.succ_le_of_lt (by simpa using hby)
 have h1:(l0.length+1)*1≤(l0.length+1)*ie.bytes:=Nat.mul_le_mul_left _ hby'
 have hs':∀ y∈[z],y.cells.length=ie.size:=λ y hy=>by rw [List.mem_singleton.1 hy]; exact Nat.eq_of_beq_eq_true hsz
 exact wk (ys:=[z]) ho hd hn hi hik hie hx hk hiz Z (mx hj hjk hy Z hs' (by simpa using h0)) hs' h0 hzl (by rw [List.length_map]; exact hlen) (by rw [List.length_map]; omega) hty hK
theorem nE {t e:TypeId}{x y:Operand}{i ie:TI}{tok sz ty:Nat}{es:List PV}{k:IntKind}{n:Int}(ho:o.op=.indexAddr t x y)(hd:o.dst=some d)(hn:Nat.blt d C.n=true)
  (hi:look C.tt t=some i) (hik:i.k=.slice e) (hie:look C.tt e=some ie) (hiz:ie.size=sz) (hx:evo sl x=some (.vecp tok sz ty es)) (hy:evo sl y=some (.p (.val (.int k n)))) (hnn:n=(es.length:Int))
  (hK:K ⟨(d,.elp tok sz)::sl,ob⟩):bq C o K ⟨sl,ob⟩:=by
 subst hiz hnn
 obtain ⟨u,h1,h2⟩:=cv C.good hi
 have h3:=dO (h2.trans hik)
 subst h3
 refine ok_one hd hn (λ g a w hs=>?_) hK
 have h5:=cb hs hx
 generalize hv:a.eval x=v at h5
 cases h5 with
 | vecp how hb hcs hcap hsz hst hr hty =>
  rename_i b off cap c e0
  refine ⟨.pointer (some ⟨b,off+es.length*ie.size,none⟩),?_,.elp how hb ?_ hst⟩
  ·have h6:(es.length:Int) < ((es.length+1:Nat):Int):=by omega
   simp [execOp,ho,hv,ct hs hy,Instr.indexAt,asIntOf,run_underlying h1,h6,run_sizeOf C.good hie,add_lit]
  ·rw [hcs]
   have:=Nat.mul_le_mul_right ie.size hcap
   rw [Nat.add_mul,Nat.one_mul] at this
   omega
def upP (tok sz:Nat)(z:PV)(x:AV):AV:=match x with
 | .vecp t s ty es=>bif Nat.beq t tok&&Nat.beq s sz then .vec t s ty (es++[z]) else .undef
 | x=>x.dem (Nat.beq · tok)
def upPS (tok sz:Nat)(z:PV):List (Nat×AV)→Option (List (Nat×AV))
 | []=>some []
 | (i,x)::r=>(match frc (upP tok sz z x) with
  | some y=>(match upPS tok sz z r with | some l=>some ((i,y)::l) | none=>none)
  | none=>none)
def BU (tok sz:Nat)(z:PV):List AV→Option (List AV)
 | []=>some []
 | x::r=>(match frc (upP tok sz z x) with
  | some y=>(match BU tok sz z r with | some l=>some (y::l) | none=>none)
  | none=>none)
theorem xW {tok sz:Nat}{z:PV}:∀ {l l':List AV},BU tok sz z l=some l'→l'=l.map (upP tok sz z)
 | [],l',h=>by cases h; rfl
 | x::r,l',h=>by
  unfold BU at h
  split at h
  ·rename_i y hy
   split at h
   ·rename_i m hm; cases h; rw [w3 hy,xW hm]; rfl
   ·cases h
  ·cases h
def zB (tok sz:Nat)(z:PV):List (Nat×List AV)→Option (List (Nat×List AV))
 | []=>some []
 | (i,cs)::r=>(match Nat.beq i tok with
  | true=>zB tok sz z r
  | false=>(match BU tok sz z cs with
   | some ds=>(match zB tok sz z r with | some l=>some ((i,ds)::l) | none=>none)
   | none=>none))
theorem pL {tok sz:Nat}{z:PV}:∀ {l l':List (Nat×List AV)},zB tok sz z l=some l'→∀ id cs,look l' id=some cs→id≠tok∧∃ ds,look l id=some ds∧cs=ds.map (upP tok sz z)
 | [],l',h,id,cs,hc=>by cases h; cases hc
 | (i,xs)::r,l',h,id,cs,hc=>by
  unfold zB at h
  split at h
  ·rename_i hb
   obtain ⟨h1,ds,h2,h3⟩:=pL h id cs hc
   have hi:=Nat.eq_of_beq_eq_true hb
   refine ⟨h1,ds,?_,h3⟩
   rw [bp,if_neg (λ e'=>h1 O)]
   exact h2
  ·rename_i hb
   have hi:i≠tok:=λ e=>by subst e; simp at hb
   split at h
   ·rename_i ds hds
    split at h
    ·rename_i m hm
     cases h
     rw [bp] at hc ⊢
     by_cases e1:i=id
     ·subst e1
      rw [if_pos rfl] at hc ⊢
      cases hc
      exact ⟨hi,xs,Z,xW hds⟩
     ·rw [if_neg e1] at hc ⊢
      exact pL hm id cs hc
    ·cases h
   ·cases h
theorem uI {t:TypeId}{x v:Operand}{i:TI}{tok sz:Nat}{z:PV}{sl':List (Nat×AV)}{ob':List (Nat×List AV)}(ho:o.op=.store t x v)(hd:o.dst=none)
  (hi:look C.tt t=some i) (hiz:i.size=sz) (hx:evo sl x=some (.elp tok sz)) (hv:evo sl v=some (.p z)) (hc:(AV.p z).cellsA=some (z.cells.map .p)) (hcl:Nat.beq z.cells.length sz=true) (htok:Nat.blt tok M1=true)
  (h1:sl'=sl.map λ p=>(p.1,upP tok sz z p.2)) (h2:zB tok sz z ob=some ob') (hK:K ⟨sl',ob'⟩):bq C o K ⟨sl,ob⟩:=by
 subst hiz h1
 have htl:tok < M1:=Nat.blt_eq ▸ htok
 have hcl':=Nat.eq_of_beq_eq_true hcl
 intro g a w hs
 have h5:=cb hs hx
 have h6:=cb hs hv
 obtain ⟨hs1,hs2⟩:=jw hc h6
 rw [List.length_map] at hs1
 generalize hev:a.eval x=u at h5
 cases h5 with
 | elp how k2 hp hst =>
  rename_i b p c e
  have hone:∀ u∈(a.eval v).cells.toList,u.oneCell'=true:=by
   intro u hu
   obtain ⟨j,hj,rfl⟩:=List.getElem_of_mem hu
   simp only [Array.length_toList] at hj
   exact (hs2 j ((z.cells.map AV.p)[j]'(by simp; omega)) _ (List.getElem?_eq_getElem (by simp; omega)) (by simp [hj])).2
  have hstc:=run_storeCells_at C.P b p e (a.eval v).cells.toList 0 c w k2 (by simp; omega) hone
  simp only [Nat.add_zero,Array.length_toList] at hstc
  obtain ⟨c',hc'⟩:∃ c',c'=(c.toList.take p++(a.eval v).cells.toList++c.toList.drop (p+(a.eval v).cells.size)).toArray:=⟨_,rfl⟩
  rw [← hc'] at hstc
  have hsz':=run_sizeOf C.good hi w
  have hne:(a.eval v).cells.size=i.size:=hs1.trans hcl'
  unfold Oper.wp
  have hrun:(execOp a.eval o).run C.P w=.ok .skip (w.setRow b c'):=by
   simp [execOp,ho,hev,Instr.storeAt,Instr.sureAddr,storeVar,hsz',hne,hstc]
  rw [hrun]
  simp only [Oper.upon,hd,Act.put]
  have hcell:∀ j,c'[j]? = if p≤j∧j < p+i.size then (a.eval v).cells[j - p]? else c[j]?:=by
   intro j
   rw [hc']
   have:=j8 c.toList (a.eval v).cells.toList p (by simp; omega) j
   simp only [Array.length_toList,Array.getElem?_toList,hne] at this
   simpa [hne] using this
  have hsize':c'.size=c.size:=by
   rw [hc']; simp; omega
  obtain ⟨g',hg'⟩:∃ g':Gh,g'=⟨λ b' o=>(b'=b∧o < p+i.size)∨(b'≠b∧g.st b' o),g.ow⟩:=⟨_,rfl⟩
  have hst':∀ b' o,g'.st b' o↔(b'=b∧o < p+i.size)∨(b'≠b∧g.st b' o):=λ b' o=>by rw [hg']
  have how':g'.ow=g.ow:=by rw [hg']
  have hev':Ev w g.st (w.setRow b c') g'.st:=by
   intro b2 o2 h2
   by_cases e1:b2=b
   ·subst e1
    have:=(hst o2).1 h2
    refine ⟨(hst' _ _).2 (.inl ⟨Z,by omega⟩),?_⟩
    simp only [World.cell?,k2,setRow_heap w b2 c c' e (0,0) k2]
    have h7:=hcell o2
    rw [if_neg O] at h7
    simpa using h7
   ·exact ⟨(hst' _ _).2 (.inr ⟨e1,h2⟩),by simp only [World.cell?,setRow_other w b b2 c' e1]⟩
  have hnb:∀ id b2,Nat.beq id tok=false→g.ow id=some b2→b2≠b:=λ id b2 hD h e=>by
   subst e
   have:=hs.inj id tok b2 h how
   subst this
   simp at hD
  have hE:EvO (Nat.beq · tok) w g (w.setRow b c') g':=by
   refine ⟨hev',λ id b2 _ h=>by rw [how']; exact h,λ id b2 c2 e2 hD h h2=>⟨c2,(setRow_other w b b2 c' (hnb id b2 hD h)).trans h2,Z⟩,λ id b2 o2 hD h h3=>?_,λ id b2 es2 k2' hD h h2=>(setRow_other w b b2 c' (hnb id b2 hD h)).trans h2,λ i hi=>?_,λ id b2 o2 hD h _=>setRow_other w b b2 c' (hnb id b2 hD h)⟩
   ·rcases (hst' _ _).1 h3 with h4 | h4
    ·exact absurd h4.1 (hnb id b2 hD h)
    ·exact h4.2
   ·cases hq:Nat.beq i tok
    ·rfl
    ·have:=Nat.eq_of_beq_eq_true hq; have:=vF hi; omega
  have hup:∀ {y:AV} {u:Value},ARep w g y u→ARep (w.setRow b c') g' (upP tok i.size z y) u:=by
   intro y u h
   unfold upP
   split
   ·rename_i t s ty es
    cases hq:(Nat.beq t tok&&Nat.beq s i.size)
    ·exact .undef _
    ·simp only [Bool.and_eq_true] at hq
     have e1:=Nat.eq_of_beq_eq_true hq.1
     have e2:=Nat.eq_of_beq_eq_true hq.2
     subst e1 e2
     rw [cond_true]
     cases h with
     | vecp how2 hb2 hcs2 hcap2 hsz2 hst2 hr2 hty2 =>
      rename_i b2 off cap c2 e2
      rw [how] at how2; cases how2
      rw [k2] at hb2; cases hb2
      have hpo:p=off+es.length*i.size:=by
       rcases Nat.lt_trichotomy p (off+es.length*i.size) with h7 | h7 | h7
       ·have:=(hst p).1 ((hst2 p).2 h7); omega
       ·exact h7
       ·have:=(hst2 (off+es.length*i.size)).1 ((hst _).2 h7); omega
      have hinv:=pA hsz2 k2 hr2
      have hlen:(es++[z]).length=es.length+1:=by simp
      have:=rk (w:=w.setRow b c') (g:=g') (tok:=t) (es:=es++[z]) (cap:=cap) (by rw [how']; exact how) (setRow_heap w b c c' e (0,0) k2) (hsize'.trans hcs2) (by rw [hlen]; exact hcap2) (λ x hx=>by
       rcases List.mem_append.1 hx with hx | hx
       ·exact hsz2 x hx
       ·rw [List.mem_singleton.1 hx]; exact hcl') (λ o=>by
       rw [hst',hlen,Nat.add_mul,Nat.one_mul]
       exact ⟨λ h=>h.elim (λ h=>by omega) (λ h=>absurd Z h.1),λ h=>.inl ⟨Z,by omega⟩⟩) (λ k y j x hy hx=>?_) hty2
      ·rw [hlen] at this; exact this
      ·have hcl2:y.cells.length=i.size:=by
        rcases List.mem_append.1 (List.mem_of_getElem? hy) with hx | hx
        ·exact hsz2 y hx
        ·rw [List.mem_singleton.1 hx]; exact hcl'
       have hjl:j < i.size:=by rw [← hcl2]; exact (List.getElem?_eq_some_iff.1 hx).1
       rw [List.getElem?_append] at hy
       split at hy
       ·rename_i hlt
        obtain ⟨q1,u,hu,hr⟩:=hinv k y j x hy hx
        have hm2:(k+1)*i.size≤es.length*i.size:=Nat.mul_le_mul_right _ O
        rw [Nat.add_mul] at hm2
        refine ⟨q1,u,?_,hr.mono hev'⟩
        rw [hcell,if_neg O]; exact hu
       ·rename_i hge
        have hk0:k - es.length=0:=by
         have:=(List.getElem?_eq_some_iff.1 hy).1
         simp at this; omega
        rw [hk0] at hy
        simp only [List.getElem?_cons_zero,Option.some.injEq] at hy
        subst hy
        have hke:k=es.length:=by omega
        subst hke
        have hjc:j < (a.eval v).cells.size:=by omega
        have h8:=hs2 j (.p x) _ (by simp [hx]) (Array.getElem?_eq_getElem hjc)
        refine ⟨?_,(a.eval v).cells[j],?_,?_⟩
        ·have h9:PV.onesB z.cells=true∨z.one=true:=by
          cases z with
          | agg cs =>
           simp only [AV.cellsA] at hc
           cases ho:PV.onesB cs
           ·rw [ho] at hc; cases hc
           ·exact .inl ho
          | val _ =>
           simp only [AV.cellsA] at hc
           rename_i v0
           cases ho:v0.oneCell'
           ·rw [ho] at hc; cases hc
           ·exact .inr ho
          | slice _=>exact .inr Z
          | ifc=>exact .inr Z
          | aint _=>exact .inr Z
         rcases h9 with h9 | h9
         ·exact gQ h9 x (List.mem_of_getElem? hx)
         ·have:z.cells=[z]:=by cases z <;> first | rfl | (simp [PV.one] at h9)
          rw [this] at hx
          have:=(List.getElem?_eq_some_iff.1 hx).1
          simp at this
          subst this
          simp at hx
          rw [← hx]; exact h9
        ·rw [hcell,if_pos ⟨by omega,by omega⟩,hpo]
         rw [show off+es.length*i.size+j - (off+es.length*i.size)=j by omega]
         exact Array.getElem?_eq_getElem hjc
        ·cases h8.1 with
         | p hr=>exact hr.mono hev'
   ·exact h.dem hE
  refine ⟨g',⟨sl.map λ p=>(p.1,upP tok i.size z p.2),ob'⟩,?_,hK⟩
  refine ⟨hs.nd,hs.sz,λ j=>?_,λ id' cs' h'=>?_,by rw [how']; exact hs.inj,λ j b2 h=>?_,λ b2 o2 h=>?_,hs.fl,λ b2 h=>?_,hs.os,hs.out,hs.tape,?_,λ b2 h o2=>?_,by rw [how']; exact hs.owf,hs.shf.next (λ _ b c e _ _ h=>(nV k2 hsize').1 b c e h),λ j b2 hj h o2 h3=>?_,hs.ev0.trans hev'⟩
  ·have h:=hs.sl j
   simp only [AS.get,jF]
   simp only [AS.get] at h
   cases hl:look sl j with
   | none=>simp only [Option.map_none,Option.getD_none]; exact .undef _
   | some x=>rw [hl] at h; simpa using hup h
  ·obtain ⟨hne',ds,m1,rfl⟩:=pL h2 id' cs' h'
   obtain ⟨b2,c2,e2,n1,n2,n3,n4,n5⟩:=hs.ob id' ds m1
   have hD:Nat.beq id' tok=false:=by
    cases hq:Nat.beq id' tok
    ·rfl
    ·exact absurd (Nat.eq_of_beq_eq_true hq) hne'
   have hb2:=hnb id' b2 hD n1
   refine ⟨b2,c2,e2,by rw [how']; exact n1,(setRow_other w b b2 c' hb2).trans n2,by simpa using n3,λ o2 h3=>?_,λ j y hy=>?_⟩
   ·rcases (hst' _ _).1 h3 with h4 | h4
    ·exact hb2 h4.1
    ·exact n4 o2 h4.2
   ·simp only [List.getElem?_map,Option.map_eq_some_iff] at hy
    obtain ⟨y0,hy0,rfl⟩:=hy
    obtain ⟨u,hu,hr⟩:=n5 j y0 hy0
    exact ⟨u,hu,hup hr⟩
  ·rw [how'] at h
   have:=hs.own j b2 h; exact ⟨by simpa using this.1,this.2⟩
  ·rcases (hst' _ _).1 h with h4 | h4
   ·have:=(hs.own tok b how).1; rw [h4.1]; simpa using this
   ·have:=hs.lt b2 o2 h4.2; simpa using this
  ·have hne:b2≠b:=λ e=>(hs.own tok b how).2 (e ▸ h)
   exact (setRow_other w b b2 c' hne).trans (hs.fr b2 h)
  ·have:=hs.size; simpa using this
  ·have hne:b2≠b:=λ e=>(hs.own tok b how).2 (e ▸ h)
   exact ⟨λ h3=>by
    rcases (hst' _ _).1 h3 with h4 | h4
    ·exact absurd h4.1 hne
    ·exact (hs.stf b2 h o2).1 h4.2,λ h3=>(hst' _ _).2 (.inr ⟨hne,(hs.stf b2 h o2).2 h3⟩)⟩
  ·rcases (hst' _ _).1 h3 with h4 | h4
   ·have h7:g.ow j=some b2:=(hs.owf j hj (C.w0.lo j b2 h)).trans h
    have:=hs.inj j tok b2 h7 (by rw [h4.1]; exact how)
    omega
   ·exact hs.nst j b2 hj h o2 h4.2
end
def p9 (c:Nat)(imp:List Nat):fu→fu→Prop
 | (k,d,v)::r,(k',d',v')::r'=>(k=k'∧d=d'∧(imp.any (Nat.beq k)=true∨v c=v' c))∧p9 c imp r r'
 | [],[]=>True
 | _,_=>False
theorem qz {c:Nat}{imp:List Nat}:∀ {r1 r2:fu},p9 c imp r1 r2→∀ k p,imp.any (Nat.beq k)=false→cZ r2 k=some p→∃ v,cZ r1 k=some (p.1,v)∧v c=p.2 c
 | [],[],_,k,p,_,h=>by cases h
 | (k1,d1,v1)::r,(k2,d2,v2)::r',⟨⟨e1,e2,e3⟩,hr⟩,k,p,hk,h=>by
  subst e1 e2
  simp only [cZ] at h ⊢
  cases hb:Nat.beq k1 k
  ·rw [hb,cond_false] at h
   rw [cond_false]
   exact qz hr k p hk h
  ·rw [hb,cond_true] at h
   cases h
   rw [cond_true]
   have:=Nat.eq_of_beq_eq_true hb
   subst this
   exact ⟨v1,rfl,e3.resolve_left (by rw [hk]; exact λ h=>by cases h)⟩
 | [],_::_,h,_,_,_,_=>h.elim
 | _::_,[],h,_,_,_,_=>h.elim
theorem xN {C:Cx}{ops:Array Oper}{S1 S2:eV}{c k:Nat}{r1 r2:fu}{imp:List Nat}(h1:lks (dH r2 S2.m++S2.bas S2.m) ((dH r1 S1.m++S1.bas S1.m).map (·.1))=some ((dH r1 S1.m++S1.bas S1.m).map (·.2)))
  (h2:lkE (S1.obj S1.m) (S2.obj S2.m) (S1.obj S1.m)) (h3:p9 c imp r1 r2) :
  DS C ops S2 (λ rev2=>(⟨dH rev2 S2.m++S2.bas S2.m,S2.obj S2.m⟩:AS).le ⟨dH r1 S1.m++S1.bas S1.m,S1.obj S1.m⟩∧p9 c imp r1 rev2) [] k r2:=by
 refine ⟨⟨λ j x h=>?_,λ id cs h=>⟨cs,(xp h2 id cs h).trans h,Nat.le_refl _,λ i c d a b=>by rw [a] at b; cases b; exact AV.sub_refl _⟩⟩,h3⟩
 have:=uC h1 j x h
 unfold AS.get
 rw [this]
 exact AV.sub_refl _
theorem wN {C:Cx}{id:Nat}{ops:Array Oper}{Q:Exit→AS→Prop}{sl:List (Nat×AV)}{ob:List (Nat×List AV)}(S1 S2:eV){k0 k1 k2:Nat}{r:List Nat}(hm:C.P.follows .mixedOrders=true)
  (hi1:S1.imp=k0::k1::k2::r) (hi2:S2.imp=k0::k2::k1::r) (hlen1:S1.imp.length=S1.m) (hlen2:S2.imp.length=S2.m) (hob1:S1.obj 0=ob) (hob2:S2.obj 1=S1.obj 1) (hb:eu sl (S1.bas 0)) (hb2:S2.bas 1=S1.bas 1)
  (hbas1:∀ j,j < S1.m→eu (trL (S1.D j) (S1.bas j)) (S1.bas (j+1))) (hbas2:∀ j,j < S2.m→eu (trL (S2.D j) (S2.bas j)) (S2.bas (j+1)))
  (hnd:nodupB (k0::k1::k2::r)=true) (hin:(k0::k1::k2::r).all (λ i=>Nat.blt i ops.size)=true) (hch1:chainB ops (k0::k1::r)=true) (hch2:chainB ops (k0::k2::r)=true)
  (hord:(ops.toList.zipIdx.all λ p=>p.1.after.toList.all λ e=>!(Region.binds .any e)||Nat.blt e.on p.2)=true)
  (h:DS C ops S1 (λ rev1=>Q .normal ⟨dH rev1 S1.m++S1.bas S1.m,S1.obj S1.m⟩∧DS C ops S2 (λ rev2=>(⟨dH rev2 S2.m++S2.bas S2.m,S2.obj S2.m⟩:AS).le ⟨dH rev1 S1.m++S1.bas S1.m,S1.obj S1.m⟩∧p9 1 (k1::k2::r) rev1 rev2) ops.toList 0 []) ops.toList 0 []):awp C (.region id ops true) Q ⟨sl,ob⟩:=by
 intro g a w hs
 have hnd2:nodupB S2.imp=true:=by
  rw [hi2]
  simp only [nodupB,List.any_cons,Bool.not_or,Bool.and_eq_true,Bool.not_eq_true'] at hnd ⊢
  obtain ⟨⟨b1,b2,b3⟩,⟨a1,a2⟩,a3,a4⟩:=hnd
  refine ⟨⟨b2,b1,b3⟩,⟨?_,a3⟩,a2,a4⟩
  cases hq:Nat.beq k2 k1
  ·rfl
  ·rw [Nat.eq_of_beq_eq_true hq] at a1; rw [Nat.beq_refl] at a1; cases a1
 have hin2:S2.imp.all (λ i=>Nat.blt i ops.size)=true:=by
  rw [hi2]
  simp only [List.all_cons,Bool.and_eq_true] at hin ⊢
  exact ⟨hin.1,hin.2.2.1,hin.2.1,hin.2.2.2⟩
 obtain ⟨fin1,⟨hf1,h2⟩,hP1⟩:=vr.mk' hlen1 hbas1 (by rw [hi1]; exact hnd) (by rw [hi1]; exact hin) hord h
 obtain ⟨Ex,⟨hf2,hag⟩,hP2⟩:=vr.mk' hlen2 hbas2 hnd2 hin2 hord h2
 have chain:∀ (x y:Nat) (S:eV),S.imp=k0::x::y::r→chainB ops (k0::y::r)=true→chainB ops (k0::x::r)=true→∀ (listed:Array Bool) (j i q:Nat),wF ops S listed j→i∈Region.ready .any ops listed→S.imp[q]? = some i→j < q→q=2∧j=1:=by
  intro x y S hS hcy hcx listed j i q hI hi hq hjq
  obtain ⟨h1,o,ho,hafter⟩:=mem_ready.1 hi
  have use:∀ z zi,S.imp[z]? = some zi→kc ops 4 o zi=true→z < j:=by
   intro z zi hz hb
   exact (hI.2.1 z zi hz).1 (hZ hI.2.2 4 o zi hb hafter)
  match q,hq,hjq with
  | 0,_,hjq=>omega
  | 1,hq,hjq =>
   exfalso
   rw [hS] at hq
   have b1:=iI hcx 0 k0 i o Z (by simpa using hq) ho
   have:=use 0 k0 (by rw [hS]; rfl) b1
   omega
  | 2,hq,hjq =>
   rw [hS] at hq
   have b1:=iI hcy 0 k0 i o Z (by simpa using hq) ho
   have:=use 0 k0 (by rw [hS]; rfl) b1
   exact ⟨Z,by omega⟩
  | q+3,hq,hjq =>
   exfalso
   rw [hS] at hq
   simp only [List.getElem?_cons_succ] at hq
   have hql:q < r.length:=(List.getElem?_eq_some_iff.1 hq).1
   cases q with
   | zero =>
    have b1:=iI hcy 1 y i o Z (by simpa using hq) ho
    have:=use 2 y (by rw [hS]; rfl) b1
    omega
   | succ q =>
    have b1:=iI hcy (q+2) r[q] i o (by simp [List.getElem?_eq_getElem (show q < r.length by omega)]) (by simpa using hq) ho
    have:=use (q+3) r[q] (by rw [hS]; simp [List.getElem?_eq_getElem (show q < r.length by omega)]) b1
    omega
 have two:=lw hP2 hf2 hf1 2 (λ fuel listed g a w sl' j hj hat i q hi hq hjq=>by
  have:=chain k2 k1 S2 hi2 hch1 hch2 listed j i q hat.inv hi hq hjq; omega)
 refine wp_region_any hm ?_
 refine (lw hP1 (AS.le_refl _) hf1 0 ?_).1 _ _ g a _ sl 0 (Nat.zero_le _) (PAt.start hb (by rw [hob1]; exact hs.drew))
 intro fuel listed g a w sl' j _ hat i q hi hq hjq
 obtain ⟨rfl,rfl⟩:=chain k1 k2 S1 hi1 hch2 hch1 listed j i q hat.inv hi hq hjq
 have hik:i=k2:=by rw [hi1] at hq; simpa using hq.symm
 subst hik
 have hno:∀ k,(k1::i::r).any (Nat.beq k)=true→listed.getD k false=false:=by
  intro k hk
  obtain ⟨x,hx,hkx⟩:=List.any_eq_true.1 hk
  have:=Nat.eq_of_beq_eq_true hkx
  subst this
  obtain ⟨z,hz⟩:=List.mem_iff_getElem?.1 hx
  have:=hat.inv.2.1 (z+1) k (by rw [hi1]; simpa using hz)
  cases hl:listed.getD k false with
  | false=>rfl
  | true=>have:=this.1 hl; omega
 have hm2:1≤S2.m:=by rw [← hlen2,hi2]; simp
 refine two.2 fuel listed g a w sl' 1 i (.inr ⟨Nat.le_refl _,by rw [hi2]; rfl⟩) hi ⟨hat.sz,hat.un,⟨hm2,λ z k hz=>?_,hat.inv.2.2⟩,⟨λ z x hx=>hat.kn.1 z x (by rw [← hb2]; exact hx),λ k p hk hp=>?_⟩,by rw [hob2]; exact hat.st⟩
 ·cases z with
  | zero =>
   have hz0:k=k0:=by rw [hi2] at hz; simpa using hz.symm
   subst hz0
   have:=hat.inv.2.1 0 k (by rw [hi1]; rfl)
   exact this
  | succ z =>
   constructor
   ·intro hl
    have hmem:k∈(k1::i::r):=by
     have:=List.mem_of_getElem? (show (i::k1::r)[z]? = some k by rw [hi2] at hz; simpa using hz)
     simp only [List.mem_cons] at this ⊢
     rcases this with h | h | h
     ·exact .inr (.inl h)
     ·exact .inl h
     ·exact .inr (.inr h)
    rw [hno k (List.any_eq_true.2 ⟨k,hmem,by simp⟩)] at hl
    cases hl
   ·intro h; omega
 ·have hk':(k1::i::r).any (Nat.beq k)=false:=by
   cases hq:(k1::i::r).any (Nat.beq k) with
   | false=>rfl
   | true=>rw [hno k hq] at hk; cases hk
  obtain ⟨v,hv1,hv2⟩:=qz hag k p hk' hp
  have:=hat.kn.2 k _ hk hv1
  rw [← hv2]; exact this
theorem mSP {C:Cx}{Q:Exit→AS→Prop}{k:List Fr}{ops:Array Oper}{sl:List (Nat×AV)}{ob:List (Nat×List AV)}(S1 S2:eV){id k0 k1 k2:Nat}{r:List Nat}(hm:C.P.follows .mixedOrders=true)
  (hi1:S1.imp=k0::k1::k2::r) (hi2:S2.imp=k0::k2::k1::r) (hlen1:S1.imp.length=S1.m) (hlen2:S2.imp.length=S2.m) (hob1:S1.obj 0=ob) (hob2:S2.obj 1=S1.obj 1) (hb:eu sl (S1.bas 0)) (hb2:S2.bas 1=S1.bas 1)
  (hbas1:∀ j,j < S1.m→eu (trL (S1.D j) (S1.bas j)) (S1.bas (j+1))) (hbas2:∀ j,j < S2.m→eu (trL (S2.D j) (S2.bas j)) (S2.bas (j+1)))
  (hnd:nodupB (k0::k1::k2::r)=true) (hin:(k0::k1::k2::r).all (λ i=>Nat.blt i ops.size)=true) (hch1:chainB ops (k0::k1::r)=true) (hch2:chainB ops (k0::k2::r)=true)
  (hord:(ops.toList.zipIdx.all λ p=>p.1.after.toList.all λ e=>!(Region.binds .any e)||Nat.blt e.on p.2)=true)
  (h:DS C ops S1 (λ rev1=>M C Q ⟨.ex .normal,k,⟨dH rev1 S1.m++S1.bas S1.m,S1.obj S1.m⟩⟩∧DS C ops S2 (λ rev2=>(⟨dH rev2 S2.m++S2.bas S2.m,S2.obj S2.m⟩:AS).le ⟨dH rev1 S1.m++S1.bas S1.m,S1.obj S1.m⟩∧p9 1 (k1::k2::r) rev1 rev2) ops.toList 0 []) ops.toList 0 []) :
  M C Q ⟨.cd (.region id ops true),k,⟨sl,ob⟩⟩ :=
 wN S1 S2 hm hi1 hi2 hlen1 hlen2 hob1 hob2 hb hb2 hbas1 hbas2 hnd hin hch1 hch2 hord h
end Go.Ab
end
section
namespace Go.Ab.R06
open Go.Proofs Go.Ab Go.Ab.RB
attribute [local irreducible] awp ge bq aK aW AV.sub M dc
def gR (n_0:Int):Option Bool :=
 (
   if (-9007199254740992)≤n_0 then
    some (decide (n_0≤9007199254740992))
   else
    some false
  : Option Bool).bind λ t2 =>
 some t2
theorem mg (n_0:Int)(r:Bool)(h0:gR n_0=some r):aK Tryz.prog 171 [eI n_0] (·=.p (eB r)):=by
 unfold gR at h0
 refine cB good Tryz.func171 Z Z Z λ w0=>mP (λ v:Bool=>.p (eB v)) ?_
 refine nx 5 Z (bd h0 λ o4 h1 h0=>?_)
 refine kN o4 (λ v5=>⟨[(2,.p (eB v5))],[]⟩) ?_ ?_
 ·exact nx 2 Z (mQ (oi h0) Z (sr))
 refine nx 4 Z (fD [4,5] h1 Z (λ c1 h1=>?_) λ c1 h1=>?_)
 ·exact nx 5 Z (eX _ (oi h1).symm (gE Z Z))
 exact nx 5 Z (eX _ (oi h1).symm (gE Z Z))
def bP (s7:Bytes):Nat→Int→Option (Unit⊕Bool)
 | 0,_=>none
 | m+1,t16 =>
 if t16 < (s7.length:Int) then
  (
    ck ((0:Int)≤t16∧t16 < (s7.length:Int)) <|
    if byt s7 t16 < 48 then
     some true
    else
     ck ((0:Int)≤t16∧t16 < (s7.length:Int)) <|
     some (decide (57 < byt s7 t16))
   : Option Bool).bind λ t21 =>
  if t21=true then
   some (.inr false)
  else
   ck (inR (t16+1)) <|
   bP s7 m (t16+1)
 else
  some (.inl ())
def dV (n:Nat)(s_0:Bytes):Option Bool :=
 jn (
   (
     if 0 < (s_0.length:Int) then
      ck ((0:Int)≤0∧0 < (s_0.length:Int)) <|
      some (decide (byt s_0 0=45))
     else
      some false
    : Option Bool).bind λ t3 =>
   if t3=true then
    ck ((0:Int)≤1∧1≤(s_0.length:Int)∧(s_0.length:Int)≤(s_0.length:Int)) <|
    if sub s_0 1 (s_0.length:Int)=([48]:Bytes) then
     some (.inr false)
    else
     some (.inl (sub s_0 1 (s_0.length:Int)))
   else
    some (.inl s_0)
  : Option (Bytes⊕Bool)) λ s7 =>
 jn (bP s7 n 0) λ q31 =>
 (
   if s7=([]:Bytes) then
    some false
   else
    ck ((0:Int)≤0∧0 < (s7.length:Int)) <|
    if byt s7 0=48 then
     some (decide ((s7.length:Int)=1))
    else
     some true
  : Option Bool).bind λ t28 =>
 some t28
theorem nM (n:Nat)(s_0:Bytes)(r:Bool)(h0:dV n s_0=some r):aK Tryz.prog 208 [eS s_0] (·=.p (eB r)):=by
 unfold dV at h0
 refine cB good Tryz.func208 Z Z Z λ w0=>mP (λ v:Bool=>.p (eB v)) ?_
 refine nx 5 Z ?_
 obtain ⟨o34,h1,hL0,hR0⟩:=dk h0
 refine kX (λ v35:Bytes=>o34=.inl v35) (λ v35=>⟨[(0,.p (eS v35))],[]⟩) (λ v35 hv=>?_) ?_
 ·have h0:=hL0 _ hv
  refine nx 5 Z (oLs Z ?_)
  refine nx 3 Z ?_
  obtain ⟨o36,h1,hL0,hR0⟩:=dk h0
  refine kEx 0 (λ v37:Unit=>o36=.inl v37) (λ v37=>⟨[(0,.p (eS v35))],[]⟩) (λ v37 hv=>?_) ?_
  ·have h0:=hL0 _ hv
   refine nx 2 Z (bd h0 λ o38 h1 h0=>?_)
   refine kN o38 (λ v39=>⟨[(2,.p (eB v39))],[]⟩) ?_ ?_
   ·exact nx 2 Z (mQ (oi h0) Z (sr))
   refine nx 2 Z (oS Z Z ?_)
   refine nx 1 Z (fN [33,34] h1 Z (λ c25 h1=>?_) λ c25 h1=>?_)
   ·exact nx 11 Z (eX _ (oi h1).symm (gE Z Z))
   refine nx 1 Z (oI h1 Z λ hk26 h1=>?_)
   refine nx 2 Z (fN [37,38] h1 Z (λ c27 h1=>?_) λ c27 h1=>?_)
   ·refine nx 1 Z (oLs Z ?_)
    exact nx 5 Z (eX _ (oi h1).symm (gE Z Z))
   exact nx 7 Z (eX _ (oi h1).symm (gE Z Z))
  refine lG (λ (q40:Int)=>⟨[(0,.p (eS v35)),(17,.p (eI (v35.length:Int))),(18,.p (eI q40))],[]⟩) (λ m (q40:Int)=>bP v35 m q40) Y 0 h1 (gE Z Z) ?_
  rintro m t16 h1
  replace h1:bP v35 (m+1) t16=some o36:=h1
  rw [bP] at h1
  refine nx 5 Z (fD [19] h1 Z (λ c17 h1=>?_) λ c17 h1=>?_)
  ·refine nx 10 Z (bd h1 λ o41 h2 h1=>?_)
   refine kN o41 (λ v42=>⟨[(0,.p (eS v35)),(17,.p (eI (v35.length:Int))),(18,.p (eI t16)),(30,.p (eB v42))],[]⟩) ?_ ?_
   ·refine nx 1 Z (fB [30] h1 Z (λ c22 h1=>?_) λ c22 h1=>?_)
    ·exact nx 6 Z (mQ (hR0 _ (oi h1).symm) Z (sr))
    refine nx 3 Z (oA h1 Z Z λ hk23 h1=>?_)
    exact nx 2 Z (eX (t16+1) h1 (gE Z Z))
   refine nx 3 Z (oI h2 Z λ hk18 h2=>?_)
   refine nx 2 Z (fD [24,25] h2 Z (λ c19 h2=>?_) λ c19 h2=>?_)
   ·exact nx 6 Z (eX _ (oi h2).symm (gE Z Z))
   refine nx 2 Z (oI h2 Z λ hk20 h2=>?_)
   exact nx 3 Z (eX _ (oi h2).symm (gE Z Z))
  exact nx 2 Z (eXi _ (oi h1).symm (gE Z Z))
 refine nx 1 Z (bd h1 λ o43 h2 h1=>?_)
 refine kN o43 (λ v44=>⟨[(0,.p (eS s_0)),(11,.p (eB v44))],[]⟩) ?_ ?_
 ·refine nx 1 Z (fB [11] h1 Z (λ c4 h1=>?_) λ c4 h1=>?_)
  ·refine nx 4 Z (oP h1 Z Z Z λ hk5 h1=>?_)
   refine nx 5 Z (oS Z Z ?_)
   refine nx 1 Z (fD [15] h1 Z (λ c6 h1=>?_) λ c6 h1=>?_)
   ·exact nx 6 Z (mQ (hR0 _ (oi h1).symm) Z (sr))
   exact nx 2 Z (eX _ (oi h1).symm (gE Z Z))
  exact nx 2 Z (eX _ (oi h1).symm (gE Z Z))
 refine nx 2 Z (oLs Z ?_)
 refine nx 2 Z (fD [6,7] h2 Z (λ c1 h2=>?_) λ c1 h2=>?_)
 ·refine nx 1 Z (oI h2 Z λ hk2 h2=>?_)
  exact nx 3 Z (eX _ (oi h2).symm (gE Z Z))
 exact nx 5 Z (eX _ (oi h2).symm (gE Z Z))
def fz (n:Nat)(s_0:Bytes):Option (Int×Int) :=
 (dV n s_0).bind λ r1 =>
 if (!r1)=true then
  some (0,2)
 else
  (gV s_0 10 64).bind λ r4 =>
  (
    if r4.2=true then
     some true
    else
     (gR r4.1).bind λ r7 =>
     some (!r7)
   : Option Bool).bind λ t9 =>
  if t9=true then
   some (0,5)
  else
   some (r4.1,0)
theorem qV (n:Nat)(s_0:Bytes)(r:Int×Int)(h0:fz n s_0=some r):aK Tryz.prog 196 [eS s_0] (·=.tuple [.p (eI r.1),.p (eI r.2)]):=by
 unfold fz at h0
 refine cB good Tryz.func196 Z Z Z λ w0=>mP (λ v:Int×Int=>.tuple [.p (eI v.1),.p (eI v.2)]) ?_
 refine nx 9 Z (bd h0 λ r1 e2 h0=>?_)
 refine oK (nM _ s_0 _ e2) Z ⟨sr,trivial⟩ Tryz.call208 Z (nx 2 Z ?_)
 refine fB [8] h0 Z (λ c3 h0=>?_) λ c3 h0=>?_
 ·exact nx 7 Z (mQ (oi h0) Z (aM ⟨sr,sr,trivial⟩))
 refine nx 5 Z (bd h0 λ r4 e5 h0=>?_)
 refine oK (nO s_0 10 64 _ e5) Z ⟨sr,sr,sr,trivial⟩ Tryz.call209 (zo (qI Z (qI (Dx _) wC))) (nx 8 Z ?_)
 refine bd h0 λ o12 h1 h0=>kN o12 (λ v13=>⟨[(4,.p (eI r4.1)),(20,.p (eB v13))],[]⟩) ?_ ?_
 ·refine nx 1 Z (fB [20] h0 Z (λ c10 h0=>?_) λ c10 h0=>?_)
  ·exact nx 7 Z (mQ (oi h0) Z (aM ⟨sr,sr,trivial⟩))
  exact nx 9 Z (mQ (oi h0) Z (aM ⟨sr,sr,trivial⟩))
 refine nx 2 Z (mO Z (DZ Z Z Z Z Z Z (.inr ⟨Z,Z⟩) ?_))
 refine nx 1 Z (fB [15,16] h1 Z (λ c6 h1=>?_) λ c6 h1=>?_)
 ·exact nx 5 Z (eX _ (oi h1).symm (gE Z Z))
 refine nx 1 Z (bd h1 λ r7 e8 h1=>?_)
 refine oK (mg r4.1 _ e8) Z ⟨sr,trivial⟩ Tryz.call171 Z (nx 3 Z ?_)
 exact eX _ (oi h1).symm (gE Z Z)
def bM (s_0:Bytes):Nat→Int→Int→Option (Int×Int)
 | 0,_,_=>none
 | m+1,n11,i12 =>
 (
   if i12 < (s_0.length:Int) then
    some (decide (i12 < 6))
   else
    some false
  : Option Bool).bind λ t14 =>
 if t14=true then
  ck ((0:Int)≤i12∧i12 < (s_0.length:Int)) <|
  (strings_IndexByte ([48,49,50,51,52,53,54,55,56,57,97,98,99,100,101,102]:Bytes) (byt s_0 i12)).bind λ r17 =>
  if r17 < 0 then
   some (n11,i12)
  else
   ck (inR (i12+1)) <|
   bM s_0 m (IntKind.wrap .i32 ((IntKind.wrap .i32 (16*n11))+(IntKind.wrap .i32 (r17)))) (i12+1)
 else
  some (n11,i12)
def cO (n:Nat)(s_0:Bytes):Option (Int×Int×Int) :=
 (bM s_0 n 0 0).bind λ q39 =>
 if q39.2=(s_0.length:Int) then
  some (0,0,40)
 else
  (
    ck ((0:Int)≤q39.2∧q39.2 < (s_0.length:Int)) <|
    if byt s_0 q39.2=125 then
     if q39.2=0 then
      some true
     else
      if 1 < q39.2 then
       ck ((0:Int)≤0∧0 < (s_0.length:Int)) <|
       if byt s_0 0=48 then
        some true
       else
        (dr q39.1).bind λ r32 =>
        some (!r32)
      else
       (dr q39.1).bind λ r34 =>
       some (!r34)
    else
     some true
   : Option Bool).bind λ t36 =>
  if t36=true then
   some (0,0,2)
  else
   ck (inR (q39.2+1)) <|
   some (q39.1,q39.2+1,0)
theorem mi (n:Nat)(s_0:Bytes)(r:Int×Int×Int)(h0:cO n s_0=some r):aK Tryz.prog 192 [eS s_0] (·=.tuple [.p (eK .i32 r.1),.p (eI r.2.1),.p (eI r.2.2)]):=by
 unfold cO at h0
 refine cB good Tryz.func192 Z Z Z λ w0=>mP (λ v:Int×Int×Int=>.tuple [.p (eK .i32 v.1),.p (eI v.2.1),.p (eI v.2.2)]) ?_
 refine nx 13 Z (bd h0 λ o42 h1 h0=>?_)
 refine kE 0 o42 (λ v43=>⟨[(0,.p (eS s_0)),(5,.p (eK .i32 v43.1)),(6,.p (eI v43.2))],[]⟩) ?_ ?_
 ·refine nx 6 Z (oLs Z ?_)
  refine nx 2 Z (fD [32] h0 Z (λ c25 h0=>?_) λ c25 h0=>?_)
  ·exact nx 8 Z (mQ (oi h0) Z (aM ⟨sr,sr,sr,trivial⟩))
  refine nx 4 Z (bd h0 λ o44 h1 h0=>?_)
  refine kN o44 (λ v45=>⟨[(5,.p (eK .i32 o42.1)),(6,.p (eI o42.2)),(54,.p (eB v45))],[]⟩) ?_ ?_
  ·refine nx 1 Z (fB [54] h0 Z (λ c37 h0=>?_) λ c37 h0=>?_)
   ·exact nx 8 Z (mQ (oi h0) Z (aM ⟨sr,sr,sr,trivial⟩))
   refine nx 6 Z (oA h0 Z Z λ hk38 h0=>?_)
   exact nx 5 Z (mQ (oi h0) Z (aM ⟨sr,sr,sr,trivial⟩))
  refine nx 3 Z (oI h1 Z λ hk26 h1=>?_)
  refine nx 2 Z (fN [36,37] h1 Z (λ c27 h1=>?_) λ c27 h1=>?_)
  ·refine nx 4 Z (fD [39,40,41] h1 Z (λ c28 h1=>?_) λ c28 h1=>?_)
   ·exact nx 14 Z (eX _ (oi h1).symm (gE Z Z))
   refine nx 3 Z (fD [43,44] h1 Z (λ c29 h1=>?_) λ c29 h1=>?_)
   ·refine nx 1 Z (oI h1 Z λ hk30 h1=>?_)
    refine nx 4 Z (fD [47,48,49,50] h1 Z (λ c31 h1=>?_) λ c31 h1=>?_)
    ·exact nx 5 Z (eX _ (oi h1).symm (gE Z Z))
    refine nx 1 Z (bd h1 λ r32 e33 h1=>?_)
    refine oK (gY o42.1 _ e33) Z ⟨sr,trivial⟩ Tryz.call206 Z (nx 3 Z ?_)
    exact eX _ (oi h1).symm (gE Z Z)
   refine nx 7 Z (bd h1 λ r34 e35 h1=>?_)
   refine oK (gY o42.1 _ e35) Z ⟨sr,trivial⟩ Tryz.call206 Z (nx 3 Z ?_)
   exact eX _ (oi h1).symm (gE Z Z)
  exact nx 18 Z (eX _ (oi h1).symm (gE Z Z))
 refine lG (λ (q46:Int×Int)=>⟨[(0,.p (eS s_0)),(5,.p (eK .i32 q46.1)),(6,.p (eI q46.2))],[]⟩) (λ m (q46:Int×Int)=>bM s_0 m q46.1 q46.2) Y (0,0) h1 (gE Z Z) ?_
 rintro m ⟨n11,i12⟩ h1
 replace h1:bM s_0 (m+1) n11 i12=some o42:=h1
 rw [bM] at h1
 refine nx 2 Z (bd h1 λ o47 h2 h1=>?_)
 refine kN o47 (λ v48=>⟨[(0,.p (eS s_0)),(5,.p (eK .i32 n11)),(6,.p (eI i12)),(15,.p (eB v48))],[]⟩) ?_ ?_
 ·refine nx 1 Z (fB [15] h1 Z (λ c15 h1=>?_) λ c15 h1=>?_)
  ·refine nx 8 Z (oI h1 Z λ hk16 h1=>?_)
   refine bd h1 λ r17 e18 h1=>oK (fy ([48,49,50,51,52,53,54,55,56,57,97,98,99,100,101,102]:Bytes) (byt s_0 i12) _ e18) Z ⟨sr,sr,trivial⟩ Tryz.call85 Z (nx 8 Z ?_)
   refine fD [23] h1 Z (λ c19 h1=>?_) λ c19 h1=>?_
   ·exact nx 2 Z (eXi _ (oi h1).symm (gE Z Z))
   refine nx 12 Z (oA h1 Z Z λ hk20 h1=>?_)
   exact nx 2 Z (eX (IntKind.wrap .i32 ((IntKind.wrap .i32 (16*n11))+(IntKind.wrap .i32 (r17))),i12+1) h1 (gE Z Z))
  exact nx 2 Z (eXi _ (oi h1).symm (gE Z Z))
 refine nx 3 Z (oLs Z ?_)
 refine nx 2 Z (fD [11,12] h2 Z (λ c13 h2=>?_) λ c13 h2=>?_)
 ·exact nx 4 Z (eX _ (oi h2).symm (gE Z Z))
 exact nx 4 Z (eX _ (oi h2).symm (gE Z Z))
def eZ (n:Nat)(s_0:Bytes):Option (Int×Int×Int) :=
 if s_0=([]:Bytes) then
  some (0,0,40)
 else
  ck ((0:Int)≤0∧0 < (s_0.length:Int)) <|
  if byt s_0 0=110 then
   some (10,1,0)
  else
   if byt s_0 0=114 then
    some (13,1,0)
   else
    if byt s_0 0=116 then
     some (9,1,0)
    else
     (
       if byt s_0 0=34 then
        some true
       else
        some (decide (byt s_0 0=92))
      : Option Bool).bind λ t7 =>
     if t7=true then
      ck ((0:Int)≤0∧0 < (s_0.length:Int)) <|
      some (IntKind.wrap .i32 (byt s_0 0),1,0)
     else
      if byt s_0 0=117 then
       if (s_0.length:Int)=1 then
        some (0,0,40)
       else
        ck ((0:Int)≤1∧1 < (s_0.length:Int)) <|
        if byt s_0 1=123 then
         ck ((0:Int)≤2∧2≤(s_0.length:Int)∧(s_0.length:Int)≤(s_0.length:Int)) <|
         (cO n (sub s_0 2 (s_0.length:Int))).bind λ r15 =>
         ck (inR (r15.2.1+2)) <|
         some (r15.1,r15.2.1+2,r15.2.2)
        else
         some (0,0,2)
      else
       some (0,0,2)
theorem pQ (n:Nat)(s_0:Bytes)(r:Int×Int×Int)(h0:eZ n s_0=some r):aK Tryz.prog 174 [eS s_0] (·=.tuple [.p (eK .i32 r.1),.p (eI r.2.1),.p (eI r.2.2)]):=by
 unfold eZ at h0
 refine cB good Tryz.func174 Z Z Z λ w0=>mP (λ v:Int×Int×Int=>.tuple [.p (eK .i32 v.1),.p (eI v.2.1),.p (eI v.2.2)]) ?_
 refine nx 10 Z (oS Z Z ?_)
 refine nx 1 Z (fD [9] h0 Z (λ c1 h0=>?_) λ c1 h0=>?_)
 ·exact nx 8 Z (mQ (oi h0) Z (aM ⟨sr,sr,sr,trivial⟩))
 refine nx 6 Z (oI h0 Z λ hk2 h0=>?_)
 refine nx 7 Z (fD [12,13] h0 Z (λ c3 h0=>?_) λ c3 h0=>?_)
 ·exact nx 8 Z (mQ (oi h0) Z (aM ⟨sr,sr,sr,trivial⟩))
 refine nx 6 Z (fD [14,15] h0 Z (λ c4 h0=>?_) λ c4 h0=>?_)
 ·exact nx 8 Z (mQ (oi h0) Z (aM ⟨sr,sr,sr,trivial⟩))
 refine nx 6 Z (fD [16,17] h0 Z (λ c5 h0=>?_) λ c5 h0=>?_)
 ·exact nx 8 Z (mQ (oi h0) Z (aM ⟨sr,sr,sr,trivial⟩))
 refine nx 2 Z (bd h0 λ o19 h1 h0=>?_)
 refine kN o19 (λ v20=>⟨[(0,.p (eS s_0)),(11,.p (eK .u8 (byt s_0 0))),(18,.p (eB v20))],[]⟩) ?_ ?_
 ·refine nx 1 Z (fB [18] h0 Z (λ c8 h0=>?_) λ c8 h0=>?_)
  ·refine nx 4 Z (oI h0 Z λ hk9 h0=>?_)
   exact nx 6 Z (mQ (oi h0) Z (aM ⟨sr,sr,sr,trivial⟩))
  refine nx 6 Z (fD [24,25] h0 Z (λ c10 h0=>?_) λ c10 h0=>?_)
  ·refine nx 5 Z (oLs Z ?_)
   refine nx 2 Z (fD [28] h0 Z (λ c11 h0=>?_) λ c11 h0=>?_)
   ·exact nx 8 Z (mQ (oi h0) Z (aM ⟨sr,sr,sr,trivial⟩))
   refine nx 6 Z (oI h0 Z λ hk12 h0=>?_)
   refine nx 2 Z (fN [31] h0 Z (λ c13 h0=>?_) λ c13 h0=>?_)
   ·refine nx 5 Z (oP h0 Z Z Z λ hk14 h0=>?_)
    refine bd h0 λ r15 e16 h0=>oK (mi _ (sub s_0 2 (s_0.length:Int)) _ e16) Z ⟨sr,trivial⟩ Tryz.call192 Z (nx 12 Z ?_)
    refine oA h0 Z Z λ hk17 h0=>nx 5 Z (mG (gE (t:=⟨[(2,.p (eK .i32 r15.1)),(3,.p (eI (r15.2.1+2))),(4,.p (eI r15.2.2))],[]⟩) Z Z) ?_)
    exact nx 1 Z (mQ (oi h0) Z (aM ⟨sr,sr,sr,trivial⟩))
   exact nx 8 Z (mQ (oi h0) Z (aM ⟨sr,sr,sr,trivial⟩))
  exact nx 9 Z (mQ (oi h0) Z (aM ⟨sr,sr,sr,trivial⟩))
 refine nx 5 Z (fD [18,19] h1 Z (λ c6 h1=>?_) λ c6 h1=>?_)
 ·exact nx 2 Z (eX _ (oi h1).symm (gE Z Z))
 exact nx 5 Z (eX _ (oi h1).symm (gE Z Z))
def cH (n:Nat)(s_0:Bytes):Nat→Int→(List UInt8)→Option ((Int×(List UInt8))⊕(Bytes×Int×Int))
 | 0,_,_=>none
 | m+1,at31,f32 =>
 (
   if at31 < (s_0.length:Int) then
    ck ((0:Int)≤at31∧at31 < (s_0.length:Int)) <|
    some (!decide (byt s_0 at31=34))
   else
    some false
  : Option Bool).bind λ t35 =>
 if t35=true then
  ck ((0:Int)≤at31∧at31≤(s_0.length:Int)∧(s_0.length:Int)≤(s_0.length:Int)) <|
  (aZ (sub s_0 at31 (s_0.length:Int))).bind λ r38 =>
  jn (
    if r38.1=92 then
     ck (inR (at31+1)) <|
     ck ((0:Int)≤at31+1∧at31+1≤(s_0.length:Int)∧(s_0.length:Int)≤(s_0.length:Int)) <|
     (eZ n (sub s_0 (at31+1) (s_0.length:Int))).bind λ r43 =>
     if r43.2.2=0 then
      ck (inR (r43.2.1+1)) <|
      some (.inl (r43.1,r43.2.1+1))
     else
      some (.inr (.inr (([]:Bytes),0,r43.2.2)))
    else
     (
       if r38.1=65533 then
        if r38.2=1 then
         some true
        else
         if r38.1 < 32 then
          some true
         else
          some (decide (r38.1=127))
       else
        if r38.1 < 32 then
         some true
        else
         some (decide (r38.1=127))
      : Option Bool).bind λ t51 =>
     if t51=true then
      some (.inr (.inr (([]:Bytes),0,2)))
     else
      some (.inl (r38.1,r38.2))
   : Option ((Int×Int)⊕((Int×(List UInt8))⊕(Bytes×Int×Int)))) λ q71 =>
  (dA (bZ.mk f32) q71.1).bind λ r55 =>
  ck (inR (at31+q71.2)) <|
  cH n s_0 m (at31+q71.2) r55.2.2.fbuf
 else
  some (.inl (at31,f32))
def d7 (n:Nat)(s_0:Bytes):Option (Bytes×Int×Int) :=
 if s_0=([]:Bytes) then
  some (([]:Bytes),0,40)
 else
  ck ((0:Int)≤0∧0 < (s_0.length:Int)) <|
  if byt s_0 0=34 then
   jn (cH n s_0 n 1 []) λ q69 =>
   if q69.1=(s_0.length:Int) then
    some (([]:Bytes),0,40)
   else
    (gZ (bZ.mk q69.2)).bind λ r63 =>
    if 4096 < r63.1 then
     some (([]:Bytes),0,3)
    else
     (eO (bZ.mk r63.2.fbuf)).bind λ r66 =>
     ck (inR (q69.1+1)) <|
     some (r66.1,q69.1+1,0)
  else
   some (([]:Bytes),0,2)
theorem oH (n:Nat)(s_0:Bytes)(r:Bytes×Int×Int)(h0:d7 n s_0=some r):aK Tryz.prog 158 [eS s_0] (·=.tuple [.p (eS r.1),.p (eI r.2.1),.p (eI r.2.2)]):=by
 unfold d7 at h0
 refine cB good Tryz.func158 Z Z Z λ w0=>mP (λ v:Bytes×Int×Int=>.tuple [.p (eS v.1),.p (eI v.2.1),.p (eI v.2.2)]) ?_
 refine nx 10 Z (oS Z Z ?_)
 refine nx 1 Z (fD [13] h0 Z (λ c1 h0=>?_) λ c1 h0=>?_)
 ·exact nx 8 Z (mQ (oi h0) Z (aM ⟨sr,sr,sr,trivial⟩))
 refine nx 6 Z (oI h0 Z λ hk2 h0=>?_)
 refine nx 2 Z (fN [16] h0 Z (λ c3 h0=>?_) λ c3 h0=>?_)
 ·refine nx 4 Z (mO Z (yJ Z Z Z Z Z Z Z ?_))
  refine nx 7 Z ?_
  obtain ⟨o73,h1,hL0,hR0⟩:=dk h0
  refine kEx 0 (λ v74:Int×(List UInt8)=>o73=.inl v74) (λ v74=>⟨[(0,.p (eS s_0)),(5,.ptr 5 0),(6,.p (eI v74.1))],[(5,[.bptr 93 2 5,.vec 101000 1 (5+1) (v74.2.map eU)])]⟩) (λ v74 hv=>?_) ?_
  ·have h0:=hL0 _ hv
   refine nx 6 Z (oLs Z ?_)
   refine nx 2 Z (fD [73] h0 Z (λ c62 h0=>?_) λ c62 h0=>?_)
   ·exact nx 8 Z (mQ (oi h0) Z (aM ⟨sr,sr,sr,trivial⟩))
   refine nx 5 Z (bd h0 λ r63 e64 h0=>?_)
   refine mO Z (bB [5] [101000] 103000 103001 (lD (bZ.mk v74.2) _ e64) Z Z Z Z Z ⟨sr,trivial⟩ Z Z ⟨⟨_,Z,⟨sr,sr,trivial⟩⟩,trivial⟩ Z Z Z Z Z Z Z Z Tryz.call176 Z Z ?_)
   refine nx 2 Z (fD [75] h0 Z (λ c65 h0=>?_) λ c65 h0=>?_)
   ·exact nx 8 Z (mQ (oi h0) Z (aM ⟨sr,sr,sr,trivial⟩))
   refine nx 4 Z (bd h0 λ r66 e67 h0=>?_)
   refine mO Z (bB [5] [103000] 104000 104000 (ku (bZ.mk r63.2.fbuf) _ e67) Z Z Z Z Z ⟨sr,trivial⟩ Z Z ⟨⟨_,Z,⟨sr,sr,trivial⟩⟩,trivial⟩ Z Z Z Z Z Z Z Z Tryz.call59 Z Z ?_)
   refine nx 1 Z (oA h0 Z Z λ hk68 h0=>?_)
   exact nx 5 Z (mQ (oi h0) Z (aM ⟨sr,sr,sr,trivial⟩))
  refine lG (λ (q75:Int×(List UInt8))=>⟨[(0,.p (eS s_0)),(5,.ptr 5 0),(6,.p (eI q75.1))],[(5,[.bptr 93 2 5,.vec 101000 1 (5+1) (q75.2.map eU)])]⟩) (λ m (q75:Int×(List UInt8))=>cH n s_0 m q75.1 q75.2) Y (1,[]) h1 (fZ (nY ⟨er Z,er Z,er Z,trivial⟩ ⟨⟨_,Z,⟨sr,AV.sub_nilvec _ _ _,trivial⟩⟩,trivial⟩)) ?_
  rintro m ⟨at31,f32⟩ h1
  replace h1:cH n s_0 (m+1) at31 f32=some o73:=h1
  rw [cH] at h1
  refine nx 2 Z (bd h1 λ o76 h2 h1=>?_)
  refine kN o76 (λ v77=>⟨[(0,.p (eS s_0)),(5,.ptr 5 0),(6,.p (eI at31)),(26,.p (eB v77))],[(5,[.bptr 93 2 5,.vec 101000 1 (5+1) (f32.map eU)])]⟩) ?_ ?_
  ·refine nx 1 Z (fB [26] h1 Z (λ c36 h1=>?_) λ c36 h1=>?_)
   ·refine nx 7 Z (oP h1 Z Z Z λ hk37 h1=>?_)
    refine bd h1 λ r38 e39 h1=>oK (dM (sub s_0 at31 (s_0.length:Int)) _ e39) Z ⟨sr,trivial⟩ Tryz.call126 Z (nx 7 Z ?_)
    obtain ⟨o78,h2,hL1,hR1⟩:=dk h1
    refine kX (λ v79:Int×Int=>o78=.inl v79) (λ v79=>⟨[(0,.p (eS s_0)),(5,.ptr 5 0),(6,.p (eI at31)),(7,.p (eK .i32 v79.1)),(8,.p (eI v79.2))],[(5,[.bptr 93 2 5,.vec 101000 1 (5+1) (f32.map eU)])]⟩) (λ v79 hv=>?_) ?_
    ·have h1:=hL1 _ hv
     refine nx 4 Z (bd h1 λ r55 e56 h1=>?_)
     refine mO Z (bB [5] [101000] 102000 102001 (jL (bZ.mk f32) v79.1 _ e56) Z Z Z Z Z ⟨sr,sr,trivial⟩ Z Z ⟨⟨_,Z,⟨sr,sr,trivial⟩⟩,trivial⟩ Z Z Z Z Z Z Z Z Tryz.call175 Z Z ?_)
     refine nx 4 Z (oA h1 Z Z λ hk57 h1=>?_)
     exact nx 2 Z (eX (at31+v79.2,r55.2.2.fbuf) h1 (bj (cn 102000 101000 Z Z Z Z Z) (gE Z Z)))
    refine nx 5 Z (fD [35] h2 Z (λ c40 h2=>?_) λ c40 h2=>?_)
    ·refine nx 5 Z (oA h2 Z Z λ hk41 h2=>?_)
     refine oP h2 Z Z Z λ hk42 h2=>bd h2 λ r43 e44 h2=>oK (pQ _ (sub s_0 (at31+1) (s_0.length:Int)) _ e44) Z ⟨sr,trivial⟩ Tryz.call174 Z (nx 14 Z ?_)
     refine fN [46] h2 Z (λ c45 h2=>?_) λ c45 h2=>?_
     ·refine nx 5 Z (oA h2 Z Z λ hk46 h2=>?_)
      exact nx 3 Z (eX _ (oi h2).symm (gE Z Z))
     refine nx 8 Z (mG (gE (t:=⟨[(2,.p (eS ([]:Bytes))),(3,.p (eI 0)),(4,.p (eI r43.2.2))],[]⟩) Z Z) ?_)
     exact nx 1 Z (mQ (hR0 _ (hR1 _ (oi h2).symm).symm) Z (aM ⟨sr,sr,sr,trivial⟩))
    refine nx 2 Z (bd h2 λ o80 h3 h2=>?_)
    refine kN o80 (λ v81=>⟨[(0,.p (eS s_0)),(5,.ptr 5 0),(6,.p (eI at31)),(7,.p (eK .i32 r38.1)),(8,.p (eI r38.2)),(64,.p (eB v81))],[(5,[.bptr 93 2 5,.vec 101000 1 (5+1) (f32.map eU)])]⟩) ?_ ?_
    ·refine nx 1 Z (fB [64] h2 Z (λ c52 h2=>?_) λ c52 h2=>?_)
     ·exact nx 8 Z (mQ (hR0 _ (hR1 _ (oi h2).symm).symm) Z (aM ⟨sr,sr,sr,trivial⟩))
     exact nx 2 Z (eX _ (oi h2).symm (gE Z Z))
    refine nx 4 Z (fD [52,53] h3 Z (λ c47 h3=>?_) λ c47 h3=>?_)
    ·refine nx 4 Z (fD [55,56,57] h3 Z (λ c48 h3=>?_) λ c48 h3=>?_)
     ·exact nx 8 Z (eX _ (oi h3).symm (gE Z Z))
     refine nx 4 Z (fD [59,60,61] h3 Z (λ c49 h3=>?_) λ c49 h3=>?_)
     ·exact nx 4 Z (eX _ (oi h3).symm (gE Z Z))
     exact nx 4 Z (eX _ (oi h3).symm (gE Z Z))
    refine nx 8 Z (fD [59,60,61] h3 Z (λ c50 h3=>?_) λ c50 h3=>?_)
    ·exact nx 4 Z (eX _ (oi h3).symm (gE Z Z))
    exact nx 4 Z (eX _ (oi h3).symm (gE Z Z))
   exact nx 2 Z (eXi _ (oi h1).symm (gE Z Z))
  refine nx 3 Z (oLs Z ?_)
  refine nx 2 Z (fD [20,21] h2 Z (λ c33 h2=>?_) λ c33 h2=>?_)
  ·refine nx 2 Z (oI h2 Z λ hk34 h2=>?_)
   exact nx 3 Z (eX _ (oi h2).symm (gE Z Z))
  exact nx 6 Z (eX _ (oi h2).symm (gE Z Z))
 exact nx 8 Z (mQ (oi h0) Z (aM ⟨sr,sr,sr,trivial⟩))
def iO (s_0:Bytes):Option Bool :=
 (
   if (s_0.length:Int)≤4096 then
    (ep s_0).bind λ r2 =>
    some r2
   else
    some false
  : Option Bool).bind λ t4 =>
 some t4
theorem qP (s_0:Bytes)(r:Bool)(h0:iO s_0=some r):aK Tryz.prog 188 [eS s_0] (·=.p (eB r)):=by
 unfold iO at h0
 refine cB good Tryz.func188 Z Z Z λ w0=>mP (λ v:Bool=>.p (eB v)) ?_
 refine nx 5 Z (bd h0 λ o6 h1 h0=>?_)
 refine kN o6 (λ v7=>⟨[(2,.p (eB v7))],[]⟩) ?_ ?_
 ·exact nx 2 Z (mQ (oi h0) Z (sr))
 refine nx 2 Z (oLs Z ?_)
 refine nx 2 Z (fD [5,6] h1 Z (λ c1 h1=>?_) λ c1 h1=>?_)
 ·refine nx 1 Z (bd h1 λ r2 e3 h1=>?_)
  refine oK (jW s_0 _ e3) Z ⟨sr,trivial⟩ Tryz.call204 Z (nx 3 Z ?_)
  exact eX _ (oi h1).symm (gE Z Z)
 exact nx 5 Z (eX _ (oi h1).symm (gE Z Z))
end Go.Ab.R06
end
section
namespace Go.Ab.R06
open Go.Ab Go.Ab.RB
section
variable {α β:Type} {P:α→Prop}
theorem ao {g:Nat→Nat→Option β}{k:Nat→Nat→β→Option α}(x:β)(h:Ev2 g (·=x))(hk:Ev2 (λ n m=>k n m x) P):Ev2 (λ n m=>(g n m).bind (k n m)) P :=
 af (·=x) h λ y hy=>by subst hy; exact hk
end
def nS (b:UInt8):Bool:=(decide (97≤b.toNat)&&decide (b.toNat≤122))||(decide (65≤b.toNat)&&decide (b.toNat≤90))||decide (b.toNat=95)
def gS (b:UInt8):Bool:=decide (48≤b.toNat)&&decide (b.toNat≤57)
def idB (b:UInt8):Bool:=nS b||gS b
def hQ:Bytes→Bool
 | []=>false
 | b::r=>decide ((b::r).length≤64)&&nS b&&r.all idB
def wb (s:Bytes)(i:Nat):Bool:=nS (s.getD i 0)||(decide (i≠0)&&gS (s.getD i 0))
def pE (p:Nat→Bool):Nat→Nat→Bool
 | _,0=>true
 | i,k+1=>p i&&pE p (i+1) k
theorem rL (p:Nat→Bool):∀ (k i:Nat),pE p i k=true↔∀ j,i≤j→j < i+k→p j=true
 | 0,i=>by simp [pE]; intro j h1 h2; omega
 | k+1,i=>by
  rw [pE,Bool.and_eq_true,rL p k (i+1)]
  constructor
  ·rintro ⟨h1,h2⟩ j h3 h4
   by_cases e:j=i
   ·rw [e]; exact h1
   ·exact h2 j O O
  ·intro h
   exact ⟨h i O O,λ j h1 h2=>h j O O⟩
theorem or32:(List.range 256).all (λ n=>(decide ((97:Int)≤iOr .u8 (n:Int) 32)&&decide (iOr .u8 (n:Int) 32≤122)) == ((decide (97≤n)&&decide (n≤122))||(decide (65≤n)&&decide (n≤90))))=true:=by kernel_rfl
theorem DD (b:UInt8):(97≤iOr .u8 ((b.toNat:Nat):Int) 32∧iOr .u8 ((b.toNat:Nat):Int) 32≤122)↔((97≤b.toNat∧b.toNat≤122)∨(65≤b.toNat∧b.toNat≤90)):=by
 have h:=List.all_eq_true.1 or32 b.toNat (List.mem_range.2 b.toNat_lt)
 have h:=eq_of_beq h
 rw [Bool.eq_iff_iff] at h
 simpa using h
theorem pi (b:UInt8):nS b=true↔(97≤b.toNat∧b.toNat≤122)∨(65≤b.toNat∧b.toNat≤90)∨b.toNat=95:=by
 simp [nS,or_assoc]
theorem mI (b:UInt8):gS b=true↔48≤b.toNat∧b.toNat≤57:=by simp [gS]
theorem eqB {a b:Bool}(h:a=true↔b=true):a=b:=Bool.eq_iff_iff.2 h
theorem pc (s:Bytes)(i:Nat):wb s i=true↔nS (s.getD i 0)=true∨(i≠0∧gS (s.getD i 0)=true):=by simp [wb]
theorem xe (s:Bytes):hQ s=true↔s≠[]∧s.length≤64∧pE (wb s) 0 s.length=true:=by
 rw [rL]
 cases s with
 | nil=>simp [hQ]
 | cons b r =>
  simp only [hQ,Bool.and_eq_true,decide_eq_true_eq,List.all_eq_true]
  constructor
  ·rintro ⟨⟨h1,h2⟩,h3⟩
   refine ⟨by simp,h1,λ j _ hj=>?_⟩
   rw [pc]
   cases j with
   | zero=>exact .inl h2
   | succ j =>
    have hm:r.getD j 0∈r:=by
     rw [List.getD_eq_getElem?_getD,List.getElem?_eq_getElem (by simp at hj; omega)]
     exact List.getElem_mem _
    have:=h3 _ hm
    simp only [idB,Bool.or_eq_true] at this
    rcases this with h | h
    ·exact .inl h
    ·exact .inr ⟨by omega,h⟩
  ·rintro ⟨_,h1,h2⟩
   refine ⟨⟨h1,?_⟩,λ x hx=>?_⟩
   ·have:=(pc _ _).1 (h2 0 O G)
    simpa using this
   ·obtain ⟨j,hj,rfl⟩:=List.getElem_of_mem hx
    have:=(pc _ _).1 (h2 (j+1) O (by simp; omega))
    rw [show (b::r).getD (j+1) 0=r[j] by simp [hj]] at this
    simp only [idB,Bool.or_eq_true]
    rcases this with h | h
    ·exact .inl h
    ·exact .inr h.2
end Go.Ab.R06
namespace Go.Ab.R06
open Go.Ab Go.Ab.RB Go.Lib
def kZ (acc:Nat)(l:Bytes):Nat:=l.foldl (λ a b=>a*10+(b.toNat - 48)) acc
theorem vE (a:Nat):kZ a []=a:=rfl
theorem tU (a:Nat)(b:UInt8)(l:Bytes):kZ a (b::l)=kZ (a*10+(b.toNat - 48)) l:=by simp only [kZ,List.foldl_cons]
theorem x7:∀ (l:Bytes) (a:Nat),a≤kZ a l
 | [],a=>Nat.le_of_eq (vE a).symm
 | b::r,a=>by
  rw [tU]
  have:=x7 r (a*10+(b.toNat - 48))
  generalize kZ (a*10+(b.toNat - 48)) r=v at this ⊢
  omega
theorem xR {l:Bytes}(h:l.all gS=true){b:UInt8}(hb:b∈l):48≤b.toNat∧b.toNat≤57:=(mI b).1 (List.all_eq_true.1 h b hb)
theorem zq:∀ (l:Bytes) (acc:Nat),l.all gS=true→(kZ acc l≤18446744073709551615→parseUintM 18446744073709551615 acc l=.ok (kZ acc l))∧(18446744073709551615 < kZ acc l→acc≤18446744073709551615→parseUintM 18446744073709551615 acc l=.range)
 | [],acc,_=>by
  rw [vE]
  exact ⟨λ _=>rfl,λ h h'=>by omega⟩
 | b::r,acc,h=>by
  have hb:=xR h List.mem_cons_self
  have hr:r.all gS=true:=by simp only [List.all_cons,Bool.and_eq_true] at h; exact h.2
  rw [parseUintM,if_pos hb,tU]
  have hg:=x7 r (acc*10+(b.toNat - 48))
  have ih:=zq r (acc*10+(b.toNat - 48)) hr
  generalize kZ (acc*10+(b.toNat - 48)) r=v at hg ih ⊢
  by_cases h1:1844674407370955162≤acc
  ·rw [if_pos h1]
   exact ⟨λ h2=>by omega,λ _ _=>rfl⟩
  ·rw [if_neg h1]
   by_cases h2:18446744073709551615 < acc*10+(b.toNat - 48)
   ·rw [if_pos h2]
    exact ⟨λ h3=>by omega,λ _ _=>rfl⟩
   ·rw [if_neg h2]
    exact ⟨ih.1,λ h3 _=>ih.2 h3 O⟩
theorem Eu (l:Bytes)(hne:l≠[])(h:l.all gS=true):parseUintB 64 l=if kZ 0 l≤18446744073709551615 then .ok (kZ 0 l) else .range:=by
 rw [parseUintB,if_neg hne]
 show parseUintM (2 ^ 64 - 1) 0 l=_
 rw [show (2 ^ 64 - 1:Nat)=18446744073709551615 from rfl]
 have:=zq l 0 h
 generalize kZ 0 l=v at this ⊢
 by_cases q:v≤18446744073709551615
 ·rw [if_pos q]; exact this.1 q
 ·rw [if_neg q]; exact this.2 O O
def wZ (l:Bytes):Bool:=!l.isEmpty&&l.all gS&&(decide (l.getD 0 0≠48)||decide (l.length=1))
theorem vX (l:Bytes):wZ l=true↔l≠[]∧l.all gS=true∧(l.getD 0 0≠48∨l.length=1):=by
 simp [wZ,and_assoc]
def pV (s:Bytes):Bool:=decide (0 < s.length)&&decide (s.getD 0 0=45)
def digits (s:Bytes):Bytes:=if pV s=true then s.drop 1 else s
def rV (s:Bytes):Bool:=!(pV s&&decide (s.drop 1=[48]))&&wZ (digits s)
def qk (s:Bytes):Int:=if pV s=true then -(kZ 0 (digits s):Int) else (kZ 0 (digits s):Int)
def jE:Int:=9007199254740992
def uZ (s:Bytes):Int×Int:=if rV s=true then (if -jE≤qk s∧qk s≤jE then (qk s,0) else (0,5)) else (0,2)
theorem AH (s:Bytes)(hs:s.length≤1000000000):∀ (k i:Nat),i+k=s.length→Ev2 (λ _ m=>bP s m (i:Int)) (·=if pE (λ j=>gS (s.getD j 0)) i k then .inl () else .inr false):=by
 intro k
 induction k with
 | zero =>
  intro i hi
  refine aV ?_
  simp only [bP]
  refine ai O (ab Z)
 | succ k ih =>
  intro i hi
  refine aV ?_
  simp only [bP]
  refine aj O ?_
  have hb:byt s i=((s.getD i 0).toNat:Int):=gj s i
  rw [hb]
  refine ao (!gS (s.getD i 0)) ?_ ?_
  ·have h:=mI (s.getD i 0)
   generalize s.getD i 0=b at h ⊢
   refine ar O (aP (λ h1=>ab ?_) (λ h1=>ar O (ab ?_)))
   ·have:gS b=false:=by rw [← Bool.not_eq_true,h]; omega
    simp [this]
   ·refine eqB ?_
    rw [decide_eq_true_eq,Bool.not_eq_true',← Bool.not_eq_true,h]
    omega
  ·cases hk:gS (s.getD i 0) with
   | false=>exact aj Z (ab (by simp only [pE,hk,Bool.false_and]; rfl))
   | true =>
    refine ai G (ar (aG O O) ?_)
    have:=ih (i+1) O
    rw [Int.natCast_add,Int.natCast_one] at this
    simp only [pE,hk,Bool.true_and]
    exact this
theorem Bb (s:Bytes)(p:UInt8→Bool):pE (λ j=>p (s.getD j 0)) 0 s.length=s.all p:=by
 refine eqB ?_
 rw [rL,List.all_eq_true]
 constructor
 ·intro h x hx
  obtain ⟨j,hj,rfl⟩:=List.getElem_of_mem hx
  have:=h j O O
  simpa [hj] using this
 ·intro h j _ hj
  have hj:j < s.length:=by omega
  have:=h s[j] (List.getElem_mem hj)
  simpa [hj] using this
theorem ui (s:Bytes)(hs:s.length≤1000000000):Ev2 (λ n _=>dV n s) (·=rV s):=by
 simp only [dV]
 have hb:byt s 0=((s.getD 0 0).toNat:Int):=gj s 0
 have hneg:pV s=true↔0 < s.length∧s.getD 0 0=45:=by simp [pV]
 have h45:(s.getD 0 0).toNat=45↔s.getD 0 0=45:=⟨λ h=>UInt8.toNat_inj.1 h,λ h=>by rw [h]; rfl⟩
 have body:∀ t:Bytes,t.length≤1000000000→Ev2 (λ n m=>jn (bP t n 0) λ q31 =>
   ((if t=([]:Bytes) then some false else ck ((0:Int)≤0∧0 < (t.length:Int)) <| if byt t 0=48 then some (decide ((t.length:Int)=1)) else some true):Option Bool).bind λ t28=>some t28) (·=wZ t):=by
  intro t ht
  have l:=AH t ht t.length 0 O
  rw [Bb] at l
  have hc:=vX t
  have hb':byt t 0=((t.getD 0 0).toNat:Int):=gj t 0
  have h48:(t.getD 0 0).toNat=48↔t.getD 0 0=48:=⟨λ h=>UInt8.toNat_inj.1 h,λ h=>by rw [h]; rfl⟩
  cases ha:t.all gS with
  | false =>
   rw [ha] at l hc
   refine jJ false (bS l) (eqB ?_)
   rw [hc]; simp
  | true =>
   rw [ha] at l hc
   refine fE () (bS l) (af (·=wZ t) ?_ (λ x hx=>ab hx))
   refine aP (λ h=>ab (eqB ?_)) (λ h=>ar ?_ ?_)
   ·rw [hc]; simp [h]
   ·have:=List.length_pos_iff.2 h; omega
   ·rw [hb']
    refine aP (λ h1=>ab (eqB ?_)) (λ h1=>ab (eqB ?_))
    ·have h2:=h48.1 O
     rw [hc,decide_eq_true_eq]
     constructor
     ·intro q; exact ⟨h,by simp,.inr O⟩
     ·rintro ⟨_,_,q | q⟩
      ·exact absurd h2 q
      ·omega
    ·rw [hc]; simp only [true_iff]
     exact ⟨h,by simp,.inl λ q=>h1 (by have:=h48.2 q; omega)⟩
 refine eg (ao (pV s) ?_ ?_)
 ·refine aP (λ h=>ar O (ab (eqB ?_))) (λ h=>ab (eqB ?_))
  ·rw [hneg,hb,decide_eq_true_eq]
   constructor
   ·intro q; exact ⟨by omega,h45.1 O⟩
   ·rintro ⟨_,q⟩; have:=h45.2 q; omega
  ·rw [hneg]
   constructor
   ·intro q; cases q
   ·rintro ⟨q,_⟩; omega
 ·rw [iU]
  show Ev2 (λ n m=>if pV s=true then ck _ (if s.drop 1=[48] then some (Sum.inr false) else some (Sum.inl (s.drop 1))) else some (Sum.inl s)) _
  refine aP (λ h=>ar ?_ (aP (λ h1=>ab ?_) (λ h1=>ab ?_))) (λ h=>ab ?_)
  ·have:=hneg.1 h; omega
  ·simp [rV,h,h1]
  ·have e:rV s=wZ (s.drop 1):=by unfold rV digits; rw [if_pos h,decide_eq_false h1]; simp
   rw [e]
   exact body _ (by simp; omega)
  ·have e:rV s=wZ s:=by simp [rV,h,digits]
   rw [e]
   exact body _ hs
theorem uG (v:Int):gR v=some (decide (-jE≤v∧v≤jE)):=by
 simp only [gR]
 by_cases h:(-9007199254740992:Int)≤v
 ·rw [if_pos h]
  by_cases h2:v≤9007199254740992
  ·simp [h2,jE,h]
  ·simp [h2,jE]
 ·rw [if_neg h,Option.bind_some]
  refine congrArg some (eqB ?_)
  rw [decide_eq_true_eq]; unfold jE
  constructor
  ·intro q; cases q
  ·intro q; exact absurd q.1 h
theorem vY {s:Bytes}(h:rV s=true):digits s≠[]∧(digits s).all gS=true:=by
 simp only [rV,Bool.and_eq_true] at h
 have:=(vX _).1 h.2
 exact ⟨this.1,this.2.1⟩
theorem Dk (s:Bytes)(h:rV s=true):parseIntB 64 s=if (if pV s=true then 9223372036854775808 < kZ 0 (digits s) else 9223372036854775808≤kZ 0 (digits s)) then .range else .ok (qk s):=by
 obtain ⟨h1,h2⟩:=vY h
 cases s with
 | nil=>exact absurd (by simp [digits,pV]) h1
 | cons c r =>
  have e45:c.toNat=45↔c=45:=⟨λ h=>UInt8.toNat_inj.1 h,λ h=>by rw [h]; rfl⟩
  have hneg:pV (c::r)=decide (c=45):=by simp [pV]
  have hd:(if c.toNat=43∨c.toNat=45 then r else c::r)=digits (c::r):=by
   unfold digits
   rw [hneg]
   by_cases q:c=45
   ·rw [if_pos (.inr (e45.2 q)),if_pos (by simp [q])]; rfl
   ·have e:digits (c::r)=c::r:=by unfold digits; rw [hneg,if_neg (by simp [q])]
    have e2:(if decide (c=45)=true then List.drop 1 (c::r) else c::r)=c::r:=if_neg (by simp [q])
    rw [e2,if_neg]
    rintro (k | k)
    ·rw [e] at h2
     have:=xR h2 List.mem_cons_self
     omega
    ·exact q (e45.1 k)
  have hp:=Eu _ h1 h2
  unfold parseIntB
  simp only [hd,hp]
  rw [hneg]
  unfold qk
  rw [hneg]
  generalize kZ 0 (digits (c::r))=v
  by_cases q:c=45
  ·subst q
   by_cases hv:v≤18446744073709551615
   ·simp only [hv,if_true]
    by_cases hw:9223372036854775808 < v
    ·simp [hw]
    ·simp [hw]
   ·simp only [hv,if_false]
    rw [if_pos]; simp; omega
  ·have q':¬ c.toNat=45:=λ k=>q (e45.1 k)
   by_cases hv:v≤18446744073709551615
   ·simp only [hv,if_true]
    by_cases hw:9223372036854775808≤v
    ·simp [q,q',hw]
    ·simp [q,q',hw]
   ·simp only [hv,if_false]
    rw [if_pos]; simp [q]; omega
theorem wa (s:Bytes)(hs:s.length≤1000000000):Ev2 (λ n _=>fz n s) (·=uZ s):=by
 simp only [fz]
 refine ao _ (ui s hs) ?_
 cases hc:rV s with
 | false=>exact aj Z (ab (by simp [uZ,hc]))
 | true =>
  refine ai G ?_
  have hp:gV s 10 64=some (match parseIntB 64 s with | .ok v=>(v,false) | .range=>(intSat 64 s,true) | _=>(0,true)):=by
   unfold gV
   exact b8 ⟨Z,Z,by omega⟩
  rw [Dk s hc] at hp
  have e:uZ s=(if -jE≤qk s∧qk s≤jE then (qk s,0) else (0,5)):=by simp [uZ,hc]
  rw [e]
  by_cases hr:(if pV s=true then 9223372036854775808 < kZ 0 (digits s) else 9223372036854775808≤kZ 0 (digits s))
  ·rw [if_pos hr] at hp
   refine ao _ (au hp Z) ?_
   refine ao true (aj Z (ab Z)) (aj Z (ab ?_))
   rw [if_neg]
   unfold qk jE
   cases hn:pV s with
   | true=>rw [hn,if_pos rfl] at hr; rw [if_pos rfl]; omega
   | false=>rw [hn,if_neg G] at hr; rw [if_neg G]; omega
  ·rw [if_neg hr] at hp
   refine ao _ (au hp Z) ?_
   refine ao (!decide (-jE≤qk s∧qk s≤jE)) ?_ ?_
   ·exact ai G (ao _ (au (uG _) Z) (ab Z))
   ·by_cases q:-jE≤qk s∧qk s≤jE
    ·rw [if_pos q]
     exact ai (by simp [q]) (ab Z)
    ·rw [if_neg q]
     exact aj (by simp only [q,decide_false,Bool.not_false]) (ab Z)
end Go.Ab.R06
namespace Go.Ab.R06
open Go.Ab Go.Ab.RB Go.Lib
theorem vo (x:Int):IntKind.wrap .u8 x=x % 256:=by simp [IntKind.wrap,IntKind.bits,IntKind.signed]
theorem wrap32 (x:Int):IntKind.wrap .u32 x=x % 4294967296:=by simp [IntKind.wrap,IntKind.bits,IntKind.signed]
theorem shr6 (x:Int):fT .i32 x 6=x / 64:=by
 show x.fdiv (2 ^ 6)=x / 64
 rw [Int.fdiv_eq_ediv_of_nonneg _ (by decide)]; rfl
theorem E6 (x:Int):fT .i32 x 12=x / 4096:=by
 show x.fdiv (2 ^ 12)=x / 4096
 rw [Int.fdiv_eq_ediv_of_nonneg _ (by decide)]; rfl
theorem EP (x:Int):fT .i32 x 18=x / 262144:=by
 show x.fdiv (2 ^ 18)=x / 262144
 rw [Int.fdiv_eq_ediv_of_nonneg _ (by decide)]; rfl
theorem t63:(List.range 256).all (λ n=>dC .u8 (n:Int) 63 == ((n % 64:Nat):Int))=true:=by kernel_rfl
theorem t128:(List.range 64).all (λ n=>iOr .u8 128 (n:Int) == ((128+n:Nat):Int))=true:=by kernel_rfl
theorem t192:(List.range 32).all (λ n=>iOr .u8 192 (n:Int) == ((192+n:Nat):Int))=true:=by kernel_rfl
theorem t224:(List.range 16).all (λ n=>iOr .u8 224 (n:Int) == ((224+n:Nat):Int))=true:=by kernel_rfl
theorem t240:(List.range 8).all (λ n=>iOr .u8 240 (n:Int) == ((240+n:Nat):Int))=true:=by kernel_rfl
theorem tab {f g:Nat→Int}{m:Nat}(h:(List.range m).all (λ n=>f n == g n)=true)(n:Nat)(hn:n < m):f n=g n:=eq_of_beq (List.all_eq_true.1 h n (List.mem_range.2 hn))
theorem Az (x:Int):dC .u8 (IntKind.wrap .u8 x) 63=x % 64:=by
 rw [vo]
 obtain ⟨n,hn⟩:∃ n:Nat,x % 256=n:=⟨(x % 256).toNat,by omega⟩
 rw [hn,tab t63 n O]; omega
theorem Bg {x:Int}(h0:0≤x)(h1:x < 64):iOr .u8 128 x=128+x:=by
 obtain ⟨n,rfl⟩:∃ n:Nat,x=n:=⟨x.toNat,by omega⟩
 rw [tab t128 n O]; omega
theorem EB {x:Int}(h0:0≤x)(h1:x < 32):iOr .u8 192 x=192+x:=by
 obtain ⟨n,rfl⟩:∃ n:Nat,x=n:=⟨x.toNat,by omega⟩
 rw [tab t192 n O]; omega
theorem E2 {x:Int}(h0:0≤x)(h1:x < 16):iOr .u8 224 x=224+x:=by
 obtain ⟨n,rfl⟩:∃ n:Nat,x=n:=⟨x.toNat,by omega⟩
 rw [tab t224 n O]; omega
theorem ED {x:Int}(h0:0≤x)(h1:x < 8):iOr .u8 240 x=240+x:=by
 obtain ⟨n,rfl⟩:∃ n:Nat,x=n:=⟨x.toNat,by omega⟩
 rw [tab t240 n O]; omega
def gi (r:Int):Prop:=(0≤r∧r < 55296)∨(57343 < r∧r≤1114111)
theorem vu (p:Bytes)(r:Int)(h:gi r)(hp:p.length≤100000000000):dT p r=some (p++encodeRune r):=by
 have h0:0≤r∧r≤1114111:=by unfold gi at h; omega
 have hw:IntKind.wrap .u32 r=r:=by rw [wrap32]; omega
 unfold dT
 rw [hw]
 by_cases h1:r≤127
 ·have hw8:IntKind.wrap .u8 r=r:=by rw [vo]; omega
  rw [if_pos h1,hw8,b8 O,b8 (by simp; omega)]
  simp only [encodeRune,encodeRuneZ,if_pos (show 0≤r∧r≤127 from ⟨h0.1,h1⟩),List.map_cons,List.map_nil,u8]
 rw [if_neg h1]
 unfold dd
 rw [hw,Az,shr6,E6,EP,Az,Az]
 have o1:iOr .u8 128 (r % 64)=128+r % 64:=Bg O O
 have o2:iOr .u8 128 (r / 64 % 64)=128+r / 64 % 64:=Bg O O
 have o3:iOr .u8 128 (r / 4096 % 64)=128+r / 4096 % 64:=Bg O O
 rw [o1,o2,o3]
 have n1:¬ (0≤r∧r≤127):=by omega
 by_cases h2:r≤2047
 ·have hw8:IntKind.wrap .u8 (r / 64)=r / 64:=by rw [vo]; omega
  rw [if_pos h2,hw8,EB O O,b8 O,b8 O,b8 O,b8 (by simp; omega)]
  simp only [encodeRune,encodeRuneZ,if_neg n1,if_pos (show 128≤r∧r≤2047 by omega),List.map_cons,List.map_nil,u8,Option.bind_some]
 rw [if_neg h2]
 have n2:¬ (128≤r∧r≤2047):=by omega
 by_cases h3:r < 55296∨(57343 < r∧r≤65535)
 ·have hw8:IntKind.wrap .u8 (r / 4096)=r / 4096:=by rw [vo]; omega
  have e:((if r < 55296 then some true else if 57343 < r then some (decide (r≤65535)) else some false):Option Bool)=some true:=by
   rcases h3 with q | q
   ·rw [if_pos q]
   ·rw [if_neg O,if_pos q.1]; simp [q.2]
  rw [e,Option.bind_some,if_pos rfl,hw8,E2 O O,b8 O,b8 O,b8 O,b8 O,b8 O,b8 (by simp; omega)]
  simp only [encodeRune,encodeRuneZ,if_neg n1,if_neg n2,if_pos (show (2048≤r∧r < 55296)∨(57343 < r∧r≤65535) by omega),List.map_cons,List.map_nil,u8,Option.bind_some]
 ·have h4:65535 < r:=by unfold gi at h; omega
  have hw8:IntKind.wrap .u8 (r / 262144)=r / 262144:=by rw [vo]; omega
  have e:((if r < 55296 then some true else if 57343 < r then some (decide (r≤65535)) else some false):Option Bool)=some false:=by
   rw [if_neg O,if_pos O]; simp; omega
  have e2:((if 65535 < r then some (decide (r≤1114111)) else some false):Option Bool)=some true:=by rw [if_pos h4]; simp; omega
  rw [e,Option.bind_some,if_neg G,e2,Option.bind_some,if_pos rfl,hw8,ED O O,b8 O,b8 O,b8 O,b8 O,b8 O,b8 O,b8 O,b8 (by simp; omega)]
  simp only [encodeRune,encodeRuneZ,if_neg n1,if_neg n2,if_neg (show ¬ ((2048≤r∧r < 55296)∨(57343 < r∧r≤65535)) by omega),if_pos (show 65536≤r∧r≤1114111 by omega),List.map_cons,List.map_nil,u8,Option.bind_some]
theorem oG (l:Bytes)(h:l≠[]):decodeGo (str l)=decodeL l:=by
 unfold decodeGo
 rw [if_neg]
 ·rfl
 ·rw [ic]; intro q; exact h (List.length_eq_zero_iff.1 q)
theorem kC (r:Int)(h:gi r):1≤(encodeRune r).length∧(encodeRune r).length≤4:=by
 unfold encodeRune encodeRuneZ
 rw [List.length_map]
 repeat' split
 all_goals simp
theorem xD (r:Int)(h:gi r)(t:Bytes):decodeL (encodeRune r++t)=(r.toNat,(encodeRune r).length):=by
 have h0:0≤r∧r≤1114111:=by unfold gi at h; omega
 have hb:∀ x:Int,0≤x→x < 256→(x.toNat.toUInt8).toNat=x.toNat:=λ x a b=>by
  show (UInt8.ofNat x.toNat).toNat=_
  rw [UInt8.toNat_ofNat']; omega
 rw [decodeL_N]
 by_cases h1:r≤127
 ·have e:encodeRune r=[r.toNat.toUInt8]:=by simp only [encodeRune,encodeRuneZ,if_pos (show 0≤r∧r≤127 from ⟨h0.1,h1⟩),List.map_cons,List.map_nil]
  rw [e]
  have b0:=hb r O O
  simp only [List.cons_append,List.getD_cons_zero,b0]
  unfold decodeN
  rw [if_pos O]; rfl
 have n1:¬ (0≤r∧r≤127):=by omega
 by_cases h2:r≤2047
 ·have e:encodeRune r=[(192+r / 64).toNat.toUInt8,(128+r % 64).toNat.toUInt8]:=by
   simp only [encodeRune,encodeRuneZ,if_neg n1,if_pos (show 128≤r∧r≤2047 by omega),List.map_cons,List.map_nil]
  rw [e]
  have b0:=hb (192+r / 64) O O
  have b1:=hb (128+r % 64) O O
  simp only [List.cons_append,List.getD_cons_zero,List.getD_cons_succ,b0,b1,List.length_cons,List.nil_append]
  unfold decodeN
  rw [if_neg O,if_pos O,if_pos O]
  refine Prod.ext ?_ Z
  show _=r.toNat
  simp only; omega
 have n2:¬ (128≤r∧r≤2047):=by omega
 by_cases h3:r < 55296∨(57343 < r∧r≤65535)
 ·have e:encodeRune r=[(224+r / 4096).toNat.toUInt8,(128+r / 64 % 64).toNat.toUInt8,(128+r % 64).toNat.toUInt8]:=by
   simp only [encodeRune,encodeRuneZ,if_neg n1,if_neg n2,if_pos (show (2048≤r∧r < 55296)∨(57343 < r∧r≤65535) by omega),List.map_cons,List.map_nil]
  rw [e]
  have b0:=hb (224+r / 4096) O O
  have b1:=hb (128+r / 64 % 64) O O
  have b2:=hb (128+r % 64) O O
  simp only [List.cons_append,List.getD_cons_zero,List.getD_cons_succ,b0,b1,b2,List.length_cons,List.nil_append]
  unfold decodeN
  rw [if_neg O,if_neg O,if_pos O,if_pos O]
  refine Prod.ext ?_ Z
  show _=r.toNat
  simp only; omega
 ·have h4:65535 < r:=by unfold gi at h; omega
  have e:encodeRune r=[(240+r / 262144).toNat.toUInt8,(128+r / 4096 % 64).toNat.toUInt8,(128+r / 64 % 64).toNat.toUInt8,(128+r % 64).toNat.toUInt8]:=by
   simp only [encodeRune,encodeRuneZ,if_neg n1,if_neg n2,if_neg (show ¬ ((2048≤r∧r < 55296)∨(57343 < r∧r≤65535)) by omega),if_pos (show 65536≤r∧r≤1114111 by omega),List.map_cons,List.map_nil]
  rw [e]
  have b0:=hb (240+r / 262144) O O
  have b1:=hb (128+r / 4096 % 64) O O
  have b2:=hb (128+r / 64 % 64) O O
  have b3:=hb (128+r % 64) O O
  simp only [List.cons_append,List.getD_cons_zero,List.getD_cons_succ,b0,b1,b2,b3,List.length_cons,List.nil_append]
  unfold decodeN
  rw [if_neg O,if_neg O,if_neg O,if_pos O,if_pos O]
  refine Prod.ext ?_ Z
  show _=r.toNat
  simp only; omega
theorem tG (r:Int)(h:gi r)(t:Bytes):validD (encodeRune r++t)=validD t:=by
 have hl:=kC r h
 have hne:encodeRune r++t≠[]:=by
  intro q; rw [List.append_eq_nil_iff] at q; rw [q.1] at hl; simp at hl
 rw [validD_step _ hne,xD r h t,if_neg]
 ·simp
 ·rintro ⟨a,b⟩
  have hr:r=65533:=by omega
  subst hr
  simp [encodeRune,encodeRuneZ] at b
theorem jb (l:Bytes)(h:l≠[]):1≤(decodeL l).2∧(decodeL l).2≤l.length∧(¬ ((decodeL l).1=65533∧(decodeL l).2=1)→gi ((decodeL l).1:Int)∧encodeRune ((decodeL l).1:Int)=l.take (decodeL l).2):=by
 have hl:0 < l.length:=List.length_pos_iff.2 h
 have hd:=decN l.length (l.getD 0 0).toNat (l.getD 1 0).toNat (l.getD 2 0).toNat (l.getD 3 0).toNat O (UInt8.toNat_lt _)
 rw [← decodeL_N] at hd
 refine ⟨hd.1,hd.2.1,λ q=>⟨?_,encode_decode l h q⟩⟩
 have:=hd.2.2.2.2.2
 unfold gi; omega
theorem wu (l:Bytes)(h:l≠[]):validD l=true↔¬ ((decodeL l).1=65533∧(decodeL l).2=1)∧validD (l.drop (decodeL l).2)=true:=by
 rw [validD_step l h]
 by_cases q:(decodeL l).1=65533∧(decodeL l).2=1
 ·simp [q]
 ·simp [q]
end Go.Ab.R06
namespace Go.Ab.R06
open Go.Ab Go.Ab.RB Go.Lib
theorem Dg (f:Bytes)(r:Int)(hr:gi r)(h:f.length≤10000000000):dA (bZ.mk f) r=some (((encodeRune r).length:Int),false,bZ.mk (f++encodeRune r)):=by
 have hl:=kC r hr
 unfold dA fx
 rw [Option.bind_some,vu f r hr O,Option.bind_some]
 have e:((f++encodeRune r).length:Int) - (f.length:Int)=(encodeRune r).length:=by rw [List.length_append]; omega
 rw [e,b8 (aG O O)]
theorem bstr (f:Bytes)(h:f.length≤1000000000000):eO (bZ.mk f)=some (f,bZ.mk f):=by
 unfold eO
 rw [b8 (by simp only; omega)]
theorem Dn (s:Bytes):iO s=some (decide (s.length≤4096)&&validD s):=by
 unfold iO
 by_cases h:(s.length:Int)≤4096
 ·have hv:ep s=some (validD s):=by unfold ep; exact b8 O
  rw [if_pos h,hv]
  simp; omega
 ·rw [if_neg h]
  simp; intro q; omega
end Go.Ab.R06
namespace Go.Ab.R06
open Go.Ab Go.Ab.RB Go.Lib
def pf (b:UInt8):Option Nat:=if 48≤b.toNat∧b.toNat≤57 then some (b.toNat - 48) else if 97≤b.toNat∧b.toNat≤102 then some (b.toNat - 87) else none
def Ac:Bytes:=[48,49,50,51,52,53,54,55,56,57,97,98,99,100,101,102]
theorem hexT:(List.range 256).all (λ n=>indexByte Ac (UInt8.ofNat n) == (match pf (UInt8.ofNat n) with | some d=>(d:Int) | none=>-1))=true:=by kernel_rfl
theorem ue (b:UInt8):indexByte Ac b=match pf b with | some d=>(d:Int) | none=>-1:=by
 have:=eq_of_beq (List.all_eq_true.1 hexT b.toNat (List.mem_range.2 b.toNat_lt))
 simpa using this
theorem BW {b:UInt8}{d:Nat}(h:pf b=some d):d < 16:=by
 unfold pf at h
 split at h
 ·cases h; omega
 ·split at h
  ·cases h; omega
  ·cases h
def co:Nat→Bytes→Nat→Nat×Nat
 | 0,_,a=>(a,0)
 | _+1,[],a=>(a,0)
 | k+1,b::r,a=>match pf b with
  | some d=>((co k r (16*a+d)).1,(co k r (16*a+d)).2+1)
  | none=>(a,0)
theorem ny:∀ (k:Nat) (l:Bytes) (a:Nat),(co k l a).2≤k∧(co k l a).2≤l.length
 | 0,_,_=>⟨Nat.le_refl _,Nat.zero_le _⟩
 | _+1,[],_=>⟨Nat.zero_le _,Nat.le_refl _⟩
 | k+1,b::r,a=>by
  unfold co
  cases pf b with
  | none=>exact ⟨Nat.zero_le _,Nat.zero_le _⟩
  | some d=>have:=ny k r (16*a+d); simp only [List.length_cons]; omega
theorem nD (n:Int)(h0:0≤n)(h1:n < 2147483648):IntKind.wrap .i32 n=n:=by
 simp [IntKind.wrap,IntKind.bits,IntKind.signed]
 omega
theorem Es (s:Bytes)(hs:s.length≤1000000000):∀ (k i a:Nat),i+k=6→i≤s.length→a < 16 ^ i→Ev2 (λ _ m=>bM s m (a:Int) (i:Int))
  (·=(((co k (s.drop i) a).1:Int),((i+(co k (s.drop i) a).2:Nat):Int))):=by
 intro k
 induction k with
 | zero =>
  intro i a hi hl ha
  refine aV ?_
  simp only [bM]
  refine ao false ?_ (ai G (ab (by simp [co])))
  exact aP (λ h=>ab (by simp; omega)) (λ h=>ab Z)
 | succ k ih =>
  intro i a hi hl ha
  refine aV ?_
  simp only [bM]
  by_cases h:i < s.length
  ·refine ao true (aj O (ab (by simp; omega))) (aj Z (ar O ?_))
   have hb:byt s i=((s.getD i 0).toNat:Int):=gj s i
   rw [hb]
   have hd:s.drop i=s.getD i 0::s.drop (i+1):=by
    rw [List.getD_eq_getElem?_getD,List.getElem?_eq_getElem h,Option.getD_some]
    exact List.drop_eq_getElem_cons h
   rw [hd]
   generalize s.getD i 0=b
   have hx:strings_IndexByte ([48,49,50,51,52,53,54,55,56,57,97,98,99,100,101,102]:Bytes) (b.toNat:Int)=some (indexByte Ac b):=by
    unfold strings_IndexByte
    have:((b.toNat:Int).toNat.toUInt8)=b:=by simp
    rw [this]; rfl
   refine ao _ (au hx Z) ?_
   rw [ue]
   unfold co
   cases hh:pf b with
   | none=>exact aj (by decide) (ab G)
   | some d =>
    have hlt:=BW hh
    have hp:16 ^ i≤16 ^ 5:=Nat.pow_le_pow_right (by decide) O
    have hp5:(16:Nat) ^ 5=1048576:=rfl
    refine ai G (ar (aG O O) ?_)
    have e1:IntKind.wrap .i32 (16*(a:Int))=16*(a:Int):=nD _ O O
    have e2:IntKind.wrap .i32 (d:Int)=(d:Int):=nD _ O O
    have e3:IntKind.wrap .i32 (16*(a:Int)+(d:Int))=((16*a+d:Nat):Int):=by
     rw [nD _ O O]; omega
    rw [e1,e2,e3]
    have:=ih (i+1) (16*a+d) O O  (by rw [Nat.pow_succ]; omega)
    rw [show (((i+1:Nat)):Int)=(i:Int)+1 by omega] at this
    refine cA this λ r hr=>?_
    rw [hr]
    refine Prod.ext Z ?_
    show ((i+1+_:Nat):Int)=((i+(_+1):Nat):Int)
    omega
  ·refine ao false (ai O (ab Z)) (ai G (ab ?_))
   rw [List.drop_of_length_le O]
   simp [co]
def fp (s:Bytes):Int×Int×Int :=
 let h:=co 6 s 0
 if h.2=s.length then (0,0,40)
 else if s.getD h.2 0≠125∨h.2=0∨(1 < h.2∧s.getD 0 0=48)∨validRune (h.1:Int)=false then (0,0,2)
 else ((h.1:Int),((h.2+1:Nat):Int),0)
theorem vS {b:UInt8}{n:Nat}(hn:n < 256):b.toNat=n↔b=UInt8.ofNat n:=by
 constructor
 ·intro h; apply UInt8.toNat_inj.1; rw [h,UInt8.toNat_ofNat']; omega
 ·intro h; rw [h,UInt8.toNat_ofNat']; omega
theorem CE {s:Bytes}{v c:Nat}(h:co 6 s 0=(v,c)):fp s=if c=s.length then (0,0,40) else if s.getD c 0≠125∨c=0∨(1 < c∧s.getD 0 0=48)∨validRune (v:Int)=false then (0,0,2) else ((v:Int),((c+1:Nat):Int),0):=by
 unfold fp; rw [h]
theorem Cs (s:Bytes)(hs:s.length≤1000000000):Ev2 (λ n _=>cO n s) (·=fp s):=by
 simp only [cO]
 have l:=Es s hs 6 0 0 Z (Nat.zero_le _) (by decide)
 rw [List.drop_zero,Nat.zero_add] at l
 have hle:=ny 6 s 0
 refine ao _ (bS l) ?_
 obtain ⟨v,c,hh⟩:∃ v c,co 6 s 0=(v,c):=⟨_,_,rfl⟩
 have hP:=CE hh
 rw [hh] at hle ⊢
 simp only at hle ⊢
 refine aP (λ h=>ab ?_) (λ h=>?_)
 ·rw [hP,if_pos O]
 rw [if_neg (show ¬ c=s.length by omega)] at hP
 have hb:byt s c=((s.getD c 0).toNat:Int):=gj s c
 have hb0:byt s 0=((s.getD 0 0).toNat:Int):=gj s 0
 have h125:(s.getD c 0).toNat=125↔s.getD c 0=125:=vS (by decide)
 have h48:(s.getD 0 0).toNat=48↔s.getD 0 0=48:=vS (by decide)
 have hv:dr (v:Int)=some (validRune (v:Int)):=rfl
 have key:Ev2 (λ _ _=>(ck ((0:Int)≤(c:Int)∧(c:Int) < (s.length:Int)) <|
  if byt s c=125 then
   if (c:Int)=0 then some true
   else
   if 1 < (c:Int) then
    ck ((0:Int)≤0∧0 < (s.length:Int)) <|
    if byt s 0=48 then some true
    else (dr (v:Int)).bind λ r32=>some (!r32)
   else (dr (v:Int)).bind λ r34=>some (!r34)
  else some true:Option Bool)) (·=decide (s.getD c 0≠125∨c=0∨(1 < c∧s.getD 0 0=48)∨validRune (v:Int)=false)):=by
  refine ar O ?_
  rw [hb,hb0]
  refine aP (λ h1=>aP (λ h2=>ab ?_) (λ h2=>aP (λ h3=>ar O (aP (λ h4=>ab ?_) (λ h4=>?_))) (λ h3=>?_))) (λ h1=>ab ?_)
  ·symm; rw [decide_eq_true_eq]; right; left; omega
  ·symm; rw [decide_eq_true_eq]; right; right; left; exact ⟨by omega,h48.1 O⟩
  ·have q1:¬ s.getD c 0≠125:=λ q=>q (h125.1 O)
   have q2:¬ (1 < c∧s.getD 0 0=48):=λ q=>h4 (by have:=h48.2 q.2; omega)
   refine ao _ (au hv Z) (ab (eqB ?_))
   rw [decide_eq_true_eq]
   have:¬ c=0:=by omega
   simp only [q1,q2,false_or,this,Bool.not_eq_true']
  ·have q1:¬ s.getD c 0≠125:=λ q=>q (h125.1 O)
   refine ao _ (au hv Z) (ab (eqB ?_))
   rw [decide_eq_true_eq]
   have a1:¬ c=0:=by omega
   have a2:¬ 1 < c:=by omega
   simp only [q1,a1,a2,false_or,false_and,Bool.not_eq_true']
  ·symm; rw [decide_eq_true_eq]; left; intro q; exact h1 (by have:=h125.2 q; omega)
 refine ao _ key ?_
 refine aP (λ h1=>ab ?_) (λ h1=>ar (aG O O) (ab ?_))
 ·rw [hP,if_pos (of_decide_eq_true h1)]
 ·rw [hP,if_neg (λ q=>h1 (decide_eq_true q))]
  refine Prod.ext Z (Prod.ext ?_ Z)
  show (c:Int)+1=((c+1:Nat):Int)
  omega
def dQ (s:Bytes):Int×Int×Int:=match s with
 | []=>(0,0,40)
 | b::r=>if b.toNat=110 then (10,1,0) else if b.toNat=114 then (13,1,0) else if b.toNat=116 then (9,1,0)
  else if b.toNat=34∨b.toNat=92 then ((b.toNat:Int),1,0)
  else if b.toNat=117 then (match r with
   | []=>(0,0,40)
   | c::t=>if c.toNat=123 then ((fp t).1,(fp t).2.1+2,(fp t).2.2) else (0,0,2))
  else (0,0,2)
theorem p7 (b:UInt8)(r:Bytes):dQ (b::r)=if b.toNat=110 then (10,1,0) else if b.toNat=114 then (13,1,0) else if b.toNat=116 then (9,1,0)
  else if b.toNat=34∨b.toNat=92 then ((b.toNat:Int),1,0)
  else if b.toNat=117 then (match r with
   | []=>(0,0,40)
   | c::t=>if c.toNat=123 then ((fp t).1,(fp t).2.1+2,(fp t).2.2) else (0,0,2))
  else (0,0,2):=rfl
theorem yf (s:Bytes):0≤(fp s).2.1∧(fp s).2.1≤s.length∧((fp s).2.2=0→gi (fp s).1)∧0≤(fp s).2.2:=by
 have hle:=ny 6 s 0
 unfold fp
 generalize co 6 s 0=h at hle ⊢
 obtain ⟨v,c⟩:=h
 simp only at hle ⊢
 split
 ·simp <;> omega
 ·split
  ·simp <;> omega
  ·rename_i h1 h2
   refine ⟨by simp only; omega,by simp only; omega,λ _=>?_,by simp⟩
   have:validRune (v:Int)=true:=by
    cases hv:validRune (v:Int) with
    | true=>rfl
    | false=>exact absurd (.inr (.inr (.inr hv))) h2
   simp only [validRune,decide_eq_true_eq] at this
   unfold gi; simp only; omega
theorem pn (s:Bytes):0≤(dQ s).2.1∧(dQ s).2.1≤s.length+1∧((dQ s).2.2=0→gi (dQ s).1∧(dQ s).2.1≤s.length)∧0≤(dQ s).2.2:=by
 unfold dQ
 split
 ·simp
 ·rename_i b r
  have hb:=b.toNat_lt
  split
  ·simp [gi] <;> omega
  split
  ·simp [gi] <;> omega
  split
  ·simp [gi] <;> omega
  split
  ·simp [gi] <;> omega
  split
  ·split
   ·simp
   ·rename_i c t
    have:=yf t
    split
    ·refine ⟨by simp only; omega,by simp only [List.length_cons]; omega,λ q=>⟨this.2.2.1 q,by simp only [List.length_cons]; omega⟩,this.2.2.2⟩
    ·simp <;> omega
  ·simp <;> omega
theorem BZ (s:Bytes)(hs:s.length≤1000000000):Ev2 (λ n _=>eZ n s) (·=dQ s):=by
 simp only [eZ]
 cases s with
 | nil=>exact aj Z (ab Z)
 | cons b r =>
  have hl:((b::r).length:Int)=(r.length:Int)+1:=by simp
  refine ai G (ar O ?_)
  have hb:byt (b::r) 0=(b.toNat:Int):=rfl
  have hbl:=b.toNat_lt
  rw [hb]
  have hP:=p7 b r
  refine aP (λ h=>ab (by rw [hP,if_pos O])) (λ h1=>?_)
  rw [if_neg (show ¬ b.toNat=110 by omega)] at hP
  refine aP (λ h=>ab (by rw [hP,if_pos O])) (λ h2=>?_)
  rw [if_neg (show ¬ b.toNat=114 by omega)] at hP
  refine aP (λ h=>ab (by rw [hP,if_pos O])) (λ h3=>?_)
  rw [if_neg (show ¬ b.toNat=116 by omega)] at hP
  refine ao (decide (b.toNat=34∨b.toNat=92)) ?_ ?_
  ·by_cases h:b.toNat=34
   ·exact aj O (ab (by simp [h]))
   ·exact ai O (ab (eqB (by rw [decide_eq_true_eq,decide_eq_true_eq]; omega)))
  by_cases h4:b.toNat=34∨b.toNat=92
  ·rw [if_pos h4] at hP
   rw [hP]
   refine aj (by simp [h4]) (ar O (ab ?_))
   rw [nD _ O O]
  rw [if_neg h4] at hP
  refine ai (by simp only [decide_eq_true_eq]; exact h4) ?_
  refine aP (λ h5=>?_) (λ h5=>ab (by rw [hP,if_neg O]))
  rw [if_pos (show b.toNat=117 by omega)] at hP
  rw [hP]
  cases r with
  | nil=>exact aj G (ab Z)
  | cons c t =>
   have hl2:((b::c::t).length:Int)=(t.length:Int)+2:=by simp <;> omega
   refine ai O (ar O ?_)
   have hc:byt (b::c::t) 1=(c.toNat:Int):=rfl
   rw [hc]
   refine aP (λ h6=>ar O ?_) (λ h6=>ab (by show _=if c.toNat=123 then _ else _; rw [if_neg O]))
   have e6:(if c.toNat=123 then ((fp t).1,(fp t).2.1+2,(fp t).2.2) else ((0,0,2):Int×Int×Int))=((fp t).1,(fp t).2.1+2,(fp t).2.2):=if_pos O
   show Ev2 _ (·=if c.toNat=123 then ((fp t).1,(fp t).2.1+2,(fp t).2.2) else ((0,0,2):Int×Int×Int))
   rw [e6,iU]
   show Ev2 (λ n m=>(cO n t).bind _) _
   have hle:=yf t
   have htl:t.length≤1000000000:=by simp at hs; omega
   exact ao _ (Cs t htl) (ar (aG O O) (ab Z))
end Go.Ab.R06
namespace Go.Ab.R06
open Go.Ab Go.Ab.RB Go.Lib
def ln (c:Nat×Nat):Prop:=(c.1=65533∧c.2=1)∨c.1 < 32∨c.1=127
instance (c:Nat×Nat):Decidable (ln c):=inferInstanceAs (Decidable (_∨_))
def mL:Nat→Bytes→Nat→Bytes→(Int×Bytes)⊕(Bytes×Int×Int)
 | 0,_,at',acc=>.inl ((at':Int),acc)
 | _+1,[],at',acc=>.inl ((at':Int),acc)
 | n+1,b::r,at',acc=>if b.toNat=34 then .inl ((at':Int),acc)
  else if (decodeL (b::r)).1=92 then
   (if (dQ r).2.2=0 then mL n (r.drop (dQ r).2.1.toNat) (at'+((dQ r).2.1.toNat+1)) (acc++encodeRune (dQ r).1) else .inr ([],0,(dQ r).2.2))
  else if ln (decodeL (b::r)) then .inr ([],0,2)
  else mL n ((b::r).drop (decodeL (b::r)).2) (at'+(decodeL (b::r)).2) (acc++encodeRune ((decodeL (b::r)).1:Int))
theorem nz (n:Nat)(b:UInt8)(r:Bytes)(at':Nat)(acc:Bytes):mL (n+1) (b::r) at' acc=if b.toNat=34 then .inl ((at':Int),acc)
  else if (decodeL (b::r)).1=92 then
   (if (dQ r).2.2=0 then mL n (r.drop (dQ r).2.1.toNat) (at'+((dQ r).2.1.toNat+1)) (acc++encodeRune (dQ r).1) else .inr ([],0,(dQ r).2.2))
  else if ln (decodeL (b::r)) then .inr ([],0,2)
  else mL n ((b::r).drop (decodeL (b::r)).2) (at'+(decodeL (b::r)).2) (acc++encodeRune ((decodeL (b::r)).1:Int)):=by rw [mL]
theorem Ed (s:Bytes)(hs:s.length≤1000000000):∀ (k:Nat) (l:Bytes) (i:Nat) (f:Bytes),l.length < k→s.drop i=l→i+l.length=s.length→f.length≤4*i→Ev2 (λ n m=>cH n s m (i:Int) f) (·=mL k l i f):=by
 intro k
 induction k with
 | zero=>intro l i f h; omega
 | succ k ih =>
  intro l i f hk hl hi hf
  refine aV ?_
  simp only [cH]
  cases l with
  | nil =>
   simp only [List.length_nil] at hi
   refine ao false (ai O (ab Z)) (ai G (ab ?_))
   rw [mL]
  | cons b r =>
   have hil:i < s.length:=by simp only [List.length_cons] at hi; omega
   have hb:byt s i=(b.toNat:Int):=by
    rw [gj]
    have:s.getD i 0=b:=by
     have:=List.drop_eq_getElem_cons hil
     rw [hl] at this
     rw [List.getD_eq_getElem?_getD,List.getElem?_eq_getElem hil]
     exact (List.cons.inj this).1.symm
    rw [this]
   have hr:s.drop (i+1)=r:=by
    have:=List.drop_eq_getElem_cons hil
    rw [hl] at this
    exact (List.cons.inj this).2.symm
   have hlr:r.length+i+1=s.length:=by simp only [List.length_cons] at hi; omega
   have hU:=nz k b r i f
   rw [hb]
   by_cases h34:b.toNat=34
   ·rw [if_pos h34] at hU
    exact ao false (aj O (ar O (ab (by simp; omega)))) (ai G (ab hU.symm))
   rw [if_neg h34] at hU
   refine ao true (aj O (ar O (ab (by simp; omega)))) (aj Z (ar O ?_))
   rw [iU,Int.toNat_natCast,hl]
   have hd:aZ (b::r)=some (((decodeL (b::r)).1:Int),((decodeL (b::r)).2:Int)):=by
    unfold aZ
    rw [oG _ G]
   refine ao _ (au hd Z) ?_
   have hdf:=jb (b::r) G
   generalize hD:decodeL (b::r)=D at hU hdf ⊢
   obtain ⟨c,w⟩:=D
   simp only at hU hdf ⊢
   by_cases h92:c=92
   ·rw [if_pos h92] at hU
    have hes:=pn r
    have hev:=BZ r O
    have sub1:sub s ((i:Int)+1) (s.length:Int)=r:=by
     rw [iU,show ((i:Int)+1).toNat=i+1 by omega,hr]
    generalize dQ r=E at hU hes hev
    obtain ⟨x,y,z⟩:=E
    simp only at hU hes hev
    by_cases hz:z=0
    ·rw [if_pos hz] at hU
     refine eg (aj O (ar (aG O O) (ar O ?_)))
     rw [sub1]
     obtain ⟨e1,e2⟩:=hes.2.2.1 hz
     obtain ⟨y',rfl⟩:∃ y':Nat,y=y':=⟨y.toNat,by omega⟩
     rw [Int.toNat_natCast] at hU
     refine ao _ hev (aj hz (ar (aG (by dsimp only; omega) (by dsimp only; omega)) (ab ?_)))
     refine ao _ (au (Dg f x e1 O) Z) (ar (aG (by dsimp only; omega) (by dsimp only; omega)) ?_)
     have hle:=kC x e1
     have:=ih (r.drop y') (i+(y'+1)) (f++encodeRune x) (by rw [List.length_drop]; simp only [List.length_cons] at hk; omega) (by rw [← hr,List.drop_drop]; congr 1; omega) (by rw [List.length_drop]; omega) (by rw [List.length_append]; omega)
     rw [← hU] at this
     rw [show ((i+(y'+1):Nat):Int)=(i:Int)+((y':Int)+1) by omega] at this
     exact this
    ·rw [if_neg hz] at hU
     refine eg (aj O (ar (aG O O) (ar O ?_)))
     rw [sub1]
     refine ao _ hev (ai hz (ab ?_))
     exact hU.symm
   ·rw [if_neg h92] at hU
    have hbad:Ev2 (λ _ _=>(if (c:Int)=65533 then if (w:Int)=1 then some true else if (c:Int) < 32 then some true else some (decide ((c:Int)=127)) else if (c:Int) < 32 then some true else some (decide ((c:Int)=127)):Option Bool)) (·=decide (ln (c,w))):=by
     refine aP (λ h1=>aP (λ h2=>ab ?_) (λ h2=>aP (λ h3=>ab ?_) (λ h3=>ab (eqB ?_)))) (λ h1=>aP (λ h3=>ab ?_) (λ h3=>ab (eqB ?_)))
     ·symm; rw [decide_eq_true_eq]; left; simp only; omega
     ·symm; rw [decide_eq_true_eq]; right; left; simp only; omega
     ·rw [decide_eq_true_eq,decide_eq_true_eq]; unfold ln; simp only; omega
     ·symm; rw [decide_eq_true_eq]; right; left; simp only; omega
     ·rw [decide_eq_true_eq,decide_eq_true_eq]; unfold ln; simp only; omega
    by_cases hbd:ln (c,w)
    ·rw [if_pos hbd] at hU
     refine eg (ai O (ao _ hbad (aj (by simp only [decide_eq_true_eq]; exact hbd) (ab ?_))))
     exact hU.symm
    ·rw [if_neg hbd] at hU
     refine eg (ai O (ao _ hbad (ai (by simp only [decide_eq_true_eq]; exact hbd) (ab ?_))))
     have hgood:=hdf.2.2 (λ q=>hbd (.inl q))
     refine ao _ (au (Dg f c hgood.1 O) Z) (ar (aG (by simp only [List.length_cons] at hdf; omega) (by simp only [List.length_cons] at hdf; omega)) ?_)
     have hle:=kC c hgood.1
     have hw:w≤r.length+1:=by simpa using hdf.2.1
     have hw1:=hdf.1
     have:=ih ((b::r).drop w) (i+w) (f++encodeRune (c:Int)) (by rw [List.length_drop]; simp only [List.length_cons] at hk ⊢; omega) (by rw [← hl,List.drop_drop]) (by rw [List.length_drop]; simp only [List.length_cons]; omega) (by rw [List.length_append]; omega)
     rw [← hU] at this
     rw [show ((i+w:Nat):Int)=(i:Int)+(w:Int) by omega] at this
     exact this
def zQ:Bytes→Bytes×Int×Int
 | []=>([],0,40)
 | b::r=>if b.toNat=34 then (match mL (r.length+1) r 1 [] with
   | .inl q=>if q.1=((r.length+1:Nat):Int) then ([],0,40) else if 4096 < q.2.length then ([],0,3) else (q.2,q.1+1,0)
   | .inr e=>e)
  else ([],0,2)
theorem uc (b:UInt8)(r:Bytes):zQ (b::r)=if b.toNat=34 then (match mL (r.length+1) r 1 [] with
   | .inl q=>if q.1=((r.length+1:Nat):Int) then ([],0,40) else if 4096 < q.2.length then ([],0,3) else (q.2,q.1+1,0)
   | .inr e=>e)
  else ([],0,2):=rfl
theorem Cy:∀ (k:Nat) (l:Bytes) (i:Nat) (f:Bytes),(∀ a g,mL k l i f=.inl (a,g)→(i:Int)≤a∧a≤((i+l.length:Nat):Int)∧g.length≤f.length+4*l.length∧((∀ t,validD (f++t)=validD t)→∀ t,validD (g++t)=validD t))∧(∀ x,mL k l i f=.inr x→x.1=[]∧x.2.1=0∧x.2.2≠0):=by
 intro k
 induction k with
 | zero =>
  intro l i f
  refine ⟨λ a g h=>?_,λ x h=>(by rw [mL] at h; cases h)⟩
  rw [mL] at h; cases h
  exact ⟨by omega,by omega,by omega,λ q=>q⟩
 | succ k ih =>
  intro l i f
  cases l with
  | nil =>
   refine ⟨λ a g h=>?_,λ x h=>(by rw [mL] at h; cases h)⟩
   rw [mL] at h; cases h
   exact ⟨by omega,by simp,by simp,λ q=>q⟩
  | cons b r =>
   rw [nz]
   have hdf:=jb (b::r) G
   have hes:=pn r
   split
   ·refine ⟨λ a g h=>?_,λ x h=>(by cases h)⟩
    cases h
    exact ⟨by omega,by simp only [List.length_cons]; omega,by omega,λ q=>q⟩
   split
   ·split
    ·rename_i hz
     obtain ⟨e1,e2⟩:=hes.2.2.1 hz
     have hle:=kC _ e1
     have hi:=ih (r.drop (dQ r).2.1.toNat) (i+((dQ r).2.1.toNat+1)) (f++encodeRune (dQ r).1)
     refine ⟨λ a g h=>?_,hi.2⟩
     have:=hi.1 a g h
     rw [List.length_drop,List.length_append] at this
     refine ⟨by omega,by simp only [List.length_cons]; omega,by simp only [List.length_cons]; omega,λ q=>this.2.2.2 λ t=>?_⟩
     rw [List.append_assoc,q,tG _ e1]
    ·rename_i hz
     refine ⟨λ a g h=>(by cases h),λ x h=>?_⟩
     cases h
     exact ⟨Z,Z,hz⟩
   split
   ·refine ⟨λ a g h=>(by cases h),λ x h=>?_⟩
    cases h
    exact ⟨Z,Z,by decide⟩
   ·rename_i hbd
    have hgood:=hdf.2.2 (λ q=>hbd (.inl q))
    have hle:=kC _ hgood.1
    have hi:=ih ((b::r).drop (decodeL (b::r)).2) (i+(decodeL (b::r)).2) (f++encodeRune ((decodeL (b::r)).1:Int))
    refine ⟨λ a g h=>?_,hi.2⟩
    have:=hi.1 a g h
    rw [List.length_drop,List.length_append] at this
    simp only [List.length_cons] at this hdf ⊢
    refine ⟨by omega,by omega,by omega,λ q=>this.2.2.2 λ t=>?_⟩
    rw [List.append_assoc,q,tG _ hgood.1]
theorem Dm (s:Bytes)(hs:s.length≤1000000000):Ev2 (λ n _=>d7 n s) (·=zQ s):=by
 simp only [d7]
 cases s with
 | nil=>exact aj Z (ab Z)
 | cons b r =>
  have hl:((b::r).length:Int)=(r.length:Int)+1:=by simp
  have hln:(b::r).length=r.length+1:=by simp
  refine ai G (ar O ?_)
  have hb:byt (b::r) 0=(b.toNat:Int):=rfl
  rw [hb]
  rw [uc]
  refine aP (λ h=>?_) (λ h=>ab (by rw [if_neg (show ¬ b.toNat=34 by omega)]))
  have l:=Ed (b::r) hs (r.length+1) r 1 [] O rfl O G
  have hle:=Cy (r.length+1) r 1 []
  have e34:b.toNat=34:=by omega
  simp only [e34,if_true]
  generalize mL (r.length+1) r 1 []=U at l hle ⊢
  cases U with
  | inr e=>exact jJ e (bS l) Z
  | inl q =>
   obtain ⟨a,g⟩:=q
   have hq:=hle.1 a g Z
   simp only [List.length_nil,Nat.zero_add] at hq
   refine fE (a,g) (bS l) ?_
   refine aP (λ h=>ab (by simp only at h ⊢; rw [if_pos O])) (λ h=>?_)
   simp only at h ⊢
   rw [if_neg O]
   refine ao _ (au Z Z) (aP (λ h1=>ab (by simp only at h1; rw [if_pos O])) (λ h1=>?_))
   simp only at h1
   rw [if_neg O]
   refine ao _ (au (bstr g O) Z) (ar (aG O O) (ab Z))
theorem yY (b:UInt8)(h:b.toNat < 128):encodeRune (b.toNat:Int)=[b]:=by
 simp only [encodeRune,encodeRuneZ,if_pos (show (0:Int)≤(b.toNat:Int)∧(b.toNat:Int)≤127 by omega),List.map_cons,List.map_nil]
 simp
end Go.Ab.R06
end
section
namespace Go.Ab
open Go
def tmO:Operand→List Nat
 | .tmp t=>[t]
 | _=>[]
def tmL:List (Nat×Operand)→List Nat
 | []=>[]
 | (_,x)::r=>tmO x++tmL r
def opR (o:Oper):List Nat:=match o.op with
 | .move x=>tmO x
 | .assign x=>tmO x
 | .pick c x y=>tmO c++(tmO x++tmO y)
 | .binOp _ _ x y _=>tmO x++tmO y
 | .unOp _ _ x=>tmO x
 | .fieldAddr _ x _=>tmO x
 | .load _ x=>tmO x
 | .nilCheck x=>tmO x
 | .extract x _=>tmO x
 | .field _ x _=>tmO x
 | .convert _ _ x=>tmO x
 | .build _ parts=>tmL parts.toList
 | .store _ x v=>tmO x++tmO v
 | _=>[]
def og (o:Oper):Bool:=match o.op with
 | .call _=>false
 | _=>true
def knKS:fu→Nat→Option Nat
 | [],_=>none
 | (k,d,_)::r,i=>bif Nat.beq d i then some k else knKS r i
def Ep (bas:List (Nat×AV))(o:Oper)(rev:fu)(j i:Nat):Option AV:=match look bas i with
 | some x=>some x
 | none=>(match knKS rev i with
  | some k=>(match gC o k with
   | true=>(match cZ rev k with
    | some (i',v)=>(match Nat.beq i' i with
     | true=>some (v j)
     | false=>none)
    | none=>none)
   | false=>none)
  | none=>none)
def wR (bas:List (Nat×AV))(o:Oper)(rev:fu)(j:Nat):List Nat→List (Nat×AV)
 | []=>[]
 | i::r=>(match Ep bas o rev j i with
  | some x=>(i,x)::wR bas o rev j r
  | none=>wR bas o rev j r)
theorem Ck {bas:List (Nat×AV)}{o:Oper}{rev:fu}{j i:Nat}{x:AV}(h:Ep bas o rev j i=some x):look bas i=some x∨∃ k v,gC o k=true∧cZ rev k=some (i,v)∧v j=x:=by
 unfold Ep at h
 split at h
 ·rename_i y hy; cases h; exact .inl hy
 ·split at h
  ·rename_i k hk
   split at h
   ·rename_i hb
    split at h
    ·rename_i i' v hl
     split at h
     ·rename_i hi
      cases h
      exact .inr ⟨k,v,hb,by rw [hl,Nat.eq_of_beq_eq_true hi],Z⟩
     ·cases h
    ·cases h
   ·cases h
  ·cases h
theorem lK {bas:List (Nat×AV)}{o:Oper}{rev:fu}{j:Nat}:∀ (l:List Nat),KnS bas o rev j (wR bas o rev j l)
 | []=>trivial
 | i::r=>by
  unfold wR
  split
  ·rename_i x hx; exact ⟨Ck hx,lK r⟩
  ·exact lK r
section
variable {kn sl:List (Nat×AV)} {ob:List (Nat×List AV)} {C:Cx} {o:Oper}
theorem wJ {F:Option AV→Option AV}{x:Operand}{y:AV}(hs:∀ i x,look kn i=some x→look sl i=some x)(hF:F none=none)(h:F (evo kn x)=some y):F (evo sl x)=some y:=by
 cases hx:evo kn x with
 | none=>rw [hx,hF] at h; cases h
 | some v=>rw [hx] at h; rw [hH hs hx]; exact h
theorem CU {c x y:Operand}{z:AV}(hs:∀ i x,look kn i=some x→look sl i=some x)(h:pkP kn x y (evo kn c)=some z):pkP sl x y (evo sl c)=some z:=by
 cases hc:evo kn c with
 | none=>rw [hc] at h; cases h
 | some v =>
  rw [hc] at h
  rw [hH hs hc]
  unfold pkP at h ⊢
  split at h
  ·exact hH hs h
  ·exact hH hs h
  ·cases h
theorem B8 {op:BinOp}{t:TypeId}(Y0z:Option AV):bnP C op t none Y0z=none:=by
 unfold bnP
 split <;> first | rfl | contradiction | (rename_i h _; cases h) | (rename_i h; cases h)
theorem zp {op:BinOp}{t:TypeId}(X:Option AV):bnP C op t X none=none:=by
 unfold bnP
 split <;> first | rfl | contradiction | (rename_i h _; cases h) | (rename_i h; cases h)
theorem C0 {op:BinOp}{t:TypeId}{x y:Operand}{z:AV}(hs:∀ i x,look kn i=some x→look sl i=some x)(h:bnP C op t (evo kn x) (evo kn y)=some z):bnP C op t (evo sl x) (evo sl y)=some z:=by
 cases hx:evo kn x with
 | none=>rw [hx,B8] at h; cases h
 | some v =>
  cases hy:evo kn y with
  | none=>rw [hy,zp] at h; cases h
  | some u =>
   rw [hx,hy] at h
   rw [hH hs hx,hH hs hy]; exact h
theorem rW (hs:∀ i x,look kn i=some x→look sl i=some x):∀ {ps:List (Nat×Operand)} {l:List (Nat×AV)},fU kn ps=some l→fU sl ps=some l
 | [],l,h=>h
 | (i,x)::r,l,h=>by
  unfold fU at h ⊢
  cases hx:evo kn x with
  | none=>rw [hx] at h; cases h
  | some v =>
   cases hr:fU kn r with
   | none=>rw [hx,hr] at h; cases h
   | some m =>
    rw [hx,hr] at h
    rw [hH hs hx,rW hs hr]; exact h
theorem Cb {t f:Nat}:faP C t f none=none:=by
 unfold faP
 repeat' split
 all_goals first | rfl | contradiction
theorem Ca {t:Nat}:ldP C ob t none=none:=by
 unfold ldP
 repeat' split
 all_goals first | rfl | contradiction
theorem BM {t f:Nat}:flP C t f none=none:=by
 unfold flP
 repeat' split
 all_goals first | rfl | contradiction
theorem BV {t f:Nat}:cvP C t f none=none:=by
 unfold cvP
 repeat' split
 all_goals first | rfl | contradiction
theorem C1 {t:Nat}:buP C t none=none:=by
 unfold buP
 repeat' split
 all_goals first | rfl | contradiction
theorem CN {t:Nat}{ps:List (Nat×Operand)}{y:AV}(hs:∀ i x,look kn i=some x→look sl i=some x)(h:buP C t (fU kn ps)=some y):buP C t (fU sl ps)=some y:=by
 cases hp:fU kn ps with
 | none=>rw [hp,C1] at h; cases h
 | some l=>rw [hp] at h; rw [rW hs hp]; exact h
theorem vj {y:AV}(hs:∀ i x,look kn i=some x→look sl i=some x)(hc:og o=true)(h:opV C o kn ob=some y):opV C o sl ob=some y:=by
 unfold opV og at *
 cases ho:o.op <;> simp only [ho] at h hc ⊢
 all_goals first
  | (cases h; done)
  | exact hH hs h
  | exact CU hs h
  | exact C0 hs h
  | exact wJ (F:=faP C _ _) hs Cb h
  | exact wJ (F:=ldP C ob _) hs Ca h
  | exact wJ (F:=ncP) hs Z h
  | exact wJ (F:=xtP _) hs Z h
  | exact wJ (F:=flP C _ _) hs BM h
  | exact wJ (F:=cvP C _ _) hs BV h
  | exact CN hs h
  | (cases hc; done)
  | skip
 all_goals (rename_i op _ _; cases op <;> simp only at h ⊢)
 all_goals first
  | (cases h; done)
  | exact wJ (F:=ntP) hs Z h
def stV (C:Cx)(o:Oper)(kn:List (Nat×AV))(ob:List (Nat×List AV)):Option (List (Nat×List AV)):=match o.op with
 | .store t x v=>(match look C.tt t with
  | some i=>(match evo kn x with
   | some (.ptr id k)=>(match evo kn v with
    | some y=>(match y.cellsA with
     | some xs=>(match Nat.beq xs.length i.size with
      | true=>(match look ob id with
       | some cs=>(match Nat.ble (k+xs.length) cs.length with
        | true=>some ((id,kS cs k xs)::ob)
        | false=>none)
       | none=>none)
      | false=>none)
     | none=>none)
    | none=>none)
   | _=>none)
  | none=>none)
 | _=>none
theorem DG {ops:Array Oper}{ob':List (Nat×List AV)}{K:AS→Prop}(h:stV C o kn ob=some ob')(hg:o.guard=none)(hd:o.dst=none)(hs:∀ i x,look kn i=some x→look sl i=some x)(hK:K ⟨sl,ob'⟩):One C ops o K ⟨sl,ob⟩:=by
 unfold stV at h
 split at h
 ·rename_i t x v ho
  split at h
  ·rename_i i hi
   split at h
   ·rename_i id k hx
    split at h
    ·rename_i y hv
     split at h
     ·rename_i xs hc
      split at h
      ·rename_i hsz
       split at h
       ·rename_i cs hob
        split at h
        ·rename_i hl
         cases h
         exact am hg (kb ho hd hi (hH hs hx) (hH hs hv) hc (Nat.eq_of_beq_eq_true hsz) hob (Nat.le_of_ble_eq_true hl) hK)
        ·cases h
       ·cases h
      ·cases h
     ·cases h
    ·cases h
   ·cases h
  ·cases h
 ·cases h
end
section
variable {C:Cx} {ops:Array Oper} {S:eV} {K:fu→Prop} {o:Oper} {k:Nat} {rev:fu} {d:Nat}
def sV (C:Cx)(ops:Array Oper)(S:eV)(o:Oper)(R:List Nat)(k:Nat)(rev:fu)(v:Nat→AV)(j:Nat):Option AV:=match md ops S.imp o k j with
 | true=>opV C o (wR (S.bas j) o rev j R) (S.obj j)
 | false=>some (v j)
def sL (C:Cx)(ops:Array Oper)(S:eV)(o:Oper)(R:List Nat)(k:Nat)(rev:fu)(v:Nat→AV):Nat→List (Option AV)
 | 0=>[]
 | j+1=>sV C ops S o R k rev v j::sL C ops S o R k rev v j
def gL (ops:Array Oper)(S:eV)(o:Oper)(R:List Nat)(k:Nat)(rev:fu)(t:Nat)(x:AV):Nat→List (Option AV)
 | 0=>[]
 | j+1=>(match md ops S.imp o k j with
  | true=>look (wR (S.bas j) o rev j R) t
  | false=>some x)::gL ops S o R k rev t x j
def vL (v:Nat→AV):Nat→List (Option AV)
 | 0=>[]
 | j+1=>some (v j)::vL v j
theorem C6 {v:Nat→AV}(hg:o.guard=none)(hd:o.dst=some d)(hn:Nat.blt d C.n=true)(hc:og o=true):∀ {m:Nat},sL C ops S o (opR o) k rev v m=vL v m→Stg C ops S o k rev d v m
 | 0,_=>trivial
 | j+1,h=>by
  have h1:sV C ops S o (opR o) k rev v j=some (v j):=(List.cons.inj h).1
  refine ⟨λ ha=>?_,C6 hg hd hn hc (List.cons.inj h).2⟩
  unfold sV at h1
  rw [ha] at h1
  exact ⟨_,lK _,λ sl hs K hK=>am hg (sy (vj hs hc h1) hd hn hK)⟩
def cL (S:eV)(d:Nat):Nat→List (Option AV)
 | 0=>[]
 | j+1=>look (S.bas j) d::cL S d j
def nL:Nat→List (Option AV)
 | 0=>[]
 | j+1=>none::nL j
def aL (v:Nat→AV):Nat→List AV
 | 0=>[]
 | j+1=>v (j+1)::aL v j
def bL (S:eV)(v:Nat→AV):Nat→List AV
 | 0=>[]
 | j+1=>trA (S.D j) (v j)::bL S v j
theorem A6:∀ {m:Nat},cL S d m=nL m→∀ j,j < m→look (S.bas j) d=none
 | 0,_,j,h=>absurd h (Nat.not_lt_zero _)
 | m+1,h,j,hj=>by
  by_cases e:j=m
  ·subst e; exact (List.cons.inj h).1
  ·exact A6 (List.cons.inj h).2 j O
theorem u7 {v:Nat→AV}:∀ {m:Nat},aL v m=bL S v m→∀ j,j < m→v (j+1)=trA (S.D j) (v j)
 | 0,_,j,h=>absurd h (Nat.not_lt_zero _)
 | m+1,h,j,hj=>by
  by_cases e:j=m
  ·subst e; exact (List.cons.inj h).1
  ·exact u7 (List.cons.inj h).2 j O
theorem dP {rest:List Oper}(v:Nat→AV)
  (e:(o.dst,S.imp.findIdx? (Nat.beq k),o.guard,og o,(rev.all λ p=>!(Nat.beq p.2.1 d)),Nat.blt d C.n,cL S d S.m,(λ j=>look (S.bas (j+S.m)) d),aL v S.m,sL C ops S o (opR o) k rev v (S.m+1))=(some d,none,none,true,true,true,nL S.m,(λ _=>none),bL S v S.m,vL v (S.m+1)))
  (h:DS C ops S K rest (k+1) ((k,d,v)::rev)):DS C ops S K (o::rest) k rev:=by
 simp only [Prod.mk.injEq] at e
 obtain ⟨e1,e2,e3,e4,e5,e6,e7,e8,e9,e10⟩:=e
 refine aN v e2 e1 e5 (λ j=>?_) (u7 e9) (C6 e3 e1 e6 e4 e10) h
 by_cases hj:j < S.m
 ·exact A6 e7 j hj
 ·have:look (S.bas (j - S.m+S.m)) d=none:=congrFun e8 (j - S.m)
  rwa [show j - S.m+S.m=j by omega] at this
theorem dPc {rest:List Oper}(y:AV)
  (e:(o.dst,S.imp.findIdx? (Nat.beq k),o.guard,og o,(rev.all λ p=>!(Nat.beq p.2.1 d)),Nat.blt d C.n,cL S d S.m,(λ j=>look (S.bas (j+S.m)) d),aL (λ _=>y) S.m,sL C ops S o (opR o) k rev (λ _=>y) (S.m+1))=(some d,none,none,true,true,true,nL S.m,(λ _=>none),bL S (λ _=>y) S.m,vL (λ _=>y) (S.m+1)))
  (h:DS C ops S K rest (k+1) ((k,d,λ _=>y)::rev)):DS C ops S K (o::rest) k rev:=dP (λ _=>y) e h
theorem dS {rest:List Oper}{i:Nat}
  (e:(S.imp.findIdx? (Nat.beq k),o.dst,o.guard,S.D i,stV C o (wR (S.bas i) o rev i (opR o)) (S.obj i))=(some i,none,none,Tr.none,some (S.obj (i+1))))
  (h:DS C ops S K rest (k+1) rev):DS C ops S K (o::rest) k rev:=by
 simp only [Prod.mk.injEq] at e
 obtain ⟨e1,e2,e3,e4,e5⟩:=e
 refine iJ _ e1 (lK (opR o)) e2 (λ sl hs K hK=>?_) h
 rw [e4] at hK
 exact DG e5 e3 e2 hs hK
theorem wM (e7:cL S d S.m=nL S.m)(e8:(λ j=>look (S.bas (j+S.m)) d)=λ _=>none)(j:Nat):look (S.bas j) d=none:=by
 by_cases hj:j < S.m
 ·exact A6 e7 j hj
 ·have:look (S.bas (j - S.m+S.m)) d=none:=congrFun e8 (j - S.m)
  rwa [show j - S.m+S.m=j by omega] at this
theorem zS {v:Nat→AV}{R:List Nat}{w b:Bool}{g t:Nat}(hb:b=w)(hg:o.guard=some (g,w))(hj:(ops.toList[g]?).bind (·.dst)=some t)(hd:o.dst=some d)(hn:Nat.blt d C.n=true)(hc:og o=true) :
  ∀ {m:Nat},gL ops S o R k rev t (.p (.val (.bool b))) m=vL (λ _=>.p (.val (.bool b))) m→sL C ops S o R k rev v m=vL v m→Stg C ops S o k rev d v m
 | 0,_,_=>trivial
 | j+1,hG,h=>by
  have h1:sV C ops S o R k rev v j=some (v j):=(List.cons.inj h).1
  have h2:=(List.cons.inj hG).1
  refine ⟨λ ha=>?_,zS hb hg hj hd hn hc (List.cons.inj hG).2 (List.cons.inj h).2⟩
  unfold sV at h1
  rw [ha] at h1 h2
  exact ⟨_,lK _,λ sl hs K hK=>em (sy (vj hs hc h1) hd hn hK) hg hj (hs _ _ h2) hb⟩
theorem dPy {rest:List Oper}{w b:Bool}{g t:Nat}(v:Nat→AV)(hb:b=w)
  (e:(o.dst,o.guard,(ops.toList[g]?).bind (·.dst),S.imp.findIdx? (Nat.beq k),og o,(rev.all λ p=>!(Nat.beq p.2.1 d)),Nat.blt d C.n,cL S d S.m,(λ j=>look (S.bas (j+S.m)) d),aL v S.m,gL ops S o (t::opR o) k rev t (.p (.val (.bool b))) (S.m+1),sL C ops S o (t::opR o) k rev v (S.m+1))=(some d,some (g,w),some t,none,true,true,true,nL S.m,(λ _=>none),bL S v S.m,vL (λ _=>.p (.val (.bool b))) (S.m+1),vL v (S.m+1)))
  (h:DS C ops S K rest (k+1) ((k,d,v)::rev)):DS C ops S K (o::rest) k rev:=by
 simp only [Prod.mk.injEq] at e
 obtain ⟨e1,e2,e3,e4,e5,e6,e7,e8,e9,e10,e11,e12⟩:=e
 exact aN v e4 e1 e6 (wM e8 e9) (u7 e10) (zS hb e2 e3 e1 e7 e5 e11 e12) h
theorem Br {R:List Nat}{w b:Bool}{g t:Nat}(hb:b=!w)(hg:o.guard=some (g,w))(hj:(ops.toList[g]?).bind (·.dst)=some t)(hd:o.dst=some d)(hn:Nat.blt d C.n=true) :
  ∀ {m:Nat},gL ops S o R k rev t (.p (.val (.bool b))) m=vL (λ _=>.p (.val (.bool b))) m→Stg C ops S o k rev d (λ _=>.p (.val Go.undef)) m
 | 0,_=>trivial
 | j+1,hG=>by
  have h2:=(List.cons.inj hG).1
  refine ⟨λ ha=>?_,Br hb hg hj hd hn (List.cons.inj hG).2⟩
  rw [ha] at h2
  exact ⟨_,lK _,λ sl hs K hK=>Bt hg hj (hs _ _ h2) hb hd hn hK⟩
theorem dPn {rest:List Oper}{w b:Bool}{g t:Nat}(hb:b=!w)
  (e:(o.dst,o.guard,(ops.toList[g]?).bind (·.dst),S.imp.findIdx? (Nat.beq k),(rev.all λ p=>!(Nat.beq p.2.1 d)),Nat.blt d C.n,cL S d S.m,(λ j=>look (S.bas (j+S.m)) d),aL (λ _=>.p (.val Go.undef)) S.m,gL ops S o [t] k rev t (.p (.val (.bool b))) (S.m+1))=(some d,some (g,w),some t,none,true,true,nL S.m,(λ _=>none),bL S (λ _=>.p (.val Go.undef)) S.m,vL (λ _=>.p (.val (.bool b))) (S.m+1)))
  (h:DS C ops S K rest (k+1) ((k,d,λ _=>.p (.val Go.undef))::rev)):DS C ops S K (o::rest) k rev:=by
 simp only [Prod.mk.injEq] at e
 obtain ⟨e1,e2,e3,e4,e6,e7,e8,e9,e10,e11⟩:=e
 exact aN _ e4 e1 e6 (wM e8 e9) (u7 e10) (Br hb e2 e3 e1 e7 e11) h
theorem zO {R:List Nat}{w:Bool}{g t:Nat}(hg:o.guard=some (g,w))(hj:(ops.toList[g]?).bind (·.dst)=some t)(hd:o.dst=some d)(hn:Nat.blt d C.n=true) :
  ∀ {m:Nat},gL ops S o R k rev t (.p (.val Go.undef)) m=vL (λ _=>.p (.val Go.undef)) m→Stg C ops S o k rev d (λ _=>.p (.val Go.undef)) m
 | 0,_=>trivial
 | j+1,hG=>by
  have h2:=(List.cons.inj hG).1
  refine ⟨λ ha=>?_,zO hg hj hd hn (List.cons.inj hG).2⟩
  rw [ha] at h2
  exact ⟨_,lK _,λ sl hs K hK=>vp hg hj (hs _ _ h2) hd hn hK⟩
theorem dPx {rest:List Oper}{w:Bool}{g t:Nat}
  (e:(o.dst,o.guard,(ops.toList[g]?).bind (·.dst),S.imp.findIdx? (Nat.beq k),(rev.all λ p=>!(Nat.beq p.2.1 d)),Nat.blt d C.n,cL S d S.m,(λ j=>look (S.bas (j+S.m)) d),aL (λ _=>.p (.val Go.undef)) S.m,gL ops S o [t] k rev t (.p (.val Go.undef)) (S.m+1))=(some d,some (g,w),some t,none,true,true,nL S.m,(λ _=>none),bL S (λ _=>.p (.val Go.undef)) S.m,vL (λ _=>.p (.val Go.undef)) (S.m+1)))
  (h:DS C ops S K rest (k+1) ((k,d,λ _=>.p (.val Go.undef))::rev)):DS C ops S K (o::rest) k rev:=by
 simp only [Prod.mk.injEq] at e
 obtain ⟨e1,e2,e3,e4,e6,e7,e8,e9,e10,e11⟩:=e
 exact aN _ e4 e1 e6 (wM e8 e9) (u7 e10) (zO e2 e3 e1 e7 e11) h
end
def lkM (s:List (Nat×List AV)):List (Nat×List AV)→List (Option (List AV))
 | []=>[]
 | (j,_)::r=>look s j::lkM s r
def smM:List (Nat×List AV)→List (Option (List AV))
 | []=>[]
 | (_,cs)::r=>some cs::smM r
theorem sf {s:List (Nat×List AV)}:∀ {t:List (Nat×List AV)},lkM s t=smM t→leO s t
 | [],_=>trivial
 | (j,cs)::r,h=>⟨⟨cs,(List.cons.inj h).1,aF cs⟩,sf (List.cons.inj h).2⟩
theorem rF:∀ l:List AV,nZ l l
 | []=>trivial
 | x::r=>⟨AV.sub_refl x,rF r⟩
def lkB (sl:List (Nat×AV)):List (Nat×AV)→List (Option AV)
 | []=>[]
 | (i,_)::r=>look sl i::lkB sl r
def smB:List (Nat×AV)→List (Option AV)
 | []=>[]
 | (_,x)::r=>some x::smB r
theorem pK {sl:List (Nat×AV)}:∀ {b:List (Nat×AV)},lkB sl b=smB b→eu sl b
 | [],_=>trivial
 | (i,x)::r,h=>⟨(List.cons.inj h).1,pK (List.cons.inj h).2⟩
def lkS (S:eV):Nat→List (List (Option AV))
 | 0=>[]
 | j+1=>lkB (trL (S.D j) (S.bas j)) (S.bas (j+1))::lkS S j
def smS (S:eV):Nat→List (List (Option AV))
 | 0=>[]
 | j+1=>smB (S.bas (j+1))::smS S j
theorem rK {S:eV}:∀ {m:Nat},lkS S m=smS S m→∀ j,j < m→eu (trL (S.D j) (S.bas j)) (S.bas (j+1))
 | 0,_,j,h=>absurd h (Nat.not_lt_zero _)
 | m+1,h,j,hj=>by
  by_cases e:j=m
  ·subst e; exact pK (List.cons.inj h).1
  ·exact rK (List.cons.inj h).2 j O
section
variable {C:Cx} {Q:Exit→AS→Prop} {K:AS→Prop} {sl:List (Nat×AV)} {ob:List (Nat×List AV)} {o:Oper} {d:Nat} {s:AS} {k:List Fr} {ops:Array Oper}
theorem cVq (ids vids:List Nat)(NB NE:Nat){f:FuncId}{args:Array Operand}{ts:Array TypeId}{l q:List AV}{obs qo rob ob':List (Nat×List AV)}{r r':AV}(hc:aW C.P f q qo (λ x y=>x=r∧y=rob))(henter:∀ vs w,(callFunc f vs).run C.P w=.ok (.enter f vs) w)
  (e:(o.op,o.dst,Nat.blt d C.n,jP sl args.toList,AV.mapA.go (jM ids vids) l,gr ob ids,gm (jM ids vids) obs,lkM qo qo,nodupB ids,ids.all (λ i=>Nat.blt i (2*M1)),Nat.ble ids.length M1,Nat.ble NE M1,ids.all (λ i=>!(da vids NB NE i)),nodupB vids,vids.all (λ i=>Nat.blt i M1),Nat.ble vids.length 100000,r.mapA (jt ids NB NE),gm (jt ids NB NE) rob)=(.call { callee:=.value (.func f),args:=args,argTypes:=ts },some d,true,some l,some q,some obs,some qo,smM qo,true,true,true,true,true,true,true,true,some r',some ob'))
  (hK:K ⟨(d,r')::(dB (da vids NB NE) ⟨sl,ob⟩).sl,ob'++(dB (da vids NB NE) ⟨sl,ob.filter λ p=>!(ids.any (Nat.beq p.1))⟩).ob⟩):bq C o K ⟨sl,ob⟩:=by
 simp only [Prod.mk.injEq] at e
 obtain ⟨e1,e2,e3,e4,e5,e6,e7,e8,e9,e10,e11,e12,e13,e14,e15,e16,e17,e18⟩:=e
 exact bB ids vids NB NE hc e1 e2 e3 e4 e5 (rF _) e6 e7 (sf e8) e9 e10 e11 e12 e13 e14 e15 e16 henter e17 e18 hK
theorem gz {β:Type}{v v0:β}{tt:List (Nat×TI)}{fn:Func}{ts ids:List Nat}{mk:β→AV}{mo:β→List (Nat×List AV)}{obs:List (Nat×List AV)}{l:List AV}(e:some v=some v0)
  (h:(kO tt fn.results.toList s,(qt l).mapA (km ts),gr s.ob ids,gm (km ts) obs,lkM (mo v) (mo v))=(some l,some (mk v),some obs,some (mo v),smM (mo v))):M C (λ e s=>∃ v,v=v0∧sR C tt fn ts ids (mk v) (mo v) e s) ⟨.ex .ret,[],s⟩:=by
 simp only [Prod.mk.injEq] at h
 obtain ⟨h1,h2,h3,h4,h5⟩:=h
 exact mQo (Option.some.inj e) (ax _) h1 h2 h3 h4 (AV.sub_refl _) (sf h5)
theorem mSq (S:eV){id:Nat}
  (e:(C.P.follows .mixedOrders,S.imp.length,S.obj 0,lkB sl (S.bas 0),lkS S S.m,nodupB S.imp,S.imp.all (λ i=>Nat.blt i ops.size),chainB ops S.imp,(ops.toList.zipIdx.all λ p=>p.1.after.toList.all λ e=>!(Region.binds .any e)||Nat.blt e.on p.2))=(true,S.m,ob,smB (S.bas 0),smS S S.m,true,true,true,true))
  (h:DS C ops S (λ rev=>M C Q ⟨.ex .normal,k,⟨dH rev S.m++S.bas S.m,S.obj S.m⟩⟩) ops.toList 0 []):M C Q ⟨.cd (.region id ops true),k,⟨sl,ob⟩⟩:=by
 simp only [Prod.mk.injEq] at e
 obtain ⟨e1,e2,e3,e4,e5,e6,e7,e8,e9⟩:=e
 exact mS S e1 e2 e3 (pK e4) (rK e5) e6 e7 e8 e9 h
end
def ob2 (A:List (Nat×List AV))(x:Nat×List AV):Nat→List (Nat×List AV)
 | 0=>A
 | _+1=>x::A
def ob3 (A:List (Nat×List AV))(x y:Nat×List AV):Nat→List (Nat×List AV)
 | 0=>A
 | 1=>x::A
 | _+2=>y::x::A
def ob5 (A:List (Nat×List AV))(x y z u:Nat×List AV):Nat→List (Nat×List AV)
 | 0=>A
 | 1=>x::A
 | 2=>y::x::A
 | 3=>z::y::x::A
 | _+4=>u::z::y::x::A
end Go.Ab
end
section
namespace Go.Ab.R06
open Go.Proofs Go.Ab Go.Ab.RB
attribute [local irreducible] awp ge bq aK aW AV.sub M dc
abbrev ig:List AV:=[.p (eI 0),.p (eS ([]:Bytes)),.p (eI 0)]
abbrev kH:List AV:=[.p (eI 0),.p (eI 0),.p (eS ([]:Bytes))]
def bO (x_0:aa):Option (Bool×aa) :=
 some (decide (x_0.fat < (x_0.fs.length:Int)),x_0)
theorem cm (x_0:aa)(r:Bool×aa)(h0:bO x_0=some r):aW Tryz.prog 53 [.ptr 1000000 0] [(1000000,(aa.cs x_0).map .p)] (λ x y=>x=.p (eB r.1)∧y=[(1000000,(aa.cs r.2).map .p)]):=by
 unfold bO at h0
 refine cw good [] [1000000] Tryz.func53 Z Z Z Z Z λ w0 F=>mPo (λ v:Bool×aa=>.p (eB v.1)) (λ v=>[(1000000,(aa.cs v.2).map .p)]) ?_
 refine nx 5 Z (mD [(0,.ptr 1000000 0)] Z ⟨Z,trivial⟩ Z ?_)
 refine dR 3 Z (dq (.p (eI x_0.fat)) [5] Z (λ _ e _ q=>am Z (a6 Z Z Z Z Z (e _ _ Z) Z (aa.g_at _) q)) Z ?_)
 refine dR 3 Z (dq (.p (eS x_0.fs)) [9] Z (λ _ e _ q=>am Z (a6 Z Z Z Z Z (e _ _ Z) Z (aa.g_s _) q)) Z ?_)
 refine dq (.p (eI (x_0.fs.length:Int))) [10] Z (λ _ e _ q=>am Z (lS Z Z Z Z Z (e _ _ Z) q)) Z (dR 2 Z ?_)
 refine dE Z (nx 2 Z ?_)
 exact mQo (oi h0) (ax _) Z Z Z (av Z (aw _) Z) (sr) ⟨⟨_,Z,aF _⟩,trivial⟩
def aX:Nat→aa→Option (aa⊕aa)
 | 0,_=>none
 | m+1,x20 =>
 (bO x20).bind λ r21 =>
 if r21.1=true then
  ck ((0:Int)≤r21.2.fat∧r21.2.fat < (r21.2.fs.length:Int)) <|
  ck ((0:Int)≤byt r21.2.fs r21.2.fat∧byt r21.2.fs r21.2.fat < 256) <|
  jn (
    if ((lat gW (byt r21.2.fs r21.2.fat)).toNat:Int)=1 then
     ck (inR (r21.2.fat+1)) <|
     some (.inl (aa.mk r21.2.fs (r21.2.fat+1) r21.2.fouter r21.2.fbad))
    else
     (
       if ((lat gW (byt r21.2.fs r21.2.fat)).toNat:Int)=7 then
        some (decide (r21.2.fouter < 0))
       else
        some false
      : Option Bool).bind λ t29 =>
     if t29=true then
      ck ((0:Int)≤r21.2.fat∧r21.2.fat≤(r21.2.fs.length:Int)∧(r21.2.fs.length:Int)≤(r21.2.fs.length:Int)) <|
      (strings_IndexByte (sub r21.2.fs r21.2.fat (r21.2.fs.length:Int)) 10).bind λ r32 =>
      (
        if r32 < 0 then
         ck (inR ((r21.2.fs.length:Int) - r21.2.fat)) <|
         some ((r21.2.fs.length:Int) - r21.2.fat)
        else
         some r32
       : Option Int).bind λ n36 =>
      ck (inR (r21.2.fat+n36)) <|
      some (.inl (aa.mk r21.2.fs (r21.2.fat+n36) r21.2.fouter r21.2.fbad))
     else
      some (.inr (.inr r21.2))
   : Option (aa⊕(aa⊕aa))) λ x38 =>
  aX m x38
 else
  some (.inl r21.2)
def cN (n:Nat)(x_0:aa):Option aa :=
 jn (aX n x_0) λ x40 =>
 some x40
theorem iY (n:Nat)(x_0:aa)(r:aa)(h0:cN n x_0=some r):aW Tryz.prog 52 [.ptr 1000000 0] [(1000000,(aa.cs x_0).map .p)] (λ x y=>x=.tuple []∧y=[(1000000,(aa.cs r).map .p)]):=by
 unfold cN at h0
 refine cw good [] [1000000] Tryz.func52 Z Z Z Z Z λ w0 F=>mPo (λ v:aa=>.tuple []) (λ v=>[(1000000,(aa.cs v).map .p)]) ?_
 refine nx 1 Z ?_
 obtain ⟨o45,h1,hL0,hR0⟩:=dk h0
 refine kEx 0 (λ v46:aa=>o45=.inl v46) (λ v46=>⟨[],[(1000000,(aa.cs v46).map .p)]⟩) (λ v46 hv=>?_) ?_
 ·have h0:=hL0 _ hv
  exact nx 1 Z (ws (oi h0) (ax _) Z Z Z (av Z (aw _) Z) (sr) ⟨⟨_,Z,aF _⟩,trivial⟩)
 refine lG (λ (q47:aa)=>⟨[(0,.ptr 1000000 0)],[(1000000,(aa.cs q47).map .p)]⟩) (λ m (q47:aa)=>aX m q47) Y x_0 h1 (gE Z Z) ?_
 rintro m x20 h1
 replace h1:aX (m+1) x20=some o45:=h1
 rw [aX] at h1
 refine nx 4 Z (bd h1 λ r21 e22 h1=>?_)
 refine mO Z (bB [1000000] [] 102000 102000 (cm x20 _ e22) Z Z Z Z Z ⟨sr,trivial⟩ Z (av Z (aw _) Z) ⟨⟨_,Z,aF _⟩,trivial⟩ Z Z Z Z Z Z Z Z Tryz.call53 Z (av Z (aw _) Z) ?_)
 refine nx 1 Z (fB [5] h1 Z (λ c23 h1=>?_) λ c23 h1=>?_)
 ·refine nx 4 Z (cc' h1 λ hk24 h1=>?_)
  refine cc' h1 λ hk25 h1=>mD [(0,.ptr 1000000 0)] Z ⟨Z,trivial⟩ Z (dR 4 Z ?_)
  refine dq (.p (eS r21.2.fs)) [9] Z (λ _ e _ q=>am Z (a6 Z Z Z Z Z (e _ _ Z) Z (aa.g_s _) q)) Z (dR 3 Z ?_)
  refine dq (.p (eI r21.2.fat)) [13] Z (λ _ e _ q=>am Z (a6 Z Z Z Z Z (e _ _ Z) Z (aa.g_at _) q)) Z (dq (.p (eK .u8 (byt r21.2.fs r21.2.fat))) [10,14] Z (λ _ e _ q=>am Z (ji Z Z Z Z Z (e _ _ Z) (e _ _ Z) hk24 q)) Z ?_)
  refine dR 2 Z (dq (.ptr 1000000 (2+(byt r21.2.fs r21.2.fat).toNat*1)) [15,17] Z (λ _ e _ q=>am Z (fk Z Z Z Z Z Z (e _ _ Z) (e _ _ Z) hk25 q)) Z ?_)
  refine dq (.p (eK .u8 ((lat gW (byt r21.2.fs r21.2.fat)).toNat:Int))) [18] Z (λ _ e _ q=>am Z (a6 Z Z Z Z Z (e _ _ Z) Z (aa.g_class _ hk25) q)) Z (dR 1 Z ?_)
  refine dE Z (nx 1 Z ?_)
  obtain ⟨o48,h2,hL1,hR1⟩:=dk h1
  refine kX (λ v49:aa=>o48=.inl v49) (λ v49=>⟨[(0,.ptr 1000000 0)],[(1000000,(aa.cs v49).map .p)]⟩) (λ v49 hv=>?_) ?_
  ·have h1:=hL1 _ hv
   exact nx 1 Z (eX v49 h1 (gE Z Z))
  refine nx 7 Z (fD [20,22] h2 Z (λ c26 h2=>?_) λ c26 h2=>?_)
  ·refine nx 5 Z (mO Z (a6 Z Z Z Z Z Z Z (aa.g_at _) ?_))
   refine oA h2 Z Z λ hk27 h2=>nx 2 Z (mO Z (ek Z Z Z Z Z Z Z Z (aa.b_at _) (aa.u_at _) ?_))
   exact nx 1 Z (eX _ (oi h2).symm (gE Z Z))
  refine nx 2 Z (bd h2 λ o50 h3 h2=>?_)
  refine kN o50 (λ v51=>⟨[(0,.ptr 1000000 0),(30,.p (eB v51))],[(1000000,(aa.cs r21.2).map .p)]⟩) ?_ ?_
  ·refine nx 1 Z (fB [30] h2 Z (λ c30 h2=>?_) λ c30 h2=>?_)
   ·refine nx 2 Z (cc' h2 λ hk31 h2=>?_)
    refine bd h2 λ r32 e33 h2=>mD [(0,.ptr 1000000 0)] Z ⟨Z,trivial⟩ Z (dR 3 Z ?_)
    refine dq (.p (eS r21.2.fs)) [42] Z (λ _ e _ q=>am Z (a6 Z Z Z Z Z (e _ _ Z) Z (aa.g_s _) q)) Z (dR 3 Z ?_)
    refine dq (.p (eI r21.2.fat)) [46] Z (λ _ e _ q=>am Z (a6 Z Z Z Z Z (e _ _ Z) Z (aa.g_at _) q)) Z (dq (.p (eS (sub r21.2.fs r21.2.fat (r21.2.fs.length:Int)))) [43,47] Z (λ _ e _ q=>am Z (dD (a:=r21.2.fs) (l:=r21.2.fat) (h:=(r21.2.fs.length:Int)) Z Z Z Z Z (e _ _ Z) (fO (e _ _ Z)) Z hk31 q)) Z ?_)
    refine dq (.p (eI r32)) [48] Z (λ _ e _ q=>am Z (cG (fy (sub r21.2.fs r21.2.fat (r21.2.fs.length:Int)) 10 _ e33) Z Z Z (aE (e _ _ Z) (aE Z bK)) ⟨sr,sr,trivial⟩ Tryz.call85 Z q)) Z (dR 1 Z ?_)
    refine dE Z (nx 2 Z ?_)
    refine bd h2 λ o52 h3 h2=>kN o52 (λ v53=>⟨[(0,.ptr 1000000 0),(3,.p (eI v53))],[(1000000,(aa.cs r21.2).map .p)]⟩) ?_ ?_
    ·refine nx 5 Z (mO Z (a6 Z Z Z Z Z Z Z (aa.g_at _) ?_))
     refine nx 1 Z (oA h2 Z Z λ hk37 h2=>?_)
     refine nx 2 Z (mO Z (ek Z Z Z Z Z Z Z Z (aa.b_at _) (aa.u_at _) ?_))
     exact nx 1 Z (eX _ (oi h2).symm (gE Z Z))
    refine nx 5 Z (fD [51] h3 Z (λ c34 h3=>?_) λ c34 h3=>?_)
    ·refine nx 1 Z (cc' h3 λ hk35 h3=>?_)
     refine mD [(0,.ptr 1000000 0)] Z ⟨Z,trivial⟩ Z (dR 3 Z ?_)
     refine dq (.p (eS r21.2.fs)) [54] Z (λ _ e _ q=>am Z (a6 Z Z Z Z Z (e _ _ Z) Z (aa.g_s _) q)) Z (dq (.p (eI (r21.2.fs.length:Int))) [55] Z (λ _ e _ q=>am Z (lS Z Z Z Z Z (e _ _ Z) q)) Z ?_)
     refine dR 3 Z (dq (.p (eI r21.2.fat)) [59] Z (λ _ e _ q=>am Z (a6 Z Z Z Z Z (e _ _ Z) Z (aa.g_at _) q)) Z ?_)
     refine dq (.p (eI ((r21.2.fs.length:Int) - r21.2.fat))) [56,60] Z (λ _ e _ q=>am Z (eN Z Z Z (e _ _ Z) (e _ _ Z) Z hk35 q)) Z (dR 1 Z ?_)
     refine dE Z (nx 1 Z ?_)
     exact eX _ (oi h3).symm (gE Z Z)
    exact nx 2 Z (eX _ (oi h3).symm (gE Z Z))
   exact nx 2 Z (mQo (hR0 _ (hR1 _ (oi h2).symm).symm) (ax _) Z Z Z (av Z (aw _) Z) (sr) ⟨⟨_,Z,aF _⟩,trivial⟩)
  refine nx 4 Z (fD [32,33] h3 Z (λ c28 h3=>?_) λ c28 h3=>?_)
  ·refine nx 3 Z (mO Z (a6 Z Z Z Z Z Z Z (aa.g_outer _) ?_))
   exact nx 4 Z (eX _ (oi h3).symm (gE Z Z))
  exact nx 8 Z (eX _ (oi h3).symm (gE Z Z))
 exact nx 2 Z (eXi _ (oi h1).symm (gE Z Z))
def cE (s_0:Bytes):Nat→Int→Option (Unit⊕Bytes)
 | 0,_=>none
 | m+1,t8 =>
 if t8 < 7 then
  ck ((0:Int)≤t8∧t8 < 7) <|
  (strings_HasPrefix s_0 (lat ([([61,62]:Bytes),([61,61]:Bytes),([33,61]:Bytes),([60,61]:Bytes),([62,61]:Bytes),([38,38]:Bytes),([124,124]:Bytes)]:List Bytes) t8)).bind λ r11 =>
  if r11=true then
   some (.inr (lat ([([61,62]:Bytes),([61,61]:Bytes),([33,61]:Bytes),([60,61]:Bytes),([62,61]:Bytes),([38,38]:Bytes),([124,124]:Bytes)]:List Bytes) t8))
  else
   ck (inR (t8+1)) <|
   cE s_0 m (t8+1)
 else
  some (.inl ())
def eP (n:Nat)(s_0:Bytes):Option Bytes :=
 jn (cE s_0 n 0) λ q23 =>
 (
   if s_0=([]:Bytes) then
    some true
   else
    ck ((0:Int)≤0∧0 < (s_0.length:Int)) <|
    (strings_IndexByte ([123,125,91,93,40,41,44,61,60,62,43,45,42,47,37,33,63,58,46]:Bytes) (byt s_0 0)).bind λ r18 =>
    some (decide (r18 < 0))
  : Option Bool).bind λ t20 =>
 if t20=true then
  some ([]:Bytes)
 else
  ck ((0:Int)≤0∧(0:Int)≤1∧(1:Int)≤(s_0.length:Int)) <|
  some (sub s_0 0 1)
theorem mh (n:Nat)(s_0:Bytes)(r:Bytes)(h0:eP n s_0=some r):aK Tryz.prog 86 [eS s_0] (·=.p (eS r)):=by
 unfold eP at h0
 refine cB good Tryz.func86 Z Z Z λ w0=>mP (λ v:Bytes=>.p (eS v)) ?_
 refine nx 11 Z ?_
 obtain ⟨o25,h1,hL0,hR0⟩:=dk h0
 refine kEx 0 (λ v26:Unit=>o25=.inl v26) (λ v26=>⟨[(0,.p (eS s_0))],[]⟩) (λ v26 hv=>?_) ?_
 ·have h0:=hL0 _ hv
  refine nx 3 Z (bd h0 λ o27 h1 h0=>?_)
  refine kN o27 (λ v28=>⟨[(0,.p (eS s_0)),(21,.p (eB v28))],[]⟩) ?_ ?_
  ·refine nx 1 Z (fB [21] h0 Z (λ c21 h0=>?_) λ c21 h0=>?_)
   ·exact nx 6 Z (mQ (oi h0) Z (sr))
   refine nx 5 Z (oP h0 Z Z Z λ hk22 h0=>?_)
   exact nx 3 Z (mQ (oi h0) Z (sr))
  refine nx 2 Z (oS Z Z ?_)
  refine nx 1 Z (fD [15,16] h1 Z (λ c16 h1=>?_) λ c16 h1=>?_)
  ·exact nx 6 Z (eX _ (oi h1).symm (gE Z Z))
  refine nx 1 Z (oI h1 Z λ hk17 h1=>?_)
  refine bd h1 λ r18 e19 h1=>oK (fy ([123,125,91,93,40,41,44,61,60,62,43,45,42,47,37,33,63,58,46]:Bytes) (byt s_0 0) _ e19) Z ⟨sr,sr,trivial⟩ Tryz.call85 Z (nx 3 Z ?_)
  exact eX _ (oi h1).symm (gE Z Z)
 refine lG (λ (q29:Int)=>⟨[(0,.p (eS s_0)),(5,.p (.agg [eS ([61,62]:Bytes),eS ([61,61]:Bytes),eS ([33,61]:Bytes),eS ([60,61]:Bytes),eS ([62,61]:Bytes),eS ([38,38]:Bytes),eS ([124,124]:Bytes)])),(6,.p (eI q29))],[]⟩) (λ m (q29:Int)=>cE s_0 m q29) Y 0 h1 (gE Z Z) ?_
 rintro m t8 h1
 replace h1:cE s_0 (m+1) t8=some o25:=h1
 rw [cE] at h1
 refine nx 5 Z (fD [7] h1 Z (λ c9 h1=>?_) λ c9 h1=>?_)
 ·refine nx 6 Z (cc' h1 λ hk10 h1=>?_)
  refine mO Z (ua eS ([([61,62]:Bytes),([61,61]:Bytes),([33,61]:Bytes),([60,61]:Bytes),([62,61]:Bytes),([38,38]:Bytes),([124,124]:Bytes)]:List Bytes) Z Z Z Z Z Z Z Z Z Z Z (by have:=hk10; simp only [List.length_cons,List.length_nil]; omega) ?_)
  refine nx 6 Z (bd h1 λ r11 e12 h1=>?_)
  refine oK (cM s_0 (lat ([([61,62]:Bytes),([61,61]:Bytes),([33,61]:Bytes),([60,61]:Bytes),([62,61]:Bytes),([38,38]:Bytes),([124,124]:Bytes)]:List Bytes) t8) _ e12) Z ⟨sr,sr,trivial⟩ Tryz.call75 Z (nx 1 Z ?_)
  refine fB [11] h1 Z (λ c13 h1=>?_) λ c13 h1=>?_
  ·exact nx 7 Z (mQ (hR0 _ (oi h1).symm) Z (sr))
  refine nx 3 Z (oA h1 Z Z λ hk14 h1=>?_)
  exact nx 2 Z (eX (t8+1) h1 (gE Z Z))
 exact nx 2 Z (eXi _ (oi h1).symm (gE Z Z))
def cz (n:Nat)(x_0:aa):Option (Bool×aa) :=
 ck ((0:Int)≤x_0.fat∧x_0.fat < (x_0.fs.length:Int)) <|
 ck ((0:Int)≤byt x_0.fs x_0.fat∧byt x_0.fs x_0.fat < 256) <|
 (
   if ((lat gW (byt x_0.fs x_0.fat)).toNat:Int)=2 then
    some true
   else
    if ((lat gW (byt x_0.fs x_0.fat)).toNat:Int)=3 then
     some true
    else
     if ((lat gW (byt x_0.fs x_0.fat)).toNat:Int)=5 then
      some true
     else
      some (decide (((lat gW (byt x_0.fs x_0.fat)).toNat:Int)=6))
  : Option Bool).bind λ t6 =>
 if t6=true then
  some (true,x_0)
 else
  ck ((0:Int)≤x_0.fat∧x_0.fat≤(x_0.fs.length:Int)∧(x_0.fs.length:Int)≤(x_0.fs.length:Int)) <|
  (eP n (sub x_0.fs x_0.fat (x_0.fs.length:Int))).bind λ r9 =>
  some (!decide (r9=([]:Bytes)),x_0)
theorem iE (n:Nat)(x_0:aa)(r:Bool×aa)(h0:cz n x_0=some r):aW Tryz.prog 54 [.ptr 1000000 0] [(1000000,(aa.cs x_0).map .p)] (λ x y=>x=.p (eB r.1)∧y=[(1000000,(aa.cs r.2).map .p)]):=by
 unfold cz at h0
 refine cw good [] [1000000] Tryz.func54 Z Z Z Z Z λ w0 F=>mPo (λ v:Bool×aa=>.p (eB v.1)) (λ v=>[(1000000,(aa.cs v.2).map .p)]) ?_
 refine nx 6 Z (cc' h0 λ hk1 h0=>?_)
 refine cc' h0 λ hk2 h0=>mD [(0,.ptr 1000000 0)] Z ⟨Z,trivial⟩ Z (dR 4 Z ?_)
 refine dq (.p (eS x_0.fs)) [6] Z (λ _ e _ q=>am Z (a6 Z Z Z Z Z (e _ _ Z) Z (aa.g_s _) q)) Z (dR 3 Z ?_)
 refine dq (.p (eI x_0.fat)) [10] Z (λ _ e _ q=>am Z (a6 Z Z Z Z Z (e _ _ Z) Z (aa.g_at _) q)) Z (dq (.p (eK .u8 (byt x_0.fs x_0.fat))) [7,11] Z (λ _ e _ q=>am Z (ji Z Z Z Z Z (e _ _ Z) (e _ _ Z) hk1 q)) Z ?_)
 refine dR 2 Z (dq (.ptr 1000000 (2+(byt x_0.fs x_0.fat).toNat*1)) [12,14] Z (λ _ e _ q=>am Z (fk Z Z Z Z Z Z (e _ _ Z) (e _ _ Z) hk2 q)) Z ?_)
 refine dq (.p (eK .u8 ((lat gW (byt x_0.fs x_0.fat)).toNat:Int))) [15] Z (λ _ e _ q=>am Z (a6 Z Z Z Z Z (e _ _ Z) Z (aa.g_class _ hk2) q)) Z (dE Z ?_)
 refine nx 3 Z (bd h0 λ o12 h1 h0=>?_)
 refine kN o12 (λ v13=>⟨[(0,.ptr 1000000 0),(17,.p (eB v13))],[(1000000,(aa.cs x_0).map .p)]⟩) ?_ ?_
 ·refine nx 1 Z (fB [17] h0 Z (λ c7 h0=>?_) λ c7 h0=>?_)
  ·exact nx 6 Z (mQo (oi h0) (ax _) Z Z Z (av Z (aw _) Z) (sr) ⟨⟨_,Z,aF _⟩,trivial⟩)
  refine nx 3 Z (cc' h0 λ hk8 h0=>?_)
  refine bd h0 λ r9 e10 h0=>mD [(0,.ptr 1000000 0)] Z ⟨Z,trivial⟩ Z (dR 3 Z ?_)
  refine dq (.p (eS x_0.fs)) [24] Z (λ _ e _ q=>am Z (a6 Z Z Z Z Z (e _ _ Z) Z (aa.g_s _) q)) Z (dR 3 Z ?_)
  refine dq (.p (eI x_0.fat)) [28] Z (λ _ e _ q=>am Z (a6 Z Z Z Z Z (e _ _ Z) Z (aa.g_at _) q)) Z (dq (.p (eS (sub x_0.fs x_0.fat (x_0.fs.length:Int)))) [25,29] Z (λ _ e _ q=>am Z (dD (a:=x_0.fs) (l:=x_0.fat) (h:=(x_0.fs.length:Int)) Z Z Z Z Z (e _ _ Z) (fO (e _ _ Z)) Z hk8 q)) Z ?_)
  refine dq (.p (eS r9)) [30] Z (λ _ e _ q=>am Z (cG (mh _ (sub x_0.fs x_0.fat (x_0.fs.length:Int)) _ e10) Z Z Z (aE (e _ _ Z) bK) ⟨sr,trivial⟩ Tryz.call86 Z q)) Z (dq (.p (eB (!decide (r9=([]:Bytes))))) [31] Z (λ _ e _ q=>am Z (rl Z Z Z (e _ _ Z) Z Z q)) Z ?_)
  refine dR 1 Z (dE Z ?_)
  exact nx 2 Z (mQo (oi h0) (ax _) Z Z Z (av Z (aw _) Z) (sr) ⟨⟨_,Z,aF _⟩,trivial⟩)
 refine nx 5 Z (fD [17,18] h1 Z (λ c3 h1=>?_) λ c3 h1=>?_)
 ·exact nx 2 Z (eX _ (oi h1).symm (gE Z Z))
 refine nx 6 Z (fD [17,19] h1 Z (λ c4 h1=>?_) λ c4 h1=>?_)
 ·exact nx 2 Z (eX _ (oi h1).symm (gE Z Z))
 refine nx 6 Z (fD [17,20] h1 Z (λ c5 h1=>?_) λ c5 h1=>?_)
 ·exact nx 2 Z (eX _ (oi h1).symm (gE Z Z))
 exact nx 5 Z (eX _ (oi h1).symm (gE Z Z))
def bH (a_1:Int)(b_2:Int):Nat→aa→Option aa
 | 0,_=>none
 | m+1,x14 =>
 (
   (bO x14).bind λ r15 =>
   if r15.1=true then
    ck ((0:Int)≤r15.2.fat∧r15.2.fat < (r15.2.fs.length:Int)) <|
    ck ((0:Int)≤byt r15.2.fs r15.2.fat∧byt r15.2.fs r15.2.fat < 256) <|
    if ((lat gW (byt r15.2.fs r15.2.fat)).toNat:Int)=a_1 then
     some (true,r15.2)
    else
     ck ((0:Int)≤r15.2.fat∧r15.2.fat < (r15.2.fs.length:Int)) <|
     ck ((0:Int)≤byt r15.2.fs r15.2.fat∧byt r15.2.fs r15.2.fat < 256) <|
     some (decide (((lat gW (byt r15.2.fs r15.2.fat)).toNat:Int)=b_2),r15.2)
   else
    some (false,r15.2)
  : Option (Bool×aa)).bind λ q31 =>
 if q31.1=true then
  ck (inR (q31.2.fat+1)) <|
  bH a_1 b_2 m (aa.mk q31.2.fs (q31.2.fat+1) q31.2.fouter q31.2.fbad)
 else
  some q31.2
def cY (n:Nat)(x_0:aa)(a_1:Int)(b_2:Int):Option (Bytes×aa) :=
 (bH a_1 b_2 n x_0).bind λ x28 =>
 ck ((0:Int)≤x_0.fat∧x_0.fat≤x28.fat∧x28.fat≤(x28.fs.length:Int)) <|
 some (sub x28.fs x_0.fat x28.fat,x28)
theorem jC (n:Nat)(x_0:aa)(a_1:Int)(b_2:Int)(r:Bytes×aa)(h0:cY n x_0 a_1 b_2=some r):aW Tryz.prog 87 [.ptr 1000000 0,.p (eK .u8 a_1),.p (eK .u8 b_2)] [(1000000,(aa.cs x_0).map .p)] (λ x y=>x=.p (eS r.1)∧y=[(1000000,(aa.cs r.2).map .p)]):=by
 unfold cY at h0
 refine cw good [] [1000000] Tryz.func87 Z Z Z Z Z λ w0 F=>mPo (λ v:Bytes×aa=>.p (eS v.1)) (λ v=>[(1000000,(aa.cs v.2).map .p)]) ?_
 refine nx 9 Z (mO Z (a6 Z Z Z Z Z Z Z (aa.g_at _) ?_))
 refine nx 4 Z (bd h0 λ o32 h1 h0=>?_)
 refine kE 0 o32 (λ v33=>⟨[(0,.ptr 1000000 0),(7,.p (eI x_0.fat))],[(1000000,(aa.cs v33).map .p)]⟩) ?_ ?_
 ·refine nx 2 Z (cc' h0 λ hk29 h0=>?_)
  refine mD [(0,.ptr 1000000 0),(7,.p (eI x_0.fat))] Z ⟨Z,Z,trivial⟩ Z (dR 3 Z ?_)
  refine dq (.p (eS o32.fs)) [59] Z (λ _ e _ q=>am Z (a6 Z Z Z Z Z (e _ _ Z) Z (aa.g_s _) q)) Z (dR 4 Z ?_)
  refine dq (.p (eI o32.fat)) [64] Z (λ _ e _ q=>am Z (a6 Z Z Z Z Z (e _ _ Z) Z (aa.g_at _) q)) Z (dq (.p (eS (sub o32.fs x_0.fat o32.fat))) [60,61,65] Z (λ _ e _ q=>am Z (dD (a:=o32.fs) (l:=x_0.fat) (h:=o32.fat) Z Z Z Z Z (e _ _ Z) (fO (e _ _ Z)) (jU (e _ _ Z)) hk29 q)) Z ?_)
  refine dR 1 Z (dE Z ?_)
  exact nx 2 Z (mQo (oi h0) (ax _) Z Z Z (av Z (aw _) Z) (sr) ⟨⟨_,Z,aF _⟩,trivial⟩)
 refine lG (λ (q34:aa)=>⟨[(0,.ptr 1000000 0),(1,.p (eK .u8 a_1)),(2,.p (eK .u8 b_2)),(7,.p (eI x_0.fat))],[(1000000,(aa.cs q34).map .p)]⟩) (λ m (q34:aa)=>bH a_1 b_2 m q34) Y x_0 h1 (gE Z Z) ?_
 rintro m x14 h1
 replace h1:bH a_1 b_2 (m+1) x14=some o32:=h1
 rw [bH] at h1
 refine nx 2 Z (bd h1 λ o35 h2 h1=>?_)
 refine kN o35 (λ v36=>⟨[(0,.ptr 1000000 0),(1,.p (eK .u8 a_1)),(2,.p (eK .u8 b_2)),(7,.p (eI x_0.fat)),(49,.p (eB v36.1))],[(1000000,(aa.cs v36.2).map .p)]⟩) ?_ ?_
 ·refine nx 1 Z (fB [49] h1 Z (λ c25 h1=>?_) λ c25 h1=>?_)
  ·refine nx 7 Z (mO Z (a6 Z Z Z Z Z Z Z (aa.g_at _) ?_))
   refine oA h1 Z Z λ hk26 h1=>nx 2 Z (mO Z (ek Z Z Z Z Z Z Z Z (aa.b_at _) (aa.u_at _) ?_))
   exact nx 1 Z (eX (aa.mk o35.2.fs (o35.2.fat+1) o35.2.fouter o35.2.fbad) h1 (gE Z Z))
  exact nx 2 Z (eXi _ (oi h1).symm (gE Z Z))
 refine bd h2 λ r15 e16 h2=>fB (p:=r15.1) [] h2 Z (λ c17 h2=>?_) λ c17 h2=>?_
 ·refine cc' h2 λ hk18 h2=>cc' h2 λ hk19 h2=>fD (p:=((lat gW (byt r15.2.fs r15.2.fat)).toNat:Int)=a_1) [] h2 Z (λ c20 h2=>?_) λ c20 h2=>?_
  ·refine mG (gE (t:=⟨[(0,.ptr 1000000 0),(1,.p (eK .u8 a_1)),(2,.p (eK .u8 b_2)),(7,.p (eI x_0.fat))],[(1000000,(aa.cs x14).map .p)]⟩) Z Z) (mSq ⟨1,[1],(by2 (.some (da [] 108000 108000)) .none),(λ _=>[(0,.ptr 1000000 0),(1,.p (eK .u8 a_1)),(2,.p (eK .u8 b_2)),(7,.p (eI x_0.fat))]),(by2 [(1000000,(aa.cs x14).map .p)] [(1000000,(aa.cs r15.2).map .p)])⟩ Z ?_)
   refine dPc (.ptr 1000000 0) Z (eC (λ _=>.p (eB r15.1)) [(12,_)] Z ⟨.inr ⟨0,_,Z,Z,Z⟩,trivial⟩ Z Z Y (lt1 (λ h=>absurd h (by decide))) (λ sl hsl K hK=>am Z (bB [1000000] [] 108000 108000 (cm x14 _ e16) Z Z Z (aE (hsl _ _ Z) bK) Z ⟨sr,trivial⟩ Z (av Z (aw _) Z) ⟨⟨_,Z,aF _⟩,trivial⟩ Z Z Z Z Z Z Z Z Tryz.call53 Z (av Z (aw _) Z) hK)) ?_)
   refine dPc (.p (eB r15.1)) Z (dPy (λ _=>.ptr 1000000 0) (c17) Z ?_)
   refine dPy (λ _=>.ptr 1000000 0) (c17) Z (dPy (λ _=>.ptr 1000000 0) (c17) Z ?_)
   refine dPy (λ _=>.ptr 1000000 0) (c17) Z (dPy (λ _=>.p (eS r15.2.fs)) (c17) Z ?_)
   refine dPy (λ _=>.ptr 1000000 0) (c17) Z (dPy (λ _=>.ptr 1000000 0) (c17) Z ?_)
   refine dPy (λ _=>.ptr 1000000 1) (c17) Z (dPy (λ _=>.p (eI r15.2.fat)) (c17) Z ?_)
   refine aN (λ _=>.p (eK .u8 (byt r15.2.fs r15.2.fat))) Z Z Z (gx Z Y) (lt1 Z) (ay [(14,_),(19,_),(23,_)] ⟨.inr ⟨2,_,Z,Z,Z⟩,.inr ⟨7,_,Z,Z,Z⟩,.inr ⟨11,_,Z,Z,Z⟩,trivial⟩ (λ sl hsl K hK=>em (ji Z Z Z Z Z (hsl _ _ Z) (hsl _ _ Z) hk18 hK) Z Z (hsl _ _ Z) (c17)) (az Z aO)) (dPy (λ _=>.ptr 1000000 0) (c17) Z ?_)
   refine dPy (λ _=>.ptr 1000000 2) (c17) Z (aN (λ _=>.ptr 1000000 (2+(byt r15.2.fs r15.2.fat).toNat*1)) Z Z Z (gx Z Y) (lt1 Z) (ay [(14,_),(24,_),(26,_)] ⟨.inr ⟨2,_,Z,Z,Z⟩,.inr ⟨12,_,Z,Z,Z⟩,.inr ⟨14,_,Z,Z,Z⟩,trivial⟩ (λ sl hsl K hK=>em (fk Z Z Z Z Z Z (hsl _ _ Z) (hsl _ _ Z) hk19 hK) Z Z (hsl _ _ Z) (c17)) (az Z aO)) ?_)
   refine aN (λ _=>.p (eK .u8 ((lat gW (byt r15.2.fs r15.2.fat)).toNat:Int))) Z Z Z (gx Z Y) (lt1 Z) (ay [(14,_),(27,_)] ⟨.inr ⟨2,_,Z,Z,Z⟩,.inr ⟨15,_,Z,Z,Z⟩,trivial⟩ (λ sl hsl K hK=>em (a6 Z Z Z Z Z (hsl _ _ Z) Z (aa.g_class _ hk19) hK) Z Z (hsl _ _ Z) (c17)) (az Z aO)) (dPy (λ _=>.p (eK .u8 a_1)) (c17) Z ?_)
   refine dPy (λ _=>.p (eB (decide (((lat gW (byt r15.2.fs r15.2.fat)).toNat:Int)=a_1)))) (c17) Z (dPy (λ _=>.p (eB (decide (((lat gW (byt r15.2.fs r15.2.fat)).toNat:Int)=a_1)))) (c17) Z ?_)
   refine dPn (dt c20) Z (dPn (dt c20) Z ?_)
   refine dPn (dt c20) Z (dPn (dt c20) Z ?_)
   refine dPn (dt c20) Z (dPn (dt c20) Z ?_)
   refine dPn (dt c20) Z (dPn (dt c20) Z ?_)
   refine dPn (dt c20) Z (dPn (dt c20) Z ?_)
   refine dPn (dt c20) Z (dPn (dt c20) Z ?_)
   refine dPn (dt c20) Z (dPn (dt c20) Z ?_)
   refine dPn (dt c20) Z (dPn (dt c20) Z ?_)
   refine aN (λ _=>.p (eB true)) Z Z Z (gx Z Y) (lt1 Z) (ay [(14,_),(31,_),(47,_)] ⟨.inr ⟨2,_,Z,Z,Z⟩,.inr ⟨19,_,Z,Z,Z⟩,.inr ⟨35,_,Z,Z,Z⟩,trivial⟩ (λ sl hsl K hK=>em (jV Z Z Z (hsl _ _ Z) (dt c20) Z hK) Z Z (hsl _ _ Z) (c17)) (az Z aO)) (aN (λ _=>.p (eB true)) Z Z Z (gx Z Y) (lt1 Z) (ay [(14,_),(48,_)] ⟨.inr ⟨2,_,Z,Z,Z⟩,.inr ⟨36,_,Z,Z,Z⟩,trivial⟩ (λ sl hsl K hK=>am Z (jV Z Z Z (hsl _ _ Z) (c17) (hsl _ _ Z) hK)) (az Z aO)) ?_)
   refine dJ (nx 1 Z ?_)
   exact eX _ (oi h2).symm (gE Z Z)
  refine cc' h2 λ hk21 h2=>cc' h2 λ hk22 h2=>mG (gE (t:=⟨[(0,.ptr 1000000 0),(1,.p (eK .u8 a_1)),(2,.p (eK .u8 b_2)),(7,.p (eI x_0.fat))],[(1000000,(aa.cs x14).map .p)]⟩) Z Z) (mSq ⟨1,[1],(by2 (.some (da [] 109000 109000)) .none),(λ _=>[(0,.ptr 1000000 0),(1,.p (eK .u8 a_1)),(2,.p (eK .u8 b_2)),(7,.p (eI x_0.fat))]),(by2 [(1000000,(aa.cs x14).map .p)] [(1000000,(aa.cs r15.2).map .p)])⟩ Z ?_)
  refine dPc (.ptr 1000000 0) Z (eC (λ _=>.p (eB r15.1)) [(12,_)] Z ⟨.inr ⟨0,_,Z,Z,Z⟩,trivial⟩ Z Z Y (lt1 (λ h=>absurd h (by decide))) (λ sl hsl K hK=>am Z (bB [1000000] [] 109000 109000 (cm x14 _ e16) Z Z Z (aE (hsl _ _ Z) bK) Z ⟨sr,trivial⟩ Z (av Z (aw _) Z) ⟨⟨_,Z,aF _⟩,trivial⟩ Z Z Z Z Z Z Z Z Tryz.call53 Z (av Z (aw _) Z) hK)) ?_)
  refine dPc (.p (eB r15.1)) Z (dPy (λ _=>.ptr 1000000 0) (c17) Z ?_)
  refine dPy (λ _=>.ptr 1000000 0) (c17) Z (dPy (λ _=>.ptr 1000000 0) (c17) Z ?_)
  refine dPy (λ _=>.ptr 1000000 0) (c17) Z (dPy (λ _=>.p (eS r15.2.fs)) (c17) Z ?_)
  refine dPy (λ _=>.ptr 1000000 0) (c17) Z (dPy (λ _=>.ptr 1000000 0) (c17) Z ?_)
  refine dPy (λ _=>.ptr 1000000 1) (c17) Z (dPy (λ _=>.p (eI r15.2.fat)) (c17) Z ?_)
  refine aN (λ _=>.p (eK .u8 (byt r15.2.fs r15.2.fat))) Z Z Z (gx Z Y) (lt1 Z) (ay [(14,_),(19,_),(23,_)] ⟨.inr ⟨2,_,Z,Z,Z⟩,.inr ⟨7,_,Z,Z,Z⟩,.inr ⟨11,_,Z,Z,Z⟩,trivial⟩ (λ sl hsl K hK=>em (ji Z Z Z Z Z (hsl _ _ Z) (hsl _ _ Z) hk18 hK) Z Z (hsl _ _ Z) (c17)) (az Z aO)) (dPy (λ _=>.ptr 1000000 0) (c17) Z ?_)
  refine dPy (λ _=>.ptr 1000000 2) (c17) Z (aN (λ _=>.ptr 1000000 (2+(byt r15.2.fs r15.2.fat).toNat*1)) Z Z Z (gx Z Y) (lt1 Z) (ay [(14,_),(24,_),(26,_)] ⟨.inr ⟨2,_,Z,Z,Z⟩,.inr ⟨12,_,Z,Z,Z⟩,.inr ⟨14,_,Z,Z,Z⟩,trivial⟩ (λ sl hsl K hK=>em (fk Z Z Z Z Z Z (hsl _ _ Z) (hsl _ _ Z) hk19 hK) Z Z (hsl _ _ Z) (c17)) (az Z aO)) ?_)
  refine aN (λ _=>.p (eK .u8 ((lat gW (byt r15.2.fs r15.2.fat)).toNat:Int))) Z Z Z (gx Z Y) (lt1 Z) (ay [(14,_),(27,_)] ⟨.inr ⟨2,_,Z,Z,Z⟩,.inr ⟨15,_,Z,Z,Z⟩,trivial⟩ (λ sl hsl K hK=>em (a6 Z Z Z Z Z (hsl _ _ Z) Z (aa.g_class _ hk19) hK) Z Z (hsl _ _ Z) (c17)) (az Z aO)) (dPy (λ _=>.p (eK .u8 a_1)) (c17) Z ?_)
  refine dPy (λ _=>.p (eB (decide (((lat gW (byt r15.2.fs r15.2.fat)).toNat:Int)=a_1)))) (c17) Z (dPy (λ _=>.p (eB (decide (((lat gW (byt r15.2.fs r15.2.fat)).toNat:Int)=a_1)))) (c17) Z ?_)
  refine dPy (λ _=>.ptr 1000000 0) (df c20) Z (dPy (λ _=>.ptr 1000000 0) (df c20) Z ?_)
  refine dPy (λ _=>.ptr 1000000 0) (df c20) Z (dPy (λ _=>.ptr 1000000 0) (df c20) Z ?_)
  refine dPy (λ _=>.p (eS r15.2.fs)) (df c20) Z (dPy (λ _=>.ptr 1000000 0) (df c20) Z ?_)
  refine dPy (λ _=>.ptr 1000000 0) (df c20) Z (dPy (λ _=>.ptr 1000000 1) (df c20) Z ?_)
  refine dPy (λ _=>.p (eI r15.2.fat)) (df c20) Z (aN (λ _=>.p (eK .u8 (byt r15.2.fs r15.2.fat))) Z Z Z (gx Z Y) (lt1 Z) (ay [(31,_),(36,_),(40,_)] ⟨.inr ⟨19,_,Z,Z,Z⟩,.inr ⟨24,_,Z,Z,Z⟩,.inr ⟨28,_,Z,Z,Z⟩,trivial⟩ (λ sl hsl K hK=>em (ji Z Z Z Z Z (hsl _ _ Z) (hsl _ _ Z) hk21 hK) Z Z (hsl _ _ Z) (df c20)) (az Z aO)) ?_)
  refine dPy (λ _=>.ptr 1000000 0) (df c20) Z (dPy (λ _=>.ptr 1000000 2) (df c20) Z ?_)
  refine aN (λ _=>.ptr 1000000 (2+(byt r15.2.fs r15.2.fat).toNat*1)) Z Z Z (gx Z Y) (lt1 Z) (ay [(31,_),(41,_),(43,_)] ⟨.inr ⟨19,_,Z,Z,Z⟩,.inr ⟨29,_,Z,Z,Z⟩,.inr ⟨31,_,Z,Z,Z⟩,trivial⟩ (λ sl hsl K hK=>em (fk Z Z Z Z Z Z (hsl _ _ Z) (hsl _ _ Z) hk22 hK) Z Z (hsl _ _ Z) (df c20)) (az Z aO)) (aN (λ _=>.p (eK .u8 ((lat gW (byt r15.2.fs r15.2.fat)).toNat:Int))) Z Z Z (gx Z Y) (lt1 Z) (ay [(31,_),(44,_)] ⟨.inr ⟨19,_,Z,Z,Z⟩,.inr ⟨32,_,Z,Z,Z⟩,trivial⟩ (λ sl hsl K hK=>em (a6 Z Z Z Z Z (hsl _ _ Z) Z (aa.g_class _ hk22) hK) Z Z (hsl _ _ Z) (df c20)) (az Z aO)) ?_)
  refine dPy (λ _=>.p (eK .u8 b_2)) (df c20) Z (dPy (λ _=>.p (eB (decide (((lat gW (byt r15.2.fs r15.2.fat)).toNat:Int)=b_2)))) (df c20) Z ?_)
  refine aN (λ _=>.p (eB (decide (((lat gW (byt r15.2.fs r15.2.fat)).toNat:Int)=b_2)))) Z Z Z (gx Z Y) (lt1 Z) (ay [(14,_),(31,_),(47,_)] ⟨.inr ⟨2,_,Z,Z,Z⟩,.inr ⟨19,_,Z,Z,Z⟩,.inr ⟨35,_,Z,Z,Z⟩,trivial⟩ (λ sl hsl K hK=>em (kL Z Z Z (hsl _ _ Z) (df c20) (hsl _ _ Z) hK) Z Z (hsl _ _ Z) (c17)) (az Z aO)) (aN (λ _=>.p (eB (decide (((lat gW (byt r15.2.fs r15.2.fat)).toNat:Int)=b_2)))) Z Z Z (gx Z Y) (lt1 Z) (ay [(14,_),(48,_)] ⟨.inr ⟨2,_,Z,Z,Z⟩,.inr ⟨36,_,Z,Z,Z⟩,trivial⟩ (λ sl hsl K hK=>am Z (jV Z Z Z (hsl _ _ Z) (c17) (hsl _ _ Z) hK)) (az Z aO)) ?_)
  refine dJ (nx 1 Z ?_)
  exact eX _ (oi h2).symm (gE Z Z)
 refine mG (gE (t:=⟨[(0,.ptr 1000000 0),(1,.p (eK .u8 a_1)),(2,.p (eK .u8 b_2)),(7,.p (eI x_0.fat))],[(1000000,(aa.cs x14).map .p)]⟩) Z Z) (mSq ⟨1,[1],(by2 (.some (da [] 110000 110000)) .none),(λ _=>[(0,.ptr 1000000 0),(1,.p (eK .u8 a_1)),(2,.p (eK .u8 b_2)),(7,.p (eI x_0.fat))]),(by2 [(1000000,(aa.cs x14).map .p)] [(1000000,(aa.cs r15.2).map .p)])⟩ Z ?_)
 refine dPc (.ptr 1000000 0) Z (eC (λ _=>.p (eB r15.1)) [(12,_)] Z ⟨.inr ⟨0,_,Z,Z,Z⟩,trivial⟩ Z Z Y (lt1 (λ h=>absurd h (by decide))) (λ sl hsl K hK=>am Z (bB [1000000] [] 110000 110000 (cm x14 _ e16) Z Z Z (aE (hsl _ _ Z) bK) Z ⟨sr,trivial⟩ Z (av Z (aw _) Z) ⟨⟨_,Z,aF _⟩,trivial⟩ Z Z Z Z Z Z Z Z Tryz.call53 Z (av Z (aw _) Z) hK)) ?_)
 refine dPc (.p (eB r15.1)) Z (dPn (c17) Z ?_)
 refine dPn (c17) Z (dPn (c17) Z ?_)
 refine dPn (c17) Z (dPn (c17) Z ?_)
 refine dPn (c17) Z (dPn (c17) Z ?_)
 refine dPn (c17) Z (dPn (c17) Z ?_)
 refine dPn (c17) Z (dPn (c17) Z ?_)
 refine dPn (c17) Z (dPn (c17) Z ?_)
 refine dPn (c17) Z (dPn (c17) Z ?_)
 refine dPn (c17) Z (dPn (c17) Z ?_)
 refine dPx Z (dPx Z ?_)
 refine dPx Z (dPx Z ?_)
 refine dPx Z (dPx Z ?_)
 refine dPx Z (dPx Z ?_)
 refine dPx Z (dPx Z ?_)
 refine dPx Z (dPx Z ?_)
 refine dPx Z (dPx Z ?_)
 refine dPx Z (dPx Z ?_)
 refine dPn (c17) Z (aN (λ _=>.p (eB false)) Z Z Z (gx Z Y) (lt1 Z) (ay [(14,_),(48,_)] ⟨.inr ⟨2,_,Z,Z,Z⟩,.inr ⟨36,_,Z,Z,Z⟩,trivial⟩ (λ sl hsl K hK=>am Z (kL Z Z Z (hsl _ _ Z) (c17) Z hK)) (az Z aO)) ?_)
 refine dJ (nx 1 Z ?_)
 exact eX _ (oi h2).symm (gE Z Z)
def cP (x_0:aa)(k_1:Int)(at_2:Int):Option (Bool×aa) :=
 some (false,(aa.mk x_0.fs x_0.fat x_0.fouter (ap.mk k_1 at_2 ([]:Bytes))))
theorem dF (x_0:aa)(k_1:Int)(at_2:Int)(r:Bool×aa)(h0:cP x_0 k_1 at_2=some r):aW Tryz.prog 88 [.ptr 1000000 0,.p (eI k_1),.p (eI at_2)] [(1000000,(aa.cs x_0).map .p)] (λ x y=>x=.p (eB r.1)∧y=[(1000000,(aa.cs r.2).map .p)]):=by
 unfold cP at h0
 refine cw good [] [1000000] Tryz.func88 Z Z Z Z Z λ w0 F=>mPo (λ v:Bool×aa=>.p (eB v.1)) (λ v=>[(1000000,(aa.cs v.2).map .p)]) ?_
 refine nx 12 Z (mO Z (ek Z Z Z Z Z Z Z Z (aa.b_bad _) (aa.u_bad _) ?_))
 exact nx 6 Z (mQo (oi h0) (ax _) Z Z Z (av Z (aw _) Z) (sr) ⟨⟨_,Z,aF _⟩,trivial⟩)
def dX (x_0:aa):Option (Bool×aa) :=
 ck ((0:Int)≤x_0.fat∧x_0.fat≤(x_0.fs.length:Int)∧(x_0.fs.length:Int)≤(x_0.fs.length:Int)) <|
 (aZ (sub x_0.fs x_0.fat (x_0.fs.length:Int))).bind λ r2 =>
 (
   if r2.1=65533 then
    if r2.2=1 then
     some true
    else
     if r2.1 < 32 then
      some true
     else
      some (decide (r2.1=127))
   else
    if r2.1 < 32 then
     some true
    else
     some (decide (r2.1=127))
  : Option Bool).bind λ t8 =>
 if t8=true then
  some (false,x_0)
 else
  ck (inR (x_0.fat+r2.2)) <|
  some (true,(aa.mk x_0.fs (x_0.fat+r2.2) x_0.fouter x_0.fbad))
theorem j4 (x_0:aa)(r:Bool×aa)(h0:dX x_0=some r):aW Tryz.prog 134 [.ptr 1000000 0] [(1000000,(aa.cs x_0).map .p)] (λ x y=>x=.p (eB r.1)∧y=[(1000000,(aa.cs r.2).map .p)]):=by
 unfold dX at h0
 refine cw good [] [1000000] Tryz.func134 Z Z Z Z Z λ w0 F=>mPo (λ v:Bool×aa=>.p (eB v.1)) (λ v=>[(1000000,(aa.cs v.2).map .p)]) ?_
 refine nx 5 Z (cc' h0 λ hk1 h0=>?_)
 refine bd h0 λ r2 e3 h0=>mD [(0,.ptr 1000000 0)] Z ⟨Z,trivial⟩ Z (dR 3 Z ?_)
 refine dq (.p (eS x_0.fs)) [8] Z (λ _ e _ q=>am Z (a6 Z Z Z Z Z (e _ _ Z) Z (aa.g_s _) q)) Z (dR 3 Z ?_)
 refine dq (.p (eI x_0.fat)) [12] Z (λ _ e _ q=>am Z (a6 Z Z Z Z Z (e _ _ Z) Z (aa.g_at _) q)) Z (dq (.p (eS (sub x_0.fs x_0.fat (x_0.fs.length:Int)))) [9,13] Z (λ _ e _ q=>am Z (dD (a:=x_0.fs) (l:=x_0.fat) (h:=(x_0.fs.length:Int)) Z Z Z Z Z (e _ _ Z) (fO (e _ _ Z)) Z hk1 q)) Z ?_)
 refine dq (.tuple [.p (eK .i32 r2.1),.p (eI r2.2)]) [14] Z (λ _ e _ q=>am Z (cG (dM (sub x_0.fs x_0.fat (x_0.fs.length:Int)) _ e3) Z Z Z (aE (e _ _ Z) bK) ⟨sr,trivial⟩ Tryz.call126 Z q)) Z (dR 5 Z ?_)
 refine dE Z (nx 3 Z ?_)
 refine bd h0 λ o12 h1 h0=>kN o12 (λ v13=>⟨[(0,.ptr 1000000 0),(4,.p (eI r2.2)),(31,.p (eB v13))],[(1000000,(aa.cs x_0).map .p)]⟩) ?_ ?_
 ·refine nx 1 Z (fB [31] h0 Z (λ c9 h0=>?_) λ c9 h0=>?_)
  ·exact nx 6 Z (mQo (oi h0) (ax _) Z Z Z (av Z (aw _) Z) (sr) ⟨⟨_,Z,aF _⟩,trivial⟩)
  refine nx 7 Z (mO Z (a6 Z Z Z Z Z Z Z (aa.g_at _) ?_))
  refine nx 1 Z (oA h0 Z Z λ hk10 h0=>?_)
  refine nx 2 Z (mO Z (ek Z Z Z Z Z Z Z Z (aa.b_at _) (aa.u_at _) ?_))
  exact nx 6 Z (mQo (oi h0) (ax _) Z Z Z (av Z (aw _) Z) (sr) ⟨⟨_,Z,aF _⟩,trivial⟩)
 refine nx 4 Z (fD [19,20] h1 Z (λ c4 h1=>?_) λ c4 h1=>?_)
 ·refine nx 4 Z (fD [22,23,24] h1 Z (λ c5 h1=>?_) λ c5 h1=>?_)
  ·exact nx 8 Z (eX _ (oi h1).symm (gE Z Z))
  refine nx 4 Z (fD [26,27,28] h1 Z (λ c6 h1=>?_) λ c6 h1=>?_)
  ·exact nx 4 Z (eX _ (oi h1).symm (gE Z Z))
  exact nx 4 Z (eX _ (oi h1).symm (gE Z Z))
 refine nx 8 Z (fD [26,27,28] h1 Z (λ c7 h1=>?_) λ c7 h1=>?_)
 ·exact nx 4 Z (eX _ (oi h1).symm (gE Z Z))
 exact nx 4 Z (eX _ (oi h1).symm (gE Z Z))
def aI (r_token_scanner_interpolation:aa→Int→Option (Bool×aa))(depth_1:Int):Nat→aa→Option (aa⊕(Bool×aa))
 | 0,_=>none
 | m+1,x33 =>
 (bO x33).bind λ r34 =>
 if r34.1=true then
  ck ((0:Int)≤r34.2.fat∧r34.2.fat≤(r34.2.fs.length:Int)∧(r34.2.fs.length:Int)≤(r34.2.fs.length:Int)) <|
  jn (
    ck ((0:Int)≤0∧0 < ((sub r34.2.fs r34.2.fat (r34.2.fs.length:Int)).length:Int)) <|
    if byt (sub r34.2.fs r34.2.fat (r34.2.fs.length:Int)) 0=34 then
     ck (inR (r34.2.fat+1)) <|
     some (.inr (.inr (true,(aa.mk r34.2.fs (r34.2.fat+1) r34.2.fouter r34.2.fbad))))
    else
     (strings_HasPrefix (sub r34.2.fs r34.2.fat (r34.2.fs.length:Int)) ([36,36,123]:Bytes)).bind λ r41 =>
     if r41=true then
      ck (inR (r34.2.fat+3)) <|
      some (.inl (aa.mk r34.2.fs (r34.2.fat+3) r34.2.fouter r34.2.fbad))
     else
      (strings_HasPrefix (sub r34.2.fs r34.2.fat (r34.2.fs.length:Int)) ([36,123]:Bytes)).bind λ r45 =>
      if r45=true then
       (r_token_scanner_interpolation r34.2 depth_1).bind λ r48 =>
       if (!r48.1)=true then
        some (.inr (.inr (false,r48.2)))
       else
        some (.inl r48.2)
      else
       (
         ck ((0:Int)≤0∧0 < ((sub r34.2.fs r34.2.fat (r34.2.fs.length:Int)).length:Int)) <|
         if byt (sub r34.2.fs r34.2.fat (r34.2.fs.length:Int)) 0=92 then
          ck (inR (r34.2.fat+1)) <|
          some (aa.mk r34.2.fs (r34.2.fat+1) r34.2.fouter r34.2.fbad)
         else
          some r34.2
        : Option aa).bind λ x54 =>
       (bO x54).bind λ r55 =>
       if (!r55.1)=true then
        some (.inl r55.2)
       else
        (dX r55.2).bind λ r58 =>
        if (!r58.1)=true then
         (cP r58.2 2 r58.2.fat).bind λ r61 =>
         some (.inr (.inr (r61.1,r61.2)))
        else
         some (.inl r58.2)
   : Option (aa⊕(aa⊕(Bool×aa)))) λ x63 =>
  aI r_token_scanner_interpolation depth_1 m x63
 else
  some (.inl r34.2)
def aD (n:Nat)(r_token_scanner_token:aa→Int→Option (ae×Bool×aa))(depth_1:Int):Nat→Int→aa→Option (aa⊕(Bool×aa))
 | 0,_,_=>none
 | m+1,open35,x36 =>
 if 0 < open35 then
  jn (
    (cN n x36).bind λ r38 =>
    (bO r38).bind λ r40 =>
    if (!r40.1)=true then
     (cP r40.2 40 r40.2.fouter).bind λ r43 =>
     some (.inr (.inr (r43.1,r43.2)))
    else
     (cz n r40.2).bind λ r45 =>
     if (!r45.1)=true then
      (cP r45.2 2 r45.2.fat).bind λ r48 =>
      some (.inr (.inr (r48.1,r48.2)))
     else
      ck (inR (depth_1+1)) <|
      (r_token_scanner_token r45.2 (depth_1+1)).bind λ r51 =>
      if (!r51.2.1)=true then
       some (.inr (.inr (false,r51.2.2)))
      else
       (
         (
           if r51.1.fKind=4 then
            some (decide (r51.1.fText=([123]:Bytes)))
           else
            some false
          : Option Bool).bind λ t55 =>
         if t55=true then
          ck (inR (open35+1)) <|
          some (open35+1)
         else
          some open35
        : Option Int).bind λ open58 =>
       (
         if r51.1.fKind=4 then
          some (decide (r51.1.fText=([125]:Bytes)))
         else
          some false
        : Option Bool).bind λ t60 =>
       if t60=true then
        ck (inR (open58 - 1)) <|
        some (.inl (open58 - 1,r51.2.2))
       else
        some (.inl (open58,r51.2.2))
   : Option ((Int×aa)⊕(aa⊕(Bool×aa)))) λ q69 =>
  aD n r_token_scanner_token depth_1 m q69.1 q69.2
 else
  some (.inl x36)
mutual
def aQ:Nat→aa→Int→Option (ae×Bool×aa)
 | 0,_,_=>none
 | n+1,x_0,depth_1 =>
 ck ((0:Int)≤x_0.fat∧x_0.fat < (x_0.fs.length:Int)) <|
 ck ((0:Int)≤byt x_0.fs x_0.fat∧byt x_0.fs x_0.fat < 256) <|
 jn (
   if ((lat gW (byt x_0.fs x_0.fat)).toNat:Int)=2 then
    (cY n x_0 2 3).bind λ r4 =>
    if 64 < (r4.1.length:Int) then
     (cP r4.2 7 x_0.fat).bind λ r7 =>
     some (.inr ((ae.mk 1 r4.1 x_0.fat),r7.1,r7.2))
    else
     some (.inl (1,r4.1,r4.2))
   else
    if ((lat gW (byt x_0.fs x_0.fat)).toNat:Int)=3 then
     (cY n x_0 3 3).bind λ r10 =>
     some (.inl (2,r10.1,r10.2))
    else
     if ((lat gW (byt x_0.fs x_0.fat)).toNat:Int)=6 then
      ck (inR (x_0.fat+1)) <|
      some (.inl (5,([10]:Bytes),(aa.mk x_0.fs (x_0.fat+1) x_0.fouter x_0.fbad)))
     else
      if ((lat gW (byt x_0.fs x_0.fat)).toNat:Int)=5 then
       ((bR n) x_0 depth_1).bind λ r15 =>
       if (!r15.1)=true then
        some (.inr ((ae.mk 3 ([]:Bytes) x_0.fat),false,r15.2))
       else
        ck (inR (x_0.fat+1)) <|
        ck (inR (r15.2.fat - 1)) <|
        ck ((0:Int)≤x_0.fat+1∧x_0.fat+1≤r15.2.fat - 1∧r15.2.fat - 1≤(r15.2.fs.length:Int)) <|
        some (.inl (3,sub r15.2.fs (x_0.fat+1) (r15.2.fat - 1),r15.2))
      else
       ck ((0:Int)≤x_0.fat∧x_0.fat≤(x_0.fs.length:Int)∧(x_0.fs.length:Int)≤(x_0.fs.length:Int)) <|
       (eP n (sub x_0.fs x_0.fat (x_0.fs.length:Int))).bind λ r22 =>
       ck (inR (x_0.fat+(r22.length:Int))) <|
       some (.inl (4,r22,(aa.mk x_0.fs (x_0.fat+(r22.length:Int)) x_0.fouter x_0.fbad)))
  : Option ((Int×Bytes×aa)⊕(ae×Bool×aa))) λ q28 =>
 some ((ae.mk q28.1 q28.2.1 x_0.fat),true,q28.2.2)
def bY:Nat→aa→Int→Option (Bool×aa)
 | 0,_,_=>none
 | n+1,x_0,depth_1 =>
 ck (inR (x_0.fat+1)) <|
 jn (aI (aC n) depth_1 n (aa.mk x_0.fs (x_0.fat+1) x_0.fouter x_0.fbad)) λ x65 =>
 (cP x65 40 x65.fouter).bind λ r66 =>
 some (r66.1,r66.2)
def bR:Nat→aa→Int→Option (Bool×aa)
 | 0,_,_=>none
 | n+1,x_0,depth_1 =>
 if x_0.fouter < 0 then
  ((bY n) (aa.mk x_0.fs x_0.fat x_0.fat x_0.fbad) depth_1).bind λ r1 =>
  some (r1.1,aa.mk r1.2.fs r1.2.fat (-1) r1.2.fbad)
 else (bY n) x_0 depth_1
def aC:Nat→aa→Int→Option (Bool×aa)
 | 0,_,_=>none
 | n+1,x_0,depth_1 =>
 if 32≤depth_1 then
  (cP x_0 4 x_0.fat).bind λ r2 =>
  some (r2.1,r2.2)
 else
  ck (inR (x_0.fat+2)) <|
  jn (aD n (aQ n) depth_1 n 1 (aa.mk x_0.fs (x_0.fat+2) x_0.fouter x_0.fbad)) λ x67 =>
  some (true,x67)
end
theorem lc (n:Nat):(∀ (x_0:aa) (depth_1:Int) (r:ae×Bool×aa),aQ n x_0 depth_1=some r→aW Tryz.prog 55 [.ptr 1000000 0,.p (eI depth_1)] [(1000000,(aa.cs x_0).map .p)] (λ x y=>x=.tuple [.p (.agg (ae.cs r.1)),.p (eB r.2.1)]∧y=[(1000000,(aa.cs r.2.2).map .p)]))∧(∀ (x_0:aa) (depth_1:Int) (r:Bool×aa),bY n x_0 depth_1=some r→zE Tryz.prog Tryz.f89 (E7 Tryz.f89.body) [(1,.p (eI depth_1)),(2,.ptr 1000001 0)] [(1000000,(aa.cs x_0).map .p),(1000001,[.ptr 1000000 0])] (λ x y=>x.sub (.p (eB r.1))∧leO y [(1000000,(aa.cs r.2).map .p),(1000001,[.ptr 1000000 0])]))∧(∀ (x_0:aa) (depth_1:Int) (r:Bool×aa),bR n x_0 depth_1=some r→aW Tryz.prog 89 [.ptr 1000000 0,.p (eI depth_1)] [(1000000,(aa.cs x_0).map .p)] (λ x y=>x=.p (eB r.1)∧y=[(1000000,(aa.cs r.2).map .p)]))∧(∀ (x_0:aa) (depth_1:Int) (r:Bool×aa),aC n x_0 depth_1=some r→aW Tryz.prog 133 [.ptr 1000000 0,.p (eI depth_1)] [(1000000,(aa.cs x_0).map .p)] (λ x y=>x=.p (eB r.1)∧y=[(1000000,(aa.cs r.2).map .p)])):=by
 induction n with
 | zero=>exact ⟨(by intro x_0 depth_1 r h0; cases h0),(by intro x_0 depth_1 r h0; cases h0),(by intro x_0 depth_1 r h0; cases h0),(by intro x_0 depth_1 r h0; cases h0)⟩
 | succ n ih =>
 obtain ⟨ih_token_scanner_token_ok,ih_token_scanner_source_b_ok,ih_token_scanner_source_ok,ih_token_scanner_interpolation_ok⟩:=ih
 refine ⟨?_,?_,?_,?_⟩
 ·skip
  intro x_0 depth_1 r h0
  rw [aQ] at h0
  refine cw good [] [1000000] Tryz.func55 Z Z Z Z Z λ w0 F=>mPo (λ v:ae×Bool×aa=>.tuple [.p (.agg (ae.cs v.1)),.p (eB v.2.1)]) (λ v=>[(1000000,(aa.cs v.2.2).map .p)]) ?_
  refine nx 2 Z (mO Z (gO Z Z Z Z Z ?_))
  refine mG (lm (show jQ _ _=_ from (by repeat (first | exact iZ _ | apply il Z | apply d4 Z (kP _ _) | apply d4 Z Z)))) (nx 7 Z ?_)
  refine mO Z (a6 Z Z Z Z Z Z Z (aa.g_at _) ?_)
  refine nx 1 Z (mO Z (gO Z Z Z Z Z ?_))
  refine mG (lm (show jQ _ _=_ from (by repeat (first | exact iZ _ | apply il Z | apply d4 Z (kP _ _) | apply d4 Z Z)))) (nx 4 Z ?_)
  refine cc' h0 λ hk1 h0=>cc' h0 λ hk2 h0=>mD [(0,.ptr 1000000 0),(1,.p (eI depth_1)),(4,.ptr 4 0),(6,.ptr 6 0)] Z ⟨Z,Z,Z,Z,trivial⟩ Z (dR 4 Z ?_)
  refine dq (.p (eS x_0.fs)) [15] Z (λ _ e _ q=>am Z (a6 Z Z Z Z Z (e _ _ Z) Z (aa.g_s _) q)) Z (dR 3 Z ?_)
  refine dq (.p (eI x_0.fat)) [19] Z (λ _ e _ q=>am Z (a6 Z Z Z Z Z (e _ _ Z) Z (aa.g_at _) q)) Z (dq (.p (eK .u8 (byt x_0.fs x_0.fat))) [16,20] Z (λ _ e _ q=>am Z (ji Z Z Z Z Z (e _ _ Z) (e _ _ Z) hk1 q)) Z ?_)
  refine dR 2 Z (dq (.ptr 1000000 (2+(byt x_0.fs x_0.fat).toNat*1)) [21,23] Z (λ _ e _ q=>am Z (fk Z Z Z Z Z Z (e _ _ Z) (e _ _ Z) hk2 q)) Z ?_)
  refine dq (.p (eK .u8 ((lat gW (byt x_0.fs x_0.fat)).toNat:Int))) [24] Z (λ _ e _ q=>am Z (a6 Z Z Z Z Z (e _ _ Z) Z (aa.g_class _ hk2) q)) Z (dE Z ?_)
  refine nx 1 Z ?_
  obtain ⟨o29,h1,hL0,hR0⟩:=dk h0
  refine kX (λ v30:Int×Bytes×aa=>o29=.inl v30) (λ v30=>⟨[(4,.ptr 4 0),(6,.ptr 6 0)],[(4,ig),(6,[.p (eI v30.1),.p (eS v30.2.1),.p (eI x_0.fat)]),(1000000,(aa.cs v30.2.2).map .p)]⟩) (λ v30 hv=>?_) ?_
  ·have h0:=hL0 _ hv
   exact nx 8 Z (mQo (oi h0) (ax _) Z Z Z (av Z (aw _) Z) (aM ⟨sr,sr,trivial⟩) ⟨⟨_,Z,aF _⟩,trivial⟩)
  refine nx 6 Z (fD [48,49] h1 Z (λ c3 h1=>?_) λ c3 h1=>?_)
  ·refine nx 4 Z (bd h1 λ r4 e5 h1=>?_)
   refine mO Z (bB [1000000] [] 101000 101000 (jC _ x_0 2 3 _ e5) Z Z Z Z Z ⟨sr,sr,sr,trivial⟩ Z (av Z (aw _) Z) ⟨⟨_,Z,aF _⟩,trivial⟩ Z Z Z Z Z Z Z Z Tryz.call87 Z (av Z (aw _) Z) ?_)
   refine nx 9 Z (oLs Z ?_)
   refine nx 2 Z (fD [57] h1 Z (λ c6 h1=>?_) λ c6 h1=>?_)
   ·refine nx 2 Z (bd h1 λ r7 e8 h1=>?_)
    refine mG (gE (t:=⟨[(0,.ptr 1000000 0),(4,.ptr 4 0),(6,.ptr 6 0)],[(4,ig),(6,[.p (eI 1),.p (eS r4.1),.p (eI x_0.fat)]),(1000000,(aa.cs r4.2).map .p)]⟩) Z Z) (mSq ⟨2,[4,5],(by3 (.some (da [] 102000 102000)) .none .none),(λ _=>[(0,.ptr 1000000 0),(4,.ptr 4 0),(6,.ptr 6 0)]),(by3 ([(4,ig),(6,[.p (eI 1),.p (eS r4.1),.p (eI x_0.fat)]),(1000000,(aa.cs r4.2).map .p)]) ([(1000000,(aa.cs r7.2).map .p),(4,ig),(6,[.p (eI 1),.p (eS r4.1),.p (eI x_0.fat)])]) ([(4,[.p (eI 1),.p (eS r4.1),.p (eI x_0.fat)]),(1000000,(aa.cs r7.2).map .p),(4,ig),(6,[.p (eI 1),.p (eS r4.1),.p (eI x_0.fat)])]))⟩ Z ?_)
    refine dPc (.p (.agg [eI 1,eS r4.1,eI x_0.fat])) Z (dPc (.ptr 1000000 0) Z ?_)
    refine dPc (.ptr 6 2) Z (dPc (.p (eI x_0.fat)) Z ?_)
    refine eC (λ _=>.p (eB r7.1)) [(59,_),(61,_)] Z ⟨.inr ⟨1,_,Z,Z,Z⟩,.inr ⟨3,_,Z,Z,Z⟩,trivial⟩ Z Z (gx Z Y) (lt2 (λ h=>absurd h (by decide)) Y) (λ sl hsl K hK=>am Z (bB [1000000] [] 102000 102000 (dF r4.2 7 x_0.fat _ e8) Z Z Z (aE (hsl _ _ Z) (aE Z (aE (hsl _ _ Z) bK))) Z ⟨sr,sr,sr,trivial⟩ Z (av Z (aw _) Z) ⟨⟨_,Z,aF _⟩,trivial⟩ Z Z Z Z Z Z Z Z Tryz.call88 Z (av Z (aw _) Z) hK)) (dS Z ?_)
    refine dPc (.p (eB r7.1)) Z (dJ ?_)
    exact nx 2 Z (mQo (hR0 _ (oi h1).symm) (ax _) Z Z Z (av Z (aw _) Z) (aM ⟨sr,sr,trivial⟩) ⟨⟨_,Z,aF _⟩,trivial⟩)
   exact nx 2 Z (eX _ (oi h1).symm (gE Z Z))
  refine nx 6 Z (fD [63,64] h1 Z (λ c9 h1=>?_) λ c9 h1=>?_)
  ·refine nx 3 Z (bd h1 λ r10 e11 h1=>?_)
   refine mO Z (bB [1000000] [] 103000 103000 (jC _ x_0 3 3 _ e11) Z Z Z Z Z ⟨sr,sr,sr,trivial⟩ Z (av Z (aw _) Z) ⟨⟨_,Z,aF _⟩,trivial⟩ Z Z Z Z Z Z Z Z Tryz.call87 Z (av Z (aw _) Z) ?_)
   exact nx 5 Z (eX _ (oi h1).symm (gE Z Z))
  refine nx 6 Z (fD [69,70] h1 Z (λ c12 h1=>?_) λ c12 h1=>?_)
  ·refine nx 12 Z (mO Z (a6 Z Z Z Z Z Z Z (aa.g_at _) ?_))
   refine oA h1 Z Z λ hk13 h1=>nx 2 Z (mO Z (ek Z Z Z Z Z Z Z Z (aa.b_at _) (aa.u_at _) ?_))
   exact nx 1 Z (eX _ (oi h1).symm (gE Z Z))
  refine nx 6 Z (fD [80,81] h1 Z (λ c14 h1=>?_) λ c14 h1=>?_)
  ·refine nx 11 Z (bd h1 λ r15 e16 h1=>?_)
   refine mO Z (bB [1000000] [] 104000 104000 (ih_token_scanner_source_ok x_0 depth_1 _ e16) Z Z Z Z Z ⟨sr,sr,trivial⟩ Z (av Z (aw _) Z) ⟨⟨_,Z,aF _⟩,trivial⟩ Z Z Z Z Z Z Z Z Tryz.call89 Z (av Z (aw _) Z) ?_)
   refine nx 2 Z (mG (gE (t:=⟨[(0,.ptr 1000000 0),(4,.ptr 4 0),(6,.ptr 6 0),(86,.p (eB (!r15.1)))],[(4,ig),(6,[.p (eI 3),.p (eS ([]:Bytes)),.p (eI x_0.fat)]),(1000000,(aa.cs r15.2).map .p)]⟩) Z Z) ?_)
   refine fB [86] h1 Z (λ c17 h1=>?_) λ c17 h1=>?_
   ·exact nx 8 Z (mQo (hR0 _ (oi h1).symm) (ax _) Z Z Z (av Z (aw _) Z) (aM ⟨sr,sr,trivial⟩) ⟨⟨_,Z,aF _⟩,trivial⟩)
   refine nx 2 Z (cc' h1 λ hk18 h1=>?_)
   refine cc' h1 λ hk19 h1=>cc' h1 λ hk20 h1=>mG (gE (t:=⟨[(0,.ptr 1000000 0),(4,.ptr 4 0),(6,.ptr 6 0)],[(4,ig),(6,[.p (eI 3),.p (eS ([]:Bytes)),.p (eI x_0.fat)]),(1000000,(aa.cs r15.2).map .p)]⟩) Z Z) (mSq ⟨1,[14],(λ _=>.none),(λ _=>[(0,.ptr 1000000 0),(4,.ptr 4 0),(6,.ptr 6 0)]),(ob2 ([(4,ig),(6,[.p (eI 3),.p (eS ([]:Bytes)),.p (eI x_0.fat)]),(1000000,(aa.cs r15.2).map .p)]) (6,[.p (eI 3),.p (eS (sub r15.2.fs (x_0.fat+1) (r15.2.fat - 1))),.p (eI x_0.fat)]))⟩ Z ?_)
   refine dPc (.ptr 1000000 0) Z (dPc (.ptr 1000000 0) Z ?_)
   refine dPc (.ptr 1000000 0) Z (dPc (.p (eS r15.2.fs)) Z ?_)
   refine dPc (.ptr 6 2) Z (dPc (.p (eI x_0.fat)) Z ?_)
   refine aN (λ _=>.p (eI (x_0.fat+1))) Z Z Z (gx Z Y) (lt1 Z) (az Z (ay [(93,_)] ⟨.inr ⟨5,_,Z,Z,Z⟩,trivial⟩ (λ sl hsl K hK=>am Z (eN Z Z Z (hsl _ _ Z) Z Z hk18 hK)) aO)) (dPc (.ptr 1000000 0) Z ?_)
   refine dPc (.ptr 1000000 0) Z (dPc (.ptr 1000000 1) Z ?_)
   refine dPc (.p (eI r15.2.fat)) Z (aN (λ _=>.p (eI (r15.2.fat - 1))) Z Z Z (gx Z Y) (lt1 Z) (az Z (ay [(98,_)] ⟨.inr ⟨10,_,Z,Z,Z⟩,trivial⟩ (λ sl hsl K hK=>am Z (eN Z Z Z (hsl _ _ Z) Z Z hk19 hK)) aO)) ?_)
   refine aN (λ _=>.p (eS (sub r15.2.fs (x_0.fat+1) (r15.2.fat - 1)))) Z Z Z (gx Z Y) (lt1 Z) (az Z (ay [(91,_),(94,_),(99,_)] ⟨.inr ⟨3,_,Z,Z,Z⟩,.inr ⟨6,_,Z,Z,Z⟩,.inr ⟨11,_,Z,Z,Z⟩,trivial⟩ (λ sl hsl K hK=>am Z (dD (a:=r15.2.fs) (l:=x_0.fat+1) (h:=r15.2.fat - 1) Z Z Z Z Z (hsl _ _ Z) (fO (hsl _ _ Z)) (jU (hsl _ _ Z)) hk20 hK)) aO)) (dPc (.ptr 6 1) Z ?_)
   refine dS Z (dJ ?_)
   exact nx 1 Z (eX _ (oi h1).symm (gE Z Z))
  refine nx 2 Z (cc' h1 λ hk21 h1=>?_)
  refine bd h1 λ r22 e23 h1=>mG (gE (t:=⟨[(0,.ptr 1000000 0),(4,.ptr 4 0),(6,.ptr 6 0)],[(4,ig),(6,[.p (eI 0),.p (eS ([]:Bytes)),.p (eI x_0.fat)]),(1000000,(aa.cs x_0).map .p)]⟩) Z Z) (mSq ⟨2,[11,13],(λ _=>.none),(λ _=>[(0,.ptr 1000000 0),(4,.ptr 4 0),(6,.ptr 6 0)]),(ob3 ([(4,ig),(6,[.p (eI 0),.p (eS ([]:Bytes)),.p (eI x_0.fat)]),(1000000,(aa.cs x_0).map .p)]) (6,[.p (eI 4),.p (eS ([]:Bytes)),.p (eI x_0.fat)]) (6,[.p (eI 4),.p (eS r22),.p (eI x_0.fat)]))⟩ Z ?_)
  refine dPc (.ptr 1000000 0) Z (dPc (.ptr 1000000 0) Z ?_)
  refine dPc (.ptr 1000000 0) Z (dPc (.p (eS x_0.fs)) Z ?_)
  refine dPc (.ptr 1000000 0) Z (dPc (.ptr 1000000 0) Z ?_)
  refine dPc (.ptr 1000000 1) Z (dPc (.p (eI x_0.fat)) Z ?_)
  refine aN (λ _=>.p (eS (sub x_0.fs x_0.fat (x_0.fs.length:Int)))) Z Z Z (jz Z Z Y) (lt2 Z Z) (az Z (ay [(29,_),(33,_)] ⟨.inr ⟨3,_,Z,Z,Z⟩,.inr ⟨7,_,Z,Z,Z⟩,trivial⟩ (λ sl hsl K hK=>am Z (dD (a:=x_0.fs) (l:=x_0.fat) (h:=(x_0.fs.length:Int)) Z Z Z Z Z (hsl _ _ Z) (fO (hsl _ _ Z)) Z hk21 hK)) (ay [(29,_),(33,_)] ⟨.inr ⟨3,_,Z,Z,Z⟩,.inr ⟨7,_,Z,Z,Z⟩,trivial⟩ (λ sl hsl K hK=>am Z (dD (a:=x_0.fs) (l:=x_0.fat) (h:=(x_0.fs.length:Int)) Z Z Z Z Z (hsl _ _ Z) (fO (hsl _ _ Z)) Z hk21 hK)) aO))) (aN (λ _=>.p (eS r22)) Z Z Z (jz Z Z Y) (lt2 Z Z) (az Z (az Z (ay [(34,_)] ⟨.inr ⟨8,_,Z,Z,Z⟩,trivial⟩ (λ sl hsl K hK=>am Z (cG (mh _ (sub x_0.fs x_0.fat (x_0.fs.length:Int)) _ e23) Z Z Z (aE (hsl _ _ Z) bK) ⟨sr,trivial⟩ Tryz.call86 Z hK)) aO))) ?_)
  refine dPc (.ptr 6 0) Z (iJ [(36,_)] Z ⟨.inr ⟨10,_,Z,Z,Z⟩,trivial⟩ Z (λ sl hsl K hK=>am Z (kb Z Z Z (hsl _ _ Z) Z Z Z Z (Nat.le_of_ble_eq_true Z) hK)) ?_)
  refine dPc (.ptr 6 1) Z (dS Z ?_)
  refine dJ (nx 1 Z ?_)
  refine cc' h1 λ hk24 h1=>mG (gE (t:=⟨[(0,.ptr 1000000 0),(4,.ptr 4 0),(6,.ptr 6 0)],[(4,ig),(6,[.p (eI 4),.p (eS r22),.p (eI x_0.fat)]),(1000000,(aa.cs x_0).map .p)]⟩) Z Z) (mSq ⟨1,[10],(λ _=>.none),(λ _=>[(0,.ptr 1000000 0),(4,.ptr 4 0),(6,.ptr 6 0)]),(ob2 ([(4,ig),(6,[.p (eI 4),.p (eS r22),.p (eI x_0.fat)]),(1000000,(aa.cs x_0).map .p)]) (1000000,(aa.cs (aa.mk x_0.fs (x_0.fat+(r22.length:Int)) x_0.fouter x_0.fbad)).map .p))⟩ Z ?_)
  refine dPc (.ptr 1000000 0) Z (dPc (.ptr 1000000 0) Z ?_)
  refine dPc (.ptr 1000000 1) Z (dPc (.p (eI x_0.fat)) Z ?_)
  refine dPc (.ptr 6 1) Z (dPc (.p (eS r22)) Z ?_)
  refine aN (λ _=>.p (eI (r22.length:Int))) Z Z Z (gx Z Y) (lt1 Z) (az Z (ay [(43,_)] ⟨.inr ⟨5,_,Z,Z,Z⟩,trivial⟩ (λ sl hsl K hK=>am Z (lS Z Z Z Z Z (hsl _ _ Z) hK)) aO)) (aN (λ _=>.p (eI (x_0.fat+(r22.length:Int)))) Z Z Z (gx Z Y) (lt1 Z) (az Z (ay [(41,_),(44,_)] ⟨.inr ⟨3,_,Z,Z,Z⟩,.inr ⟨6,_,Z,Z,Z⟩,trivial⟩ (λ sl hsl K hK=>am Z (eN Z Z Z (hsl _ _ Z) (hsl _ _ Z) Z hk24 hK)) aO)) ?_)
  refine dPc (.ptr 1000000 0) Z (dPc (.ptr 1000000 1) Z ?_)
  refine iJ [(45,_),(47,_)] Z ⟨.inr ⟨7,_,Z,Z,Z⟩,.inr ⟨9,_,Z,Z,Z⟩,trivial⟩ Z (λ sl hsl K hK=>am Z (ek Z Z Z (hsl _ _ Z) (hsl _ _ Z) Z Z Z (aa.b_at _) (aa.u_at _) hK)) (dJ ?_)
  exact nx 1 Z (eX _ (oi h1).symm (gE Z Z))
 ·skip
  intro x_0 depth_1 r h0
  rw [bY] at h0
  refine Bf good (t:=4) [1000000,1000001] Z Z λ w0 F=>mPo (λ v:Bool×aa=>.p (eB v.1)) (λ v=>[(1000000,(aa.cs v.2).map .p),(1000001,[.ptr 1000000 0])]) ?_
  refine nx 5 Z (mO Z (a6 Z Z Z Z Z Z Z (aa.g_at _) ?_))
  refine oA h0 Z Z λ hk1 h0=>nx 2 Z (mO Z (ek Z Z Z Z Z Z Z Z (aa.b_at _) (aa.u_at _) ?_))
  refine nx 3 Z ?_
  obtain ⟨o71,h1,hL0,hR0⟩:=dk h0
  refine kEx 0 (λ v72:aa=>o71=.inl v72) (λ v72=>⟨[(2,.ptr 1000001 0)],[(1000000,(aa.cs v72).map .p),(1000001,[.ptr 1000000 0])]⟩) (λ v72 hv=>?_) ?_
  ·have h0:=hL0 _ hv
   refine nx 2 Z (bd h0 λ r66 e67 h0=>?_)
   refine mG (gE (t:=⟨[(2,.ptr 1000001 0)],[(1000000,(aa.cs v72).map .p),(1000001,[.ptr 1000000 0])]⟩) Z Z) (mSq ⟨1,[5],(by2 (.some (da [] 111000 111000)) .none),(λ _=>[(2,.ptr 1000001 0)]),(by2 ([(1000000,(aa.cs v72).map .p),(1000001,[.ptr 1000000 0])]) ([(1000000,(aa.cs r66.2).map .p),(1000001,[.ptr 1000000 0])]))⟩ Z ?_)
   refine dPc (.ptr 1000000 0) Z (dPc (.ptr 1000000 0) Z ?_)
   refine dPc (.ptr 1000000 0) Z (dPc (.ptr 1000000 258) Z ?_)
   refine dPc (.p (eI v72.fouter)) Z (eC (λ _=>.p (eB r66.1)) [(87,_),(91,_)] Z ⟨.inr ⟨0,_,Z,Z,Z⟩,.inr ⟨4,_,Z,Z,Z⟩,trivial⟩ Z Z Y (lt1 (λ h=>absurd h (by decide))) (λ sl hsl K hK=>am Z (bB [1000000] [] 111000 111000 (dF v72 40 v72.fouter _ e67) Z Z Z (aE (hsl _ _ Z) (aE Z (aE (hsl _ _ Z) bK))) Z ⟨sr,sr,sr,trivial⟩ Z (av Z (aw _) Z) ⟨⟨_,Z,aF _⟩,trivial⟩ Z Z Z Z Z Z Z Z Tryz.call88 Z (av Z (aw _) Z) hK)) ?_)
   refine dPc (.p (eB r66.1)) Z (dJ ?_)
   exact nx 2 Z (mQo (oi h0) (ax _) Z Z Z (av Z (aw _) (av Z Z Z)) (sr) ⟨⟨_,Z,aF _⟩,⟨_,Z,⟨sr,trivial⟩⟩,trivial⟩)
  refine lG (λ (q73:aa)=>⟨[(1,.p (eI depth_1)),(2,.ptr 1000001 0)],[(1000000,(aa.cs q73).map .p),(1000001,[.ptr 1000000 0])]⟩) (λ m (q73:aa)=>aI (aC n) depth_1 m q73) Y (aa.mk x_0.fs (x_0.fat+1) x_0.fouter x_0.fbad) h1 (gE Z Z) ?_
  rintro m x33 h1
  replace h1:aI (aC n) depth_1 (m+1) x33=some o71:=h1
  rw [aI] at h1
  refine nx 4 Z (bd h1 λ r34 e35 h1=>?_)
  refine mO Z (bB [1000000] [] 106000 106000 (cm x33 _ e35) Z Z Z Z Z ⟨sr,trivial⟩ Z (av Z (aw _) Z) ⟨⟨_,Z,aF _⟩,trivial⟩ Z Z Z Z Z Z Z Z Tryz.call53 Z (av Z (aw _) Z) ?_)
  refine nx 1 Z (fB [27] h1 Z (λ c36 h1=>?_) λ c36 h1=>?_)
  ·refine nx 4 Z (cc' h1 λ hk37 h1=>?_)
   refine mD [(1,.p (eI depth_1)),(2,.ptr 1000001 0)] Z ⟨Z,Z,trivial⟩ Z (dR 3 Z ?_)
   refine dq (.p (eS r34.2.fs)) [30] Z (λ _ e _ q=>am Z (a6 Z Z Z Z Z (e _ _ Z) Z (aa.g_s _) q)) Z (dR 3 Z ?_)
   refine dq (.p (eI r34.2.fat)) [34] Z (λ _ e _ q=>am Z (a6 Z Z Z Z Z (e _ _ Z) Z (aa.g_at _) q)) Z (dq (.p (eS (sub r34.2.fs r34.2.fat (r34.2.fs.length:Int)))) [31,35] Z (λ _ e _ q=>am Z (dD (a:=r34.2.fs) (l:=r34.2.fat) (h:=(r34.2.fs.length:Int)) Z Z Z Z Z (e _ _ Z) (fO (e _ _ Z)) Z hk37 q)) Z ?_)
   refine dR 1 Z (dE Z ?_)
   refine nx 1 Z ?_
   obtain ⟨o74,h2,hL1,hR1⟩:=dk h1
   refine kX (λ v75:aa=>o74=.inl v75) (λ v75=>⟨[(1,.p (eI depth_1)),(2,.ptr 1000001 0)],[(1000000,(aa.cs v75).map .p),(1000001,[.ptr 1000000 0])]⟩) (λ v75 hv=>?_) ?_
   ·have h1:=hL1 _ hv
    exact nx 1 Z (eX v75 h1 (gE Z Z))
   refine nx 4 Z (oI h2 Z λ hk38 h2=>?_)
   refine nx 3 Z (fD [59,62] h2 Z (λ c39 h2=>?_) λ c39 h2=>?_)
   ·refine nx 6 Z (mO Z (a6 Z Z Z Z Z Z Z (aa.g_at _) ?_))
    refine oA h2 Z Z λ hk40 h2=>nx 2 Z (mO Z (ek Z Z Z Z Z Z Z Z (aa.b_at _) (aa.u_at _) ?_))
    exact nx 6 Z (mQo (hR0 _ (hR1 _ (oi h2).symm).symm) (ax _) Z Z Z (av Z (aw _) (av Z Z Z)) (sr) ⟨⟨_,Z,aF _⟩,⟨_,Z,⟨sr,trivial⟩⟩,trivial⟩)
   refine nx 4 Z (bd h2 λ r41 e42 h2=>?_)
   refine oK (cM (sub r34.2.fs r34.2.fat (r34.2.fs.length:Int)) ([36,36,123]:Bytes) _ e42) Z ⟨sr,sr,trivial⟩ Tryz.call75 Z (nx 2 Z ?_)
   refine fB [70,72] h2 Z (λ c43 h2=>?_) λ c43 h2=>?_
   ·refine nx 5 Z (mO Z (a6 Z Z Z Z Z Z Z (aa.g_at _) ?_))
    refine oA h2 Z Z λ hk44 h2=>nx 2 Z (mO Z (ek Z Z Z Z Z Z Z Z (aa.b_at _) (aa.u_at _) ?_))
    exact nx 1 Z (eX _ (oi h2).symm (gE Z Z))
   refine nx 4 Z (bd h2 λ r45 e46 h2=>?_)
   refine oK (cM (sub r34.2.fs r34.2.fat (r34.2.fs.length:Int)) ([36,123]:Bytes) _ e46) Z ⟨sr,sr,trivial⟩ Tryz.call75 Z (nx 2 Z ?_)
   refine fB [80,82] h2 Z (λ c47 h2=>?_) λ c47 h2=>?_
   ·refine nx 5 Z (bd h2 λ r48 e49 h2=>?_)
    refine mO Z (bB [1000000] [] 107000 107000 (ih_token_scanner_interpolation_ok r34.2 depth_1 _ e49) Z Z Z Z Z ⟨sr,sr,trivial⟩ Z (av Z (aw _) Z) ⟨⟨_,Z,aF _⟩,trivial⟩ Z Z Z Z Z Z Z Z Tryz.call133 Z (av Z (aw _) Z) ?_)
    refine nx 2 Z (fB [86] h2 Z (λ c50 h2=>?_) λ c50 h2=>?_)
    ·refine nx 5 Z (mG (gE (t:=⟨[(4,.p (eB false))],[(1000000,(aa.cs r48.2).map .p),(1000001,[.ptr 1000000 0])]⟩) Z Z) ?_)
     exact nx 1 Z (mQo (hR0 _ (hR1 _ (oi h2).symm).symm) (ax _) Z Z Z (av Z (aw _) (av Z Z Z)) (sr) ⟨⟨_,Z,aF _⟩,⟨_,Z,⟨sr,trivial⟩⟩,trivial⟩)
    exact nx 2 Z (eX _ (oi h2).symm (gE Z Z))
   refine nx 2 Z (bd h2 λ o76 h3 h2=>?_)
   refine kN o76 (λ v77=>⟨[(1,.p (eI depth_1)),(2,.ptr 1000001 0)],[(1000000,(aa.cs v77).map .p),(1000001,[.ptr 1000000 0])]⟩) ?_ ?_
   ·refine nx 5 Z (bd h2 λ r55 e56 h2=>?_)
    refine mO Z (bB [1000000] [] 108000 108000 (cm o76 _ e56) Z Z Z Z Z ⟨sr,trivial⟩ Z (av Z (aw _) Z) ⟨⟨_,Z,aF _⟩,trivial⟩ Z Z Z Z Z Z Z Z Tryz.call53 Z (av Z (aw _) Z) ?_)
    refine nx 2 Z (fB [49] h2 Z (λ c57 h2=>?_) λ c57 h2=>?_)
    ·exact nx 2 Z (eX _ (oi h2).symm (gE Z Z))
    refine nx 5 Z (bd h2 λ r58 e59 h2=>?_)
    refine mO Z (bB [1000000] [] 109000 109000 (j4 r55.2 _ e59) Z Z Z Z Z ⟨sr,trivial⟩ Z (av Z (aw _) Z) ⟨⟨_,Z,aF _⟩,trivial⟩ Z Z Z Z Z Z Z Z Tryz.call134 Z (av Z (aw _) Z) ?_)
    refine nx 2 Z (fB [52] h2 Z (λ c60 h2=>?_) λ c60 h2=>?_)
    ·refine nx 2 Z (bd h2 λ r61 e62 h2=>?_)
     refine mG (gE (t:=⟨[(2,.ptr 1000001 0)],[(1000000,(aa.cs r58.2).map .p),(1000001,[.ptr 1000000 0])]⟩) Z Z) (mSq ⟨1,[5],(by2 (.some (da [] 110000 110000)) .none),(λ _=>[(2,.ptr 1000001 0)]),(by2 ([(1000000,(aa.cs r58.2).map .p),(1000001,[.ptr 1000000 0])]) ([(1000000,(aa.cs r61.2).map .p),(1000001,[.ptr 1000000 0])]))⟩ Z ?_)
     refine dPc (.ptr 1000000 0) Z (dPc (.ptr 1000000 0) Z ?_)
     refine dPc (.ptr 1000000 0) Z (dPc (.ptr 1000000 1) Z ?_)
     refine dPc (.p (eI r58.2.fat)) Z (eC (λ _=>.p (eB r61.1)) [(53,_),(57,_)] Z ⟨.inr ⟨0,_,Z,Z,Z⟩,.inr ⟨4,_,Z,Z,Z⟩,trivial⟩ Z Z Y (lt1 (λ h=>absurd h (by decide))) (λ sl hsl K hK=>am Z (bB [1000000] [] 110000 110000 (dF r58.2 2 r58.2.fat _ e62) Z Z Z (aE (hsl _ _ Z) (aE Z (aE (hsl _ _ Z) bK))) Z ⟨sr,sr,sr,trivial⟩ Z (av Z (aw _) Z) ⟨⟨_,Z,aF _⟩,trivial⟩ Z Z Z Z Z Z Z Z Tryz.call88 Z (av Z (aw _) Z) hK)) ?_)
     refine dPc (.p (eB r61.1)) Z (dJ ?_)
     exact nx 2 Z (mQo (hR0 _ (hR1 _ (oi h2).symm).symm) (ax _) Z Z Z (av Z (aw _) (av Z Z Z)) (sr) ⟨⟨_,Z,aF _⟩,⟨_,Z,⟨sr,trivial⟩⟩,trivial⟩)
    exact nx 2 Z (eX _ (oi h2).symm (gE Z Z))
   refine nx 3 Z (oI h3 Z λ hk51 h3=>?_)
   refine nx 2 Z (fD [39] h3 Z (λ c52 h3=>?_) λ c52 h3=>?_)
   ·refine nx 5 Z (mO Z (a6 Z Z Z Z Z Z Z (aa.g_at _) ?_))
    refine oA h3 Z Z λ hk53 h3=>nx 2 Z (mO Z (ek Z Z Z Z Z Z Z Z (aa.b_at _) (aa.u_at _) ?_))
    exact nx 1 Z (eX _ (oi h3).symm (gE Z Z))
   exact nx 2 Z (eX _ (oi h3).symm (gE Z Z))
  exact nx 2 Z (eXi _ (oi h1).symm (gE Z Z))
 ·skip
  intro x_0 depth_1 r h0
  rw [bR] at h0
  refine Cv good (k:=132) (j:=2) (q:=18) (b:=decide (x_0.fouter < 0)) (s0:=⟨[(1,.p (eI depth_1)),(2,.ptr 2 0)],[(2,[.ptr 1000000 0]),(1000000,(aa.cs x_0).map .p)]⟩) (s1:=⟨[(1,.p (eI depth_1)),(2,.ptr 2 0),(10,.p (eB (decide (x_0.fouter < 0))))],[(2,[.ptr 1000000 0]),(1000000,(aa.cs x_0).map .p)]⟩) (s2:=⟨[(1,.p (eI depth_1)),(2,.ptr 2 0)],[(2,[.ptr 1000000 0]),(1000000,(aa.cs (aa.mk x_0.fs x_0.fat x_0.fat x_0.fbad)).map .p)]⟩) [1000000] Tryz.func89 Z Z Z (λ w0 F=>mR ?_) (λ w0 F=>mR ?_) Z (λ hb=>?_) (λ hb=>?_)
  refine nx 1 Z (mO Z (xd Z Z Z Z Z ?_))
  refine mG (lm (show jQ _ _=_ from (by repeat (first | exact iZ _ | apply il Z | apply d4 Z (kP _ _) | apply d4 Z Z)))) (nx 3 Z ?_)
  exact mE (gE Z Z)
  refine nx 4 Z (mO Z (a6 Z Z Z Z Z Z Z (aa.g_outer _) ?_))
  exact nx 3 Z (mE (gE Z Z))
  rw [if_neg (of_decide_eq_false hb)] at h0
  refine ⟨⟨[(1,.p (eI depth_1)),(2,.ptr 2 0),(10,.p (eB (decide (x_0.fouter < 0))))],[(1000000,(aa.cs r.2).map .p),(2,[.ptr 1000000 0])]⟩,_,_,Z,(av Z (aw _) Z),⟨⟨_,Z,aF _⟩,trivial⟩,λ w0 F g a a2 w hs ht=>?_⟩
  exact Bz (C:=⟨Tryz.prog,tt,good,_,Z,w0,F⟩) (sl:=[(1,.p (eI depth_1)),(2,.ptr 2 0),(10,.p (eB (decide (x_0.fouter < 0))))]) (ob:=[(2,[.ptr 1000000 0]),(1000000,(aa.cs x_0).map .p)]) [1000000,2] [] 100000 100000 [1,2] Z (ih_token_scanner_source_b_ok x_0 depth_1 _ h0) Z Z Z (av Z (aw _) Z) ⟨⟨_,Z,aF _⟩,⟨_,Z,⟨sr,trivial⟩⟩,trivial⟩ Z Z Z Z Z Z Z Z Z (av Z (aw _) Z) hs ht
  rw [if_pos (of_decide_eq_true hb)] at h0
  refine bd h0 λ r1 e1 h0=>?_
  cases h0
  refine ⟨λ w0 F=>mR ?_,⟨Z,Z,Z,Z,Z,Z,Z,Z⟩,Tryz.call132,⟨[(18,.func (.func 132) [.ptr 2 0]),(1,.p (eI depth_1)),(2,.ptr 2 0)],[(1000000,(aa.cs r1.2).map .p),(2,[.ptr 1000000 0])]⟩,⟨[(18,.func (.func 132) [.ptr 2 0]),(1,.p (eI depth_1)),(2,.ptr 2 0)],[(2,[.ptr 1000000 0]),(1000000,(aa.cs (aa.mk r1.2.fs r1.2.fat (-1) r1.2.fbad)).map .p)]⟩,_,_,.ptr 2 0,Z,Z,(av Z (aw _) Z),⟨⟨_,Z,aF _⟩,trivial⟩,λ w0 F g a a2 w hs ht=>?_,λ w0 F g a w u hs=>?_⟩
  ·refine mG (gE (t:=⟨[(1,.p (eI depth_1)),(2,.ptr 2 0)],[(2,[.ptr 1000000 0]),(1000000,(aa.cs x_0).map .p)]⟩) Z Z) (mSq ⟨1,[7],(λ _=>.none),(λ _=>[(1,.p (eI depth_1)),(2,.ptr 2 0)]),(ob2 ([(2,[.ptr 1000000 0]),(1000000,(aa.cs x_0).map .p)]) (1000000,(aa.cs (aa.mk x_0.fs x_0.fat x_0.fat x_0.fbad)).map .p))⟩ Z ?_)
   refine dPc (.ptr 1000000 0) Z (dPc (.ptr 1000000 0) Z ?_)
   refine dPc (.ptr 1000000 0) Z (dPc (.ptr 1000000 1) Z ?_)
   refine dPc (.p (eI x_0.fat)) Z (dPc (.ptr 1000000 0) Z ?_)
   refine dPc (.ptr 1000000 258) Z (iJ [(15,_),(17,_)] Z ⟨.inr ⟨4,_,Z,Z,Z⟩,.inr ⟨6,_,Z,Z,Z⟩,trivial⟩ Z (λ sl hsl K hK=>am Z (ek Z Z Z (hsl _ _ Z) (hsl _ _ Z) Z Z Z (aa.b_outer _) (aa.u_outer _) hK)) ?_)
   refine dJ (nx 2 Z ?_)
   exact mE (gE Z Z)
  ·exact Bz (C:=⟨Tryz.prog,tt,good,_,Z,w0,F⟩) (sl:=[(18,.func (.func 132) [.ptr 2 0]),(1,.p (eI depth_1)),(2,.ptr 2 0)]) (ob:=[(2,[.ptr 1000000 0]),(1000000,(aa.cs (aa.mk x_0.fs x_0.fat x_0.fat x_0.fbad)).map .p)]) [1000000,2] [] 100000 100000 [1,2] Z (ih_token_scanner_source_b_ok (aa.mk x_0.fs x_0.fat x_0.fat x_0.fbad) depth_1 _ e1) Z Z Z (av Z (aw _) Z) ⟨⟨_,Z,aF _⟩,⟨_,Z,⟨sr,trivial⟩⟩,trivial⟩ Z Z Z Z Z Z Z Z Z (av Z (aw _) Z) hs ht
  exact Eo (C:=⟨Tryz.prog,tt,good,_,Z,w0,F⟩) (sl:=[(18,.func (.func 132) [.ptr 2 0]),(1,.p (eI depth_1)),(2,.ptr 2 0)]) (ob:=[(1000000,(aa.cs r1.2).map .p),(2,[.ptr 1000000 0])]) [2,1000000] [] 100000 100000 2 (ky r1.2) Z Z Z (av Z Z (av Z (aw _) Z)) ⟨⟨_,Z,⟨sr,trivial⟩⟩,⟨_,Z,aF _⟩,trivial⟩ Z Z Z Z Z Z Z Z Z (av Z Z (av Z (aw _) Z)) hs
 ·skip
  intro x_0 depth_1 r h0
  rw [aC] at h0
  refine cw good [] [1000000] Tryz.func133 Z Z Z Z Z λ w0 F=>mPo (λ v:Bool×aa=>.p (eB v.1)) (λ v=>[(1000000,(aa.cs v.2).map .p)]) ?_
  refine nx 10 Z (fD [9] h0 Z (λ c1 h0=>?_) λ c1 h0=>?_)
  ·refine nx 7 Z (mO Z (a6 Z Z Z Z Z Z Z (aa.g_at _) ?_))
   refine bd h0 λ r2 e3 h0=>mO Z (bB [1000000] [] 101000 101000 (dF x_0 4 x_0.fat _ e3) Z Z Z Z Z ⟨sr,sr,sr,trivial⟩ Z (av Z (aw _) Z) ⟨⟨_,Z,aF _⟩,trivial⟩ Z Z Z Z Z Z Z Z Tryz.call88 Z (av Z (aw _) Z) ?_)
   exact nx 3 Z (mQo (oi h0) (ax _) Z Z Z (av Z (aw _) Z) (sr) ⟨⟨_,Z,aF _⟩,trivial⟩)
  refine nx 7 Z (mO Z (a6 Z Z Z Z Z Z Z (aa.g_at _) ?_))
  refine oA h0 Z Z λ hk4 h0=>nx 2 Z (mO Z (ek Z Z Z Z Z Z Z Z (aa.b_at _) (aa.u_at _) ?_))
  refine nx 7 Z ?_
  obtain ⟨o73,h1,hL0,hR0⟩:=dk h0
  refine kEx 0 (λ v74:aa=>o73=.inl v74) (λ v74=>⟨[],[(1000000,(aa.cs v74).map .p)]⟩) (λ v74 hv=>?_) ?_
  ·have h0:=hL0 _ hv
   exact nx 6 Z (mQo (oi h0) (ax _) Z Z Z (av Z (aw _) Z) (sr) ⟨⟨_,Z,aF _⟩,trivial⟩)
  refine lG (λ (q75:Int×aa)=>⟨[(0,.ptr 1000000 0),(1,.p (eI depth_1)),(5,.p (eI q75.1))],[(1000000,(aa.cs q75.2).map .p)]⟩) (λ m (q75:Int×aa)=>aD n (aQ n) depth_1 m q75.1 q75.2) Y (1,(aa.mk x_0.fs (x_0.fat+2) x_0.fouter x_0.fbad)) h1 (gE Z Z) ?_
  rintro m ⟨open35,x36⟩ h1
  replace h1:aD n (aQ n) depth_1 (m+1) open35 x36=some o73:=h1
  rw [aD] at h1
  refine nx 6 Z (fD [24] h1 Z (λ c37 h1=>?_) λ c37 h1=>?_)
  ·refine nx 2 Z ?_
   obtain ⟨o76,h2,hL1,hR1⟩:=dk h1
   refine kX (λ v77:Int×aa=>o76=.inl v77) (λ v77=>⟨[(0,.ptr 1000000 0),(1,.p (eI depth_1)),(5,.p (eI v77.1))],[(1000000,(aa.cs v77.2).map .p)]⟩) (λ v77 hv=>?_) ?_
   ·have h1:=hL1 _ hv
    exact nx 1 Z (eX (v77.1,v77.2) h1 (gE Z Z))
   refine nx 4 Z (bd h2 λ r38 e39 h2=>?_)
   refine mO Z (bB [1000000] [] 108000 108000 (iY _ x36 _ e39) Z Z Z Z Z ⟨sr,trivial⟩ Z (av Z (aw _) Z) ⟨⟨_,Z,aF _⟩,trivial⟩ Z Z Z Z Z Z Z Z Tryz.call52 Z (av Z (aw _) Z) ?_)
   refine nx 5 Z (bd h2 λ r40 e41 h2=>?_)
   refine mO Z (bB [1000000] [] 109000 109000 (cm r38 _ e41) Z Z Z Z Z ⟨sr,trivial⟩ Z (av Z (aw _) Z) ⟨⟨_,Z,aF _⟩,trivial⟩ Z Z Z Z Z Z Z Z Tryz.call53 Z (av Z (aw _) Z) ?_)
   refine nx 2 Z (fB [29] h2 Z (λ c42 h2=>?_) λ c42 h2=>?_)
   ·refine nx 7 Z (mO Z (a6 Z Z Z Z Z Z Z (aa.g_outer _) ?_))
    refine bd h2 λ r43 e44 h2=>mO Z (bB [1000000] [] 110000 110000 (dF r40.2 40 r40.2.fouter _ e44) Z Z Z Z Z ⟨sr,sr,sr,trivial⟩ Z (av Z (aw _) Z) ⟨⟨_,Z,aF _⟩,trivial⟩ Z Z Z Z Z Z Z Z Tryz.call88 Z (av Z (aw _) Z) ?_)
    exact nx 3 Z (mQo (hR0 _ (hR1 _ (oi h2).symm).symm) (ax _) Z Z Z (av Z (aw _) Z) (sr) ⟨⟨_,Z,aF _⟩,trivial⟩)
   refine nx 6 Z (bd h2 λ r45 e46 h2=>?_)
   refine mO Z (bB [1000000] [] 111000 111000 (iE _ r40.2 _ e46) Z Z Z Z Z ⟨sr,trivial⟩ Z (av Z (aw _) Z) ⟨⟨_,Z,aF _⟩,trivial⟩ Z Z Z Z Z Z Z Z Tryz.call54 Z (av Z (aw _) Z) ?_)
   refine nx 2 Z (fB [38] h2 Z (λ c47 h2=>?_) λ c47 h2=>?_)
   ·refine nx 7 Z (mO Z (a6 Z Z Z Z Z Z Z (aa.g_at _) ?_))
    refine bd h2 λ r48 e49 h2=>mO Z (bB [1000000] [] 112000 112000 (dF r45.2 2 r45.2.fat _ e49) Z Z Z Z Z ⟨sr,sr,sr,trivial⟩ Z (av Z (aw _) Z) ⟨⟨_,Z,aF _⟩,trivial⟩ Z Z Z Z Z Z Z Z Tryz.call88 Z (av Z (aw _) Z) ?_)
    exact nx 3 Z (mQo (hR0 _ (hR1 _ (oi h2).symm).symm) (ax _) Z Z Z (av Z (aw _) Z) (sr) ⟨⟨_,Z,aF _⟩,trivial⟩)
   refine nx 6 Z (oA h2 Z Z λ hk50 h2=>?_)
   refine bd h2 λ r51 e52 h2=>mO Z (bB [1000000] [] 113000 113000 (ih_token_scanner_token_ok r45.2 (depth_1+1) _ e52) Z Z Z Z Z ⟨sr,sr,trivial⟩ Z (av Z (aw _) Z) ⟨⟨_,Z,aF _⟩,trivial⟩ Z Z Z Z Z Z Z Z Tryz.call55 Z (av Z (aw _) Z) ?_)
   refine nx 3 Z (mO Z (gO Z Z Z Z Z ?_))
   refine mG (lm (show jQ _ _=_ from (by repeat (first | exact iZ _ | apply il Z | apply d4 Z (kP _ _) | apply d4 Z Z)))) (nx 9 Z ?_)
   refine fB [53] h2 Z (λ c53 h2=>?_) λ c53 h2=>?_
   ·exact nx 6 Z (mQo (hR0 _ (hR1 _ (oi h2).symm).symm) (ax _) Z Z Z (av Z (aw _) Z) (sr) ⟨⟨_,Z,aF _⟩,trivial⟩)
   refine nx 3 Z (bd h2 λ o78 h3 h2=>?_)
   refine kN o78 (λ v79=>⟨[(0,.ptr 1000000 0),(1,.p (eI depth_1)),(5,.p (eI v79)),(6,.ptr 6 0)],[(6,(ae.cs r51.1).map .p),(1000000,(aa.cs r51.2.2).map .p)]⟩) ?_ ?_
   ·refine nx 2 Z (bd h2 λ o80 h3 h2=>?_)
    refine kN o80 (λ v81=>⟨[(0,.ptr 1000000 0),(1,.p (eI depth_1)),(5,.p (eI o78)),(71,.p (eB v81))],[(1000000,(aa.cs r51.2.2).map .p)]⟩) ?_ ?_
    ·refine nx 1 Z (fB [71] h2 Z (λ c61 h2=>?_) λ c61 h2=>?_)
     ·refine nx 3 Z (oA h2 Z Z λ hk62 h2=>?_)
      exact nx 2 Z (eX _ (oi h2).symm (gE Z Z))
     exact nx 2 Z (eX _ (oi h2).symm (gE Z Z))
    refine nx 5 Z (fD [66,67] h3 Z (λ c59 h3=>?_) λ c59 h3=>?_)
    ·refine nx 2 Z (oS Z Z ?_)
     exact nx 2 Z (eX _ (oi h3).symm (gE Z Z))
    exact nx 5 Z (eX _ (oi h3).symm (gE Z Z))
   refine nx 1 Z (bd h3 λ o82 h4 h3=>?_)
   refine kN o82 (λ v83=>⟨[(0,.ptr 1000000 0),(1,.p (eI depth_1)),(5,.p (eI open35)),(6,.ptr 6 0),(61,.p (eB v83))],[(6,(ae.cs r51.1).map .p),(1000000,(aa.cs r51.2.2).map .p)]⟩) ?_ ?_
   ·refine nx 1 Z (fB [61] h3 Z (λ c56 h3=>?_) λ c56 h3=>?_)
    ·refine nx 3 Z (oA h3 Z Z λ hk57 h3=>?_)
     exact nx 2 Z (eX _ (oi h3).symm (gE Z Z))
    exact nx 2 Z (eX _ (oi h3).symm (gE Z Z))
   refine nx 5 Z (fD [56,57] h4 Z (λ c54 h4=>?_) λ c54 h4=>?_)
   ·refine nx 2 Z (oS Z Z ?_)
    exact nx 2 Z (eX _ (oi h4).symm (gE Z Z))
   exact nx 5 Z (eX _ (oi h4).symm (gE Z Z))
  exact nx 2 Z (eXi _ (oi h1).symm (gE Z Z))
theorem me (n:Nat):∀ (x_0:aa) (depth_1:Int) (r:ae×Bool×aa),aQ n x_0 depth_1=some r→aW Tryz.prog 55 [.ptr 1000000 0,.p (eI depth_1)] [(1000000,(aa.cs x_0).map .p)] (λ x y=>x=.tuple [.p (.agg (ae.cs r.1)),.p (eB r.2.1)]∧y=[(1000000,(aa.cs r.2.2).map .p)]):=(lc n).1
def dG (n:Nat):Nat→(List ae)→aa→Option (Unit⊕((List ae)×ap))
 | 0,_,_=>none
 | m+1,out25,x26 =>
 (cN n x26).bind λ r27 =>
 (
   (bO r27).bind λ r29 =>
   if r29.1=true then
    (cz n r29.2).bind λ r32 =>
    some (!r32.1,r32.2)
   else
    some (false,r29.2)
  : Option (Bool×aa)).bind λ q49 =>
 if q49.1=true then
  some (.inr ([],(ap.mk 2 q49.2.fat ([]:Bytes))))
 else
  if (out25.length:Int)=16384 then
   some (.inr ([],(ap.mk 14 q49.2.fat ([]:Bytes))))
  else
   (bO q49.2).bind λ r38 =>
   if (!r38.1)=true then
    ck ((out25.length+([(ae.mk 6 ([]:Bytes) r38.2.fat)]).length)*32≤140737488355328) <|
    some (.inr (out25++([(ae.mk 6 ([]:Bytes) r38.2.fat)]),(ap.mk 0 0 ([]:Bytes))))
   else
    (aQ n r38.2 0).bind λ r42 =>
    if (!r42.2.1)=true then
     some (.inr ([],r42.2.2.fbad))
    else
     ck ((out25.length+[r42.1].length)*32≤140737488355328) <|
     dG n m (out25++[r42.1]) r42.2.2
def gN (n:Nat)(s_0:Bytes):Option ((List ae)×ap) :=
 if 65536 < (s_0.length:Int) then
  some ([],(ap.mk 3 0 ([]:Bytes)))
 else
  (i7 s_0).bind λ r2 =>
  jn (dG n n [] r2) λ q48 =>
  none
theorem sO (n:Nat)(s_0:Bytes)(r:(List ae)×ap)(h0:gN n s_0=some r):aK Tryz.prog 25 [eS s_0] (·=.tuple [.p (eL bw r.1),.p (.agg (ap.cs r.2))]):=by
 unfold gN at h0
 refine cB good Tryz.func25 Z Z Z λ w0=>mP (λ v:(List ae)×ap=>.tuple [.p (eL bw v.1),.p (.agg (ap.cs v.2))]) ?_
 refine nx 9 Z (oLs Z ?_)
 refine nx 2 Z (fD [10] h0 Z (λ c1 h0=>?_) λ c1 h0=>?_)
 ·exact nx 8 Z (mQ (oi h0) Z (aM ⟨gq _,sr,trivial⟩))
 refine nx 5 Z (bd h0 λ r2 e3 h0=>?_)
 refine mO Z (bB [] [] 101000 101001 (nQ s_0 _ e3) Z Z Z Z Z ⟨sr,trivial⟩ Z Z trivial Z Z Z Z Z Z Z Z Tryz.call51 Z (av Z (aw _) Z) ?_)
 refine nx 7 Z ?_
 obtain ⟨o50,h1,hL0,hR0⟩:=dk h0
 refine kEx 0 (λ v51:Unit=>o50=.inl v51) (λ v51=>⟨[],[]⟩) (λ v51 hv=>?_) ?_
 ·have h0:=hL0 _ hv
  refine nx 1 Z ?_
  cases h0
 refine lG (λ (q52:(List ae)×aa)=>⟨[(3,.ptr 3 0),(4,.ptr 101000 0),(5,.vec 62 3 0 (q52.1.map bw))],[(3,kH),(101000,(aa.cs q52.2).map .p)]⟩) (λ m (q52:(List ae)×aa)=>dG n m q52.1 q52.2) Y ([],r2) h1 (fZ (nY ⟨er Z,er Z,⟨_,Z,AV.sub_nilvec _ _ _⟩,trivial⟩ ⟨⟨_,Z,⟨sr,sr,sr,trivial⟩⟩,⟨_,Z,aF _⟩,trivial⟩)) ?_
 rintro m ⟨out25,x26⟩ h1
 replace h1:dG n (m+1) out25 x26=some o50:=h1
 rw [dG] at h1
 refine nx 4 Z (bd h1 λ r27 e28 h1=>?_)
 refine mO Z (bB [101000] [] 107000 107000 (iY _ x26 _ e28) Z Z Z Z Z ⟨sr,trivial⟩ Z (av Z (aw _) Z) ⟨⟨_,Z,aF _⟩,trivial⟩ Z Z Z Z Z Z Z Z Tryz.call52 Z (av Z (aw _) Z) ?_)
 refine nx 3 Z (bd h1 λ o53 h2 h1=>?_)
 refine kN o53 (λ v54=>⟨[(3,.ptr 3 0),(4,.ptr 101000 0),(5,.vec 62 3 0 (out25.map bw)),(22,.p (eB v54.1))],[(3,kH),(101000,(aa.cs v54.2).map .p)]⟩) ?_ ?_
 ·refine nx 1 Z (fB [22] h1 Z (λ c36 h1=>?_) λ c36 h1=>?_)
  ·refine nx 2 Z (mG (gE (t:=⟨[(3,.ptr 3 0),(4,.ptr 101000 0)],[(3,kH),(101000,(aa.cs o53.2).map .p)]⟩) Z Z) ?_)
   refine mSq ⟨1,[6],(λ _=>.none),(λ _=>[(3,.ptr 3 0),(4,.ptr 101000 0)]),(ob2 ([(3,kH),(101000,(aa.cs o53.2).map .p)]) (3,[.p (eI 2),.p (eI o53.2.fat),.p (eS ([]:Bytes))]))⟩ Z (dPc (.ptr 101000 0) Z ?_)
   refine dPc (.ptr 101000 0) Z (dPc (.ptr 101000 1) Z ?_)
   refine dPc (.p (eI o53.2.fat)) Z (dPc (.p (.agg [eI 2,eI o53.2.fat,eS ([]:Bytes)])) Z ?_)
   refine dPc (.p (.val (.slice none 0 0))) Z (dS Z ?_)
   refine dJ (nx 2 Z ?_)
   exact mQ (hR0 _ (oi h1).symm) Z (aM ⟨gq _,sr,trivial⟩)
  refine nx 6 Z (oLl (f:=bw) Z Z ?_)
  refine nx 2 Z (fD [30] h1 Z (λ c37 h1=>?_) λ c37 h1=>?_)
  ·refine nx 2 Z (mG (gE (t:=⟨[(3,.ptr 3 0),(4,.ptr 101000 0)],[(3,kH),(101000,(aa.cs o53.2).map .p)]⟩) Z Z) ?_)
   refine mSq ⟨1,[6],(λ _=>.none),(λ _=>[(3,.ptr 3 0),(4,.ptr 101000 0)]),(ob2 ([(3,kH),(101000,(aa.cs o53.2).map .p)]) (3,[.p (eI 14),.p (eI o53.2.fat),.p (eS ([]:Bytes))]))⟩ Z (dPc (.ptr 101000 0) Z ?_)
   refine dPc (.ptr 101000 0) Z (dPc (.ptr 101000 1) Z ?_)
   refine dPc (.p (eI o53.2.fat)) Z (dPc (.p (.agg [eI 14,eI o53.2.fat,eS ([]:Bytes)])) Z ?_)
   refine dPc (.p (.val (.slice none 0 0))) Z (dS Z ?_)
   refine dJ (nx 2 Z ?_)
   exact mQ (hR0 _ (oi h1).symm) Z (aM ⟨gq _,sr,trivial⟩)
  refine nx 6 Z (bd h1 λ r38 e39 h1=>?_)
  refine mO Z (bB [101000] [] 110000 110000 (cm o53.2 _ e39) Z Z Z Z Z ⟨sr,trivial⟩ Z (av Z (aw _) Z) ⟨⟨_,Z,aF _⟩,trivial⟩ Z Z Z Z Z Z Z Z Tryz.call53 Z (av Z (aw _) Z) ?_)
  refine nx 2 Z (fB [38] h1 Z (λ c40 h1=>?_) λ c40 h1=>?_)
  ·refine nx 7 Z (mO Z (a6 Z Z Z Z Z Z Z (aa.g_at _) ?_))
   refine nx 1 Z (mO Z (bQ bw [(ae.mk 6 ([]:Bytes) r38.2.fat)] Z Z Z Z Z Z Z Z Z Z Z Z Z (by first | rfl | (simp only [List.map_cons,List.map_nil,ae.agg_eq]; done) | (simp only [List.map_cons,List.map_nil,ae.agg_eq]; rfl)) ?_))
   refine cc' h1 λ hk41 h1=>mO Z (gD bw out25 ([(ae.mk 6 ([]:Bytes) r38.2.fat)]) Z Z Z Z Z Z Z Z Z Z Z Z Z (λ x=>congrArg List.length (ae.cells_eq x)) Z Z Z Z hk41 ?_)
   refine mG (vD (show jQ _ _=_ from (by repeat (first | exact iZ _ | apply il Z | apply d4 Z (kP _ _) | apply d4 Z Z)))) (nx 5 Z ?_)
   exact mQ (hR0 _ (oi h1).symm) Z (aM ⟨AV.sub_vec _ _ _ _,sr,trivial⟩)
  refine nx 5 Z (bd h1 λ r42 e43 h1=>?_)
  refine mO Z (bB [101000] [] 111000 111000 (me _ r38.2 0 _ e43) Z Z Z Z Z ⟨sr,sr,trivial⟩ Z (av Z (aw _) Z) ⟨⟨_,Z,aF _⟩,trivial⟩ Z Z Z Z Z Z Z Z Tryz.call55 Z (av Z (aw _) Z) ?_)
  refine nx 3 Z (mO Z (gO Z Z Z Z Z ?_))
  refine mG (lm (show jQ _ _=_ from (by repeat (first | exact iZ _ | apply il Z | apply d4 Z (kP _ _) | apply d4 Z Z)))) (nx 9 Z ?_)
  refine fB [54] h1 Z (λ c44 h1=>?_) λ c44 h1=>?_
  ·refine nx 2 Z (mG (gE (t:=⟨[(3,.ptr 3 0),(4,.ptr 101000 0)],[(3,kH),(101000,(aa.cs r42.2.2).map .p)]⟩) Z Z) ?_)
   refine mSq ⟨1,[5],(λ _=>.none),(λ _=>[(3,.ptr 3 0),(4,.ptr 101000 0)]),(ob2 ([(3,kH),(101000,(aa.cs r42.2.2).map .p)]) (3,((ap.cs r42.2.2.fbad).map .p)))⟩ Z (dPc (.ptr 101000 0) Z ?_)
   refine dPc (.ptr 101000 0) Z (dPc (.ptr 101000 259) Z ?_)
   refine aN (λ _=>.p (.agg (ap.cs r42.2.2.fbad))) Z Z Z (gx Z Y) (lt1 Z) (az Z (ay [(57,_)] ⟨.inr ⟨2,_,Z,Z,Z⟩,trivial⟩ (λ sl hsl K hK=>am Z (zl Z Z Z Z Z (hsl _ _ Z) Z (aa.l_bad _) (aa.g_bad _) hK)) aO)) (dPc (.p (.val (.slice none 0 0))) Z ?_)
   refine dS Z (dJ ?_)
   exact nx 2 Z (mQ (hR0 _ (oi h1).symm) Z (aM ⟨gq _,sr,trivial⟩))
  refine nx 5 Z (mO Z (bQ bw [r42.1] Z Z Z Z Z Z Z Z Z Z Z Z Z (by first | rfl | (simp only [List.map_cons,List.map_nil,ae.agg_eq]; done) | (simp only [List.map_cons,List.map_nil,ae.agg_eq]; rfl)) ?_))
  refine cc' h1 λ hk45 h1=>mO Z (gD bw out25 [r42.1] Z Z Z Z Z Z Z Z Z Z Z Z Z (λ x=>congrArg List.length (ae.cells_eq x)) Z Z Z Z hk45 ?_)
  refine mG (vD (show jQ _ _=_ from (by repeat (first | exact iZ _ | apply il Z | apply d4 Z (kP _ _) | apply d4 Z Z)))) (nx 2 Z ?_)
  exact eX (out25++[r42.1],r42.2.2) h1 (gE Z Z)
 refine nx 2 Z (bd h2 λ r29 e30 h2=>?_)
 refine mO Z (bB [101000] [] 108000 108000 (cm r27 _ e30) Z Z Z Z Z ⟨sr,trivial⟩ Z (av Z (aw _) Z) ⟨⟨_,Z,aF _⟩,trivial⟩ Z Z Z Z Z Z Z Z Tryz.call53 Z (av Z (aw _) Z) ?_)
 refine nx 1 Z (fB [17,18] h2 Z (λ c31 h2=>?_) λ c31 h2=>?_)
 ·refine nx 1 Z (bd h2 λ r32 e33 h2=>?_)
  refine mO Z (bB [101000] [] 109000 109000 (iE _ r29.2 _ e33) Z Z Z Z Z ⟨sr,trivial⟩ Z (av Z (aw _) Z) ⟨⟨_,Z,aF _⟩,trivial⟩ Z Z Z Z Z Z Z Z Tryz.call54 Z (av Z (aw _) Z) ?_)
  exact nx 3 Z (eX _ (oi h2).symm (gE Z Z))
 exact nx 5 Z (eX _ (oi h2).symm (gE Z Z))
def iG (v_0:ah):Option Bool :=
 (
   if v_0.fKind < 0 then
    some true
   else
    some (decide (6 < v_0.fKind))
  : Option Bool).bind λ t2 =>
 if t2=true then
  some false
 else
  jn (
    if v_0.fKind=1 then
     (
       if v_0.fNum=0 then
        some false
       else
        some (!decide (v_0.fNum=1))
      : Option Bool).bind λ t6 =>
     if t6=true then
      some (.inr false)
     else
      some (.inl ())
    else
     if v_0.fKind=2 then
      some (.inl ())
     else
      if v_0.fNum=0 then
       some (.inl ())
      else
       some (.inr false)
   : Option (Unit⊕Bool)) λ q20 =>
  (
    if v_0.fKind=3 then
     if v_0.fKind=4 then
      some false
     else
      if v_0.fKind=5 then
       some false
      else
       some (decide (0 < (v_0.fItems.length:Int)))
    else
     if v_0.fStr=([]:Bytes) then
      if v_0.fKind=4 then
       some false
      else
       if v_0.fKind=5 then
        some false
       else
        some (decide (0 < (v_0.fItems.length:Int)))
     else
      some true
   : Option Bool).bind λ t16 =>
  if t16=true then
   some false
  else
   if v_0.fKind=5 then
    some (decide ((v_0.fKeys.length:Int)=(v_0.fItems.length:Int)))
   else
    some (decide ((v_0.fKeys.length:Int)=0))
theorem qN (v_0:ah)(r:Bool)(h0:iG v_0=some r):aK Tryz.prog 170 [.agg (ah.cs v_0)] (·=.p (eB r)):=by
 unfold iG at h0
 refine cB good Tryz.func170 Z Z Z λ w0=>mP (λ v:Bool=>.p (eB v)) ?_
 refine nx 7 Z (bd h0 λ o23 h1 h0=>?_)
 refine kN o23 (λ v24=>⟨[(1,.ptr 1 0),(10,.p (eB v24))],[(1,(ah.cs v_0).map .p)]⟩) ?_ ?_
 ·refine nx 1 Z (fB [10] h0 Z (λ c3 h0=>?_) λ c3 h0=>?_)
  ·exact nx 6 Z (mQ (oi h0) Z (sr))
  refine nx 8 Z ?_
  obtain ⟨o25,h1,hL0,hR0⟩:=dk h0
  refine kX (λ v26:Unit=>o25=.inl v26) (λ v26=>⟨[(1,.ptr 1 0)],[(1,(ah.cs v_0).map .p)]⟩) (λ v26 hv=>?_) ?_
  ·have h0:=hL0 _ hv
   refine nx 3 Z (bd h0 λ o27 h1 h0=>?_)
   refine kN o27 (λ v28=>⟨[(1,.ptr 1 0),(51,.p (eB v28))],[(1,(ah.cs v_0).map .p)]⟩) ?_ ?_
   ·refine nx 1 Z (fB [51] h0 Z (λ c17 h0=>?_) λ c17 h0=>?_)
    ·exact nx 6 Z (mQ (oi h0) Z (sr))
    refine nx 9 Z (fD [54] h0 Z (λ c18 h0=>?_) λ c18 h0=>?_)
    ·refine nx 5 Z (oLl (f:=eS) Z Z ?_)
     refine nx 2 Z (oLl (f:=cC) Z Z ?_)
     exact nx 4 Z (mQ (oi h0) Z (sr))
    refine nx 6 Z (oLl (f:=eS) Z Z ?_)
    exact nx 4 Z (mQ (oi h0) Z (sr))
   refine nx 5 Z (fN [30,31] h1 Z (λ c10 h1=>?_) λ c10 h1=>?_)
   ·refine nx 9 Z (fN [39,40] h1 Z (λ c11 h1=>?_) λ c11 h1=>?_)
    ·exact nx 12 Z (eX _ (oi h1).symm (gE Z Z))
    refine nx 5 Z (fN [43,44,45] h1 Z (λ c12 h1=>?_) λ c12 h1=>?_)
    ·exact nx 7 Z (eX _ (oi h1).symm (gE Z Z))
    refine nx 2 Z (oLl (f:=cC) Z Z ?_)
    exact nx 4 Z (eX _ (oi h1).symm (gE Z Z))
   refine nx 2 Z (oS Z Z ?_)
   refine nx 2 Z (fN [34,35,36] h1 Z (λ c13 h1=>?_) λ c13 h1=>?_)
   ·refine nx 4 Z (fN [39,40] h1 Z (λ c14 h1=>?_) λ c14 h1=>?_)
    ·exact nx 12 Z (eX _ (oi h1).symm (gE Z Z))
    refine nx 5 Z (fN [43,44,45] h1 Z (λ c15 h1=>?_) λ c15 h1=>?_)
    ·exact nx 7 Z (eX _ (oi h1).symm (gE Z Z))
    refine nx 2 Z (oLl (f:=cC) Z Z ?_)
    exact nx 4 Z (eX _ (oi h1).symm (gE Z Z))
   exact nx 16 Z (eX _ (oi h1).symm (gE Z Z))
  refine nx 6 Z (fD [16,17] h1 Z (λ c4 h1=>?_) λ c4 h1=>?_)
  ·refine nx 2 Z (bd h1 λ o29 h2 h1=>?_)
   refine kN o29 (λ v30=>⟨[(1,.ptr 1 0),(25,.p (eB v30))],[(1,(ah.cs v_0).map .p)]⟩) ?_ ?_
   ·refine nx 1 Z (fB [25] h1 Z (λ c7 h1=>?_) λ c7 h1=>?_)
    ·exact nx 6 Z (mQ (hR0 _ (oi h1).symm) Z (sr))
    exact nx 2 Z (eX _ (oi h1).symm (gE Z Z))
   refine nx 5 Z (fN [20,21] h2 Z (λ c5 h2=>?_) λ c5 h2=>?_)
   ·exact nx 5 Z (eX _ (oi h2).symm (gE Z Z))
   exact nx 5 Z (eX _ (oi h2).symm (gE Z Z))
  refine nx 6 Z (fD [26,27] h1 Z (λ c8 h1=>?_) λ c8 h1=>?_)
  ·exact nx 2 Z (eX _ (oi h1).symm (gE Z Z))
  refine nx 7 Z (fN [15] h1 Z (λ c9 h1=>?_) λ c9 h1=>?_)
  ·exact nx 2 Z (eX _ (oi h1).symm (gE Z Z))
  exact nx 6 Z (mQ (hR0 _ (oi h1).symm) Z (sr))
 refine nx 5 Z (fD [5,6] h1 Z (λ c1 h1=>?_) λ c1 h1=>?_)
 ·exact nx 5 Z (eX _ (oi h1).symm (gE Z Z))
 exact nx 5 Z (eX _ (oi h1).symm (gE Z Z))
def jh (s_0:Bytes):Option Int :=
 if 4096 < (s_0.length:Int) then
  some 3
 else
  (iO s_0).bind λ r2 =>
  if (!r2)=true then
   some 1
  else
   some 0
theorem od (s_0:Bytes)(r:Int)(h0:jh s_0=some r):aK Tryz.prog 172 [eS s_0] (·=.p (eI r)):=by
 unfold jh at h0
 refine cB good Tryz.func172 Z Z Z λ w0=>mP (λ v:Int=>.p (eI v)) ?_
 refine nx 8 Z (oLs Z ?_)
 refine nx 2 Z (fD [5] h0 Z (λ c1 h0=>?_) λ c1 h0=>?_)
 ·exact nx 6 Z (mQ (oi h0) Z (sr))
 refine nx 6 Z (bd h0 λ r2 e3 h0=>?_)
 refine oK (qP s_0 _ e3) Z ⟨sr,trivial⟩ Tryz.call188 Z (nx 2 Z ?_)
 refine fB [8] h0 Z (λ c4 h0=>?_) λ c4 h0=>?_
 ·exact nx 6 Z (mQ (oi h0) Z (sr))
 exact nx 7 Z (mQ (oi h0) Z (sr))
def fe (v_0:ah):Nat→Int→Option (Unit⊕(Unit⊕Int))
 | 0,_=>none
 | m+1,t24 =>
 if t24 < (v_0.fKeys.length:Int) then
  ck ((0:Int)≤t24∧t24 < (v_0.fKeys.length:Int)) <|
  (jh (lat v_0.fKeys t24)).bind λ r27 =>
  if r27=0 then
   (
     if 0 < t24 then
      ck (inR (t24 - 1)) <|
      ck ((0:Int)≤t24 - 1∧t24 - 1 < (v_0.fKeys.length:Int)) <|
      some (Op.bytesLess (lat v_0.fKeys t24) (lat v_0.fKeys (t24 - 1))||decide (lat v_0.fKeys t24=lat v_0.fKeys (t24 - 1)))
     else
      some false
    : Option Bool).bind λ t33 =>
   if t33=true then
    some (.inr (.inr 1))
   else
    ck (inR (t24+1)) <|
    fe v_0 m (t24+1)
  else
   some (.inr (.inr r27))
 else
  some (.inl ())
def gK (n:Nat)(v_0:ah):Option Int :=
 (iG v_0).bind λ r1 =>
 if (!r1)=true then
  some 1
 else
  jn (
    if v_0.fKind=2 then
     (gR v_0.fNum).bind λ r5 =>
     if (!r5)=true then
      some (.inr 5)
     else
      some (.inl ())
    else
     if v_0.fKind=3 then
      (jh v_0.fStr).bind λ r9 =>
      some (.inr r9)
     else
      if v_0.fKind=5 then
       jn (fe v_0 n 0) λ q38 =>
       some (.inl ())
      else
       some (.inl ())
   : Option (Unit⊕Int)) λ q37 =>
  some 0
theorem tg (n:Nat)(v_0:ah)(r:Int)(h0:gK n v_0=some r):aK Tryz.prog 150 [.agg (ah.cs v_0)] (·=.p (eI r)):=by
 unfold gK at h0
 refine cB good Tryz.func150 Z Z Z λ w0=>mP (λ v:Int=>.p (eI v)) ?_
 refine nx 9 Z (bd h0 λ r1 e2 h0=>?_)
 refine oK (qN v_0 _ e2) Z ⟨sr,trivial⟩ Tryz.call170 Z (nx 2 Z ?_)
 refine fB [8] h0 Z (λ c3 h0=>?_) λ c3 h0=>?_
 ·exact nx 6 Z (mQ (oi h0) Z (sr))
 refine nx 8 Z ?_
 obtain ⟨o40,h1,hL0,hR0⟩:=dk h0
 refine kX (λ v41:Unit=>o40=.inl v41) (λ v41=>⟨[],[]⟩) (λ v41 hv=>?_) ?_
 ·have h0:=hL0 _ hv
  exact nx 6 Z (mQ (oi h0) Z (sr))
 refine nx 6 Z (fD [11,12] h1 Z (λ c4 h1=>?_) λ c4 h1=>?_)
 ·refine nx 5 Z (bd h1 λ r5 e6 h1=>?_)
  refine oK (mg v_0.fNum _ e6) Z ⟨sr,trivial⟩ Tryz.call171 Z (nx 2 Z ?_)
  refine fB [16] h1 Z (λ c7 h1=>?_) λ c7 h1=>?_
  ·exact nx 6 Z (mQ (hR0 _ (oi h1).symm) Z (sr))
  exact nx 2 Z (eX _ (oi h1).symm (gE Z Z))
 refine nx 6 Z (fD [17,18] h1 Z (λ c8 h1=>?_) λ c8 h1=>?_)
 ·refine nx 5 Z (bd h1 λ r9 e10 h1=>?_)
  refine oK (od v_0.fStr _ e10) Z ⟨sr,trivial⟩ Tryz.call172 Z (nx 3 Z ?_)
  exact mQ (hR0 _ (oi h1).symm) Z (sr)
 refine nx 6 Z (fD [22,23] h1 Z (λ c11 h1=>?_) λ c11 h1=>?_)
 ·refine nx 5 Z (oLl (f:=eS) Z Z ?_)
  refine nx 3 Z ?_
  obtain ⟨o42,h2,hL1,hR1⟩:=dk h1
  refine kEx 1 (λ v43:Unit=>o42=.inl v43) (λ v43=>⟨[],[]⟩) (λ v43 hv=>?_) ?_
  ·have h1:=hL1 _ hv
   exact nx 1 Z (eX _ (oi h1).symm (gE Z Z))
  refine lG (λ (q44:Int)=>⟨[(1,.ptr 1 0),(25,.p (eL eS v_0.fKeys)),(26,.p (eI (v_0.fKeys.length:Int))),(27,.p (eI q44))],[(1,(ah.cs v_0).map .p)]⟩) (λ m (q44:Int)=>fe v_0 m q44) Y 0 h2 (gE Z Z) ?_
  rintro m t24 h2
  replace h2:fe v_0 (m+1) t24=some o42:=h2
  rw [fe] at h2
  refine nx 5 Z (fD [28] h2 Z (λ c25 h2=>?_) λ c25 h2=>?_)
  ·refine nx 7 Z (oE h2 Y Z Z Y λ hk26 h2=>?_)
   refine nx 8 Z (bd h2 λ r27 e28 h2=>?_)
   refine oK (od (lat v_0.fKeys t24) _ e28) Z ⟨sr,trivial⟩ Tryz.call172 Z (nx 7 Z ?_)
   refine fN [35] h2 Z (λ c29 h2=>?_) λ c29 h2=>?_
   ·refine nx 3 Z (bd h2 λ o45 h3 h2=>?_)
    refine kN o45 (λ v46=>⟨[(1,.ptr 1 0),(25,.p (eL eS v_0.fKeys)),(26,.p (eI (v_0.fKeys.length:Int))),(27,.p (eI t24)),(48,.p (eB v46))],[(1,(ah.cs v_0).map .p)]⟩) ?_ ?_
    ·refine nx 1 Z (fB [48] h2 Z (λ c34 h2=>?_) λ c34 h2=>?_)
     ·exact nx 6 Z (mQ (hR0 _ (hR1 _ (oi h2).symm).symm) Z (sr))
     refine nx 3 Z (oA h2 Z Z λ hk35 h2=>?_)
     exact nx 2 Z (eX (t24+1) h2 (gE Z Z))
    refine nx 4 Z (fD [38,39] h3 Z (λ c30 h3=>?_) λ c30 h3=>?_)
    ·refine nx 4 Z (oA h3 Z Z λ hk31 h3=>?_)
     refine oE h3 Y Z Z Y λ hk32 h3=>nx 1 Z (oS Z Z ?_)
     exact nx 2 Z (eX _ (oi h3).symm (gE Z Z))
    exact nx 10 Z (eX _ (oi h3).symm (gE Z Z))
   exact nx 7 Z (mQ (hR0 _ (hR1 _ (oi h2).symm).symm) Z (sr))
  exact nx 2 Z (eXi _ (oi h2).symm (gE Z Z))
 exact nx 2 Z (eX _ (oi h1).symm (gE Z Z))
def cV (r_value_Check_1:ah→Int→Int→Option (Int×Int))(v_0:ah)(level_1:Int):Nat→Int→Int→Option (Int⊕(Int×Int))
 | 0,_,_=>none
 | m+1,t16,f17 =>
 if t16 < (v_0.fItems.length:Int) then
  ck ((0:Int)≤t16∧t16 < (v_0.fItems.length:Int)) <|
  ck (inR (level_1+1)) <|
  (r_value_Check_1 (lat v_0.fItems t16) (level_1+1) f17).bind λ r21 =>
  if r21.1=0 then
   ck (inR (t16+1)) <|
   cV r_value_Check_1 v_0 level_1 m (t16+1) r21.2
  else
   some (.inr (r21.1,r21.2))
 else
  some (.inl f17)
def cS:Nat→ah→Int→Int→Option (Int×Int)
 | 0,_,_,_=>none
 | n+1,v_0,level_1,cap_0 =>
 if 32 < level_1 then
  some (4,cap_0)
 else
  if 4096≤cap_0 then
   some (14,cap_0)
  else
   ck (inR (cap_0+1)) <|
   (gK n v_0).bind λ r4 =>
   if r4=0 then
    jn (cV (cS n) v_0 level_1 n 0 (cap_0+1)) λ f27 =>
    some (0,f27)
   else
    some (r4,cap_0+1)
theorem pW (n:Nat):∀ (v_0:ah) (level_1:Int) (cap_0:Int) (r:Int×Int),cS n v_0 level_1 cap_0=some r→aW Tryz.prog 149 [.p (.agg (ah.cs v_0)),.p (eI level_1),.ptr 1000000 0,.ptr 1000001 0] [(1000000,[.p (eI cap_0)]),(1000001,[.func (.func 149) [.ptr 1000000 0,.ptr 1000001 0]])] (λ x y=>x=.p (eI r.1)∧y=[(1000000,[.p (eI r.2)]),(1000001,[.func (.func 149) [.ptr 1000000 0,.ptr 1000001 0]])]):=by
 induction n with
 | zero=>intro v_0 level_1 cap_0 r h0; cases h0
 | succ n ih =>
 have ih_value_Check_1_ok:=ih
 intro v_0 level_1 cap_0 r h0
 rw [cS] at h0
 refine cw good [] [1000000,1000001] Tryz.func149 Z Z Z Z Z λ w0 F=>mPo (λ v:Int×Int=>.p (eI v.1)) (λ v=>[(1000000,[.p (eI v.2)]),(1000001,[.func (.func 149) [.ptr 1000000 0,.ptr 1000001 0]])]) ?_
 refine nx 11 Z (fD [12] h0 Z (λ c1 h0=>?_) λ c1 h0=>?_)
 ·exact nx 6 Z (mQo (oi h0) (ax _) Z Z Z Z (sr) ⟨⟨_,Z,⟨sr,trivial⟩⟩,⟨_,Z,⟨sr,trivial⟩⟩,trivial⟩)
 refine nx 8 Z (fD [14] h0 Z (λ c2 h0=>?_) λ c2 h0=>?_)
 ·exact nx 6 Z (mQo (oi h0) (ax _) Z Z Z Z (sr) ⟨⟨_,Z,⟨sr,trivial⟩⟩,⟨_,Z,⟨sr,trivial⟩⟩,trivial⟩)
 refine nx 5 Z (oA h0 Z Z λ hk3 h0=>?_)
 refine nx 6 Z (bd h0 λ r4 e5 h0=>?_)
 refine oK (tg _ v_0 _ e5) Z ⟨sr,trivial⟩ Tryz.call150 Z (nx 7 Z ?_)
 refine fN [20] h0 Z (λ c6 h0=>?_) λ c6 h0=>?_
 ·refine nx 7 Z (oLl (f:=cC) Z Z ?_)
  refine nx 3 Z ?_
  obtain ⟨o29,h1,hL0,hR0⟩:=dk h0
  refine kEx 0 (λ v30:Int=>o29=.inl v30) (λ v30=>⟨[],[(1000000,[.p (eI v30)]),(1000001,[.func (.func 149) [.ptr 1000000 0,.ptr 1000001 0]])]⟩) (λ v30 hv=>?_) ?_
  ·have h0:=hL0 _ hv
   exact nx 6 Z (mQo (oi h0) (ax _) Z Z Z Z (sr) ⟨⟨_,Z,⟨sr,trivial⟩⟩,⟨_,Z,⟨sr,trivial⟩⟩,trivial⟩)
  refine lG (λ (q31:Int×Int)=>⟨[(1,.p (eI level_1)),(3,.ptr 1000001 0),(23,.p (eL cC v_0.fItems)),(24,.p (eI (v_0.fItems.length:Int))),(25,.p (eI q31.1))],[(1000000,[.p (eI q31.2)]),(1000001,[.func (.func 149) [.ptr 1000000 0,.ptr 1000001 0]])]⟩) (λ m (q31:Int×Int)=>cV (cS n) v_0 level_1 m q31.1 q31.2) Y (0,cap_0+1) h1 (gE Z Z) ?_
  rintro m ⟨t16,f17⟩ h1
  replace h1:cV (cS n) v_0 level_1 (m+1) t16 f17=some o29:=h1
  rw [cV] at h1
  refine nx 5 Z (fD [26] h1 Z (λ c18 h1=>?_) λ c18 h1=>?_)
  ·refine nx 6 Z (oE h1 ah.cells_eq Z Z Y λ hk19 h1=>?_)
   refine nx 9 Z (oA h1 Z Z λ hk20 h1=>?_)
   refine bd h1 λ r21 e22 h1=>mO Z (tV [1000000,1000001] [] 102000 102000 (ih_value_Check_1_ok (lat v_0.fItems t16) (level_1+1) f17 _ e22) Z Z Z Z Z Z ⟨sr,sr,sr,sr,trivial⟩ Z Z ⟨⟨_,Z,⟨sr,trivial⟩⟩,⟨_,Z,⟨sr,trivial⟩⟩,trivial⟩ Z Z Z Z Z Z Z Z Tryz.call149 Z Z ?_)
   refine nx 7 Z (fN [35] h1 Z (λ c23 h1=>?_) λ c23 h1=>?_)
   ·refine nx 3 Z (oA h1 Z Z λ hk24 h1=>?_)
    exact nx 2 Z (eX (t16+1,r21.2) h1 (gE Z Z))
   exact nx 7 Z (mQo (hR0 _ (oi h1).symm) (ax _) Z Z Z Z (sr) ⟨⟨_,Z,⟨sr,trivial⟩⟩,⟨_,Z,⟨sr,trivial⟩⟩,trivial⟩)
  exact nx 2 Z (eXi _ (oi h1).symm (gE Z Z))
 exact nx 7 Z (mQo (oi h0) (ax _) Z Z Z Z (sr) ⟨⟨_,Z,⟨sr,trivial⟩⟩,⟨_,Z,⟨sr,trivial⟩⟩,trivial⟩)
def gh (n:Nat)(v_0:ah):Option Int :=
 (cS n v_0 1 0).bind λ r1 =>
 some r1.1
theorem rP (n:Nat)(v_0:ah)(r:Int)(h0:gh n v_0=some r):aK Tryz.prog 111 [.agg (ah.cs v_0)] (·=.p (eI r)):=by
 unfold gh at h0
 refine cB good Tryz.func111 Z Z Z λ w0=>mP (λ v:Int=>.p (eI v)) ?_
 refine nx 16 Z (mO Z (wi Z Z Z Z ?_))
 refine nx 6 Z (bd h0 λ r1 e2 h0=>?_)
 refine mO Z (tV [3,4] [] 101000 101000 (pW _ v_0 1 0 _ e2) Z Z Z Z Z Z ⟨sr,sr,sr,sr,trivial⟩ Z Z ⟨⟨_,Z,⟨sr,trivial⟩⟩,⟨_,Z,⟨sr,trivial⟩⟩,trivial⟩ Z Z Z Z Z Z Z Z Tryz.call149 Z Z ?_)
 exact nx 3 Z (mQ (oi h0) Z (sr))
end Go.Ab.R06
end
