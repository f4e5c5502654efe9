/- Texts of the proof, one behind the other. No statement is proved here. -/
import GoSem.PinnedTables
import GoSem.Core.Value
import Derived.WalkKit
import Derived.Deep.AppendSrc
import Derived.Great.FillDense
import Derived.Great.BuildSlice
import Derived.Deep.Upon
import Derived.Lib.Bytealg
import Derived.Scope
import Derived.RowKit3
import Derived.WideLaws
import Derived.Orders
import Derived.ReadAgain
import Derived.ChangeArms
import Derived.ChangeSame
import Derived.OpenShut
import Derived.LaidLaws
import Derived.Shelf.Vars
namespace Go
abbrev aq:=@List.length_cons
abbrev bt:=@Nat.le_refl
abbrev bx:=@Option.some.injEq
abbrev cl:=@Nat.eq_of_beq_eq_true
abbrev mv:=@List.cons_append
abbrev n6:=@List.append_assoc
abbrev n7:=@List.map_cons
abbrev n8:=@List.length_append
abbrev ph:=@Nat.zero_le
abbrev py:=@Bool.and_eq_true
abbrev qr:=@List.mem_cons
abbrev rd:=@List.nil_append
abbrev rg:=@Option.bind_some
abbrev ro:=@Option.map_eq_some_iff
abbrev sm:=@List.all_eq_true
abbrev th:=@List.mem_cons_self
abbrev ur:=@List.cons.inj
abbrev wr:=@Bool.false_ne_true
end Go
namespace Go
theorem Y.{u,v} {α:Sort u}{β:α->Sort v}{f:(x:α)->β x}(x:α):f x=f x:=rfl
theorem Z.{u} {α:Sort u} {a:α}:a=a:=rfl
theorem O {p:Prop} (h:p:=by omega):p:=h
theorem V {p:Prop} (h:p:=by first|assumption|omega):p:=h
theorem G {p:Prop} (h:p:=by simp):p:=h
end Go
section
namespace Go.Ab
open Go
inductive GC where
 | int (k:IntKind) (n:Int)
 | ifc
 | some (k:IntKind)
def UC:List GC:=[.some .i64]
def UA:List GC:=[.int .u64 1,.int .u64 10,.int .u64 100,.int .u64 1000,.int .u64 10000,.int .u64 100000,.int .u64 1000000,.int .u64 10000000,.int .u64 100000000,.int .u64 1000000000,.int .u64 10000000000,.int .u64 100000000000,.int .u64 1000000000000,.int .u64 10000000000000,.int .u64 100000000000000,.int .u64 1000000000000000,.int .u64 10000000000000000,.int .u64 100000000000000000,.int .u64 1000000000000000000,.int .u64 10000000000000000000]
def J7:List GC:=Go.Pinned.utf8FirstZ.map λ (n:Nat)=>.int .u8 (n:Int)
def KE:List GC:=[.int .u8 128,.int .u8 191,.int .u8 160,.int .u8 191,.int .u8 128,.int .u8 159,.int .u8 144,.int .u8 191,.int .u8 128,.int .u8 143,.int .u8 0,.int .u8 0,.int .u8 0,.int .u8 0,.int .u8 0,.int .u8 0,.int .u8 0,.int .u8 0,.int .u8 0,.int .u8 0,.int .u8 0,.int .u8 0,.int .u8 0,.int .u8 0,.int .u8 0,.int .u8 0,.int .u8 0,.int .u8 0,.int .u8 0,.int .u8 0,.int .u8 0,.int .u8 0]
def Uc:List GC:=[.int .u8 0,.int .u8 1,.int .u8 28,.int .u8 2,.int .u8 29,.int .u8 14,.int .u8 24,.int .u8 3,.int .u8 30,.int .u8 22,.int .u8 20,.int .u8 15,.int .u8 25,.int .u8 17,.int .u8 4,.int .u8 8,.int .u8 31,.int .u8 27,.int .u8 13,.int .u8 23,.int .u8 21,.int .u8 19,.int .u8 16,.int .u8 7,.int .u8 26,.int .u8 12,.int .u8 18,.int .u8 6,.int .u8 11,.int .u8 5,.int .u8 10,.int .u8 9]
def UG:List GC:=[.int .u8 0,.int .u8 1,.int .u8 56,.int .u8 2,.int .u8 57,.int .u8 49,.int .u8 28,.int .u8 3,.int .u8 61,.int .u8 58,.int .u8 42,.int .u8 50,.int .u8 38,.int .u8 29,.int .u8 17,.int .u8 4,.int .u8 62,.int .u8 47,.int .u8 59,.int .u8 36,.int .u8 45,.int .u8 43,.int .u8 51,.int .u8 22,.int .u8 53,.int .u8 39,.int .u8 33,.int .u8 30,.int .u8 24,.int .u8 18,.int .u8 12,.int .u8 5,.int .u8 63,.int .u8 55,.int .u8 48,.int .u8 27,.int .u8 60,.int .u8 41,.int .u8 37,.int .u8 16,.int .u8 46,.int .u8 35,.int .u8 44,.int .u8 21,.int .u8 52,.int .u8 32,.int .u8 23,.int .u8 11,.int .u8 54,.int .u8 26,.int .u8 40,.int .u8 15,.int .u8 34,.int .u8 20,.int .u8 31,.int .u8 10,.int .u8 25,.int .u8 14,.int .u8 19,.int .u8 9,.int .u8 13,.int .u8 8,.int .u8 7,.int .u8 6]
def T2:List GC:=[.ifc]
def T9:List GC:=[.ifc]
def sM:List (Nat×List GC):=[(0,UC),(1,UA),(2,J7),(3,KE),(4,Uc),(5,UG),(6,T2),(7,T9)]
end Go.Ab
end
section
namespace Go.Ab
variable {p:Prop}
theorem gX (h:p:=by
 exact .undef _):p:=h
theorem Ex (h:p:=by exact ⟨λ h=>(Va o).1 (U4.tip _ _ o hD how h),λ h=>(U4.ev _ _ ((Va o).2 h)).1⟩):p:=h
theorem D4 (h:p:=by exact ⟨λ h=>(Va o).1 (U4.tip _ _ o Z how h),λ h=>(U4.ev _ _ ((Va o).2 h)).1⟩):p:=h
inductive PV where
 | val (v:Value)
 | agg (cs:List PV)
 | slice (es:List PV)
 | ifc
 | aint (k:IntKind)
def PV.cells:PV->List PV|.agg cs=>cs|.val v=>[.val v]|.slice es=>[.slice es]|.ifc=>[.ifc]|.aint k=>[.aint k]
def PV.one:PV->Bool|.val v=>v.oneCell'|.slice _=>true|.ifc=>true|.aint _=>true|.agg _=>false
structure Gh where
 st:Nat->Nat->Prop
 ow:Nat->Option Nat
inductive PRep (w:World)(st:Nat->Nat->Prop):PV->Value->Prop
 | val (v:Value):PRep w st (.val v) v
 | agg {cs:List PV} {vs:Array Value} (hl:vs.size=cs.length)
   (h:∀ (i:Nat) c v,cs[i]? = some c->vs[i]? = some v->PRep w st c v):PRep w st (.agg cs) (.agg vs)
 | ifc (t:TypeId) (v:Value):PRep w st .ifc (.iface t v)
 | aint (k:IntKind) (n:Int):PRep w st (.aint k) (.int k n)
 | nils:PRep w st (.slice []) (.slice none 0 0)
 | nile (a:Addr):PRep w st (.slice []) (.slice (some a) 0 0)
 | slice {es:List PV} {b off cap:Nat} (sz:Nat) (cf:Nat->Nat->Value) (hcap:es.length<=cap)
   (U0:∀ e,e∈es->e.cells.length=sz) (Vh:∀ e,e∈es->∀ c,c∈e.cells->c.one=true)
   (hc:∀ (i:Nat) e (j:Nat) c,es[i]? = some e->e.cells[j]? = some c->st b (off+i*sz+j)/\w.cell? ⟨b,off+i*sz+j,none⟩=some (cf i j))
   (hr:∀ (i:Nat) e (j:Nat) c,es[i]? = some e->e.cells[j]? = some c->PRep w st c (cf i j)) :
   PRep w st (.slice es) (.slice (some ⟨b,off,none⟩) es.length cap)
def Ev (w:World)(st:Nat->Nat->Prop)(w':World)(st':Nat->Nat->Prop):Prop :=∀ b o,st b o->st' b o/\w'.cell? ⟨b,o,none⟩=w.cell? ⟨b,o,none⟩
theorem Ev.refl (w:World)(st:Nat->Nat->Prop):Ev w st w st:=λ _ _ h=>⟨h,Z⟩
theorem Ev.trans {w w' w'':World}{st st' st'':Nat->Nat->Prop}(h:Ev w st w' st')(k:Ev w' st' w'' st''):Ev w st w'' st'' :=
 λ b o hs=>⟨(k b o (h b o hs).1).1,(k b o (h b o hs).1).2.trans (h b o hs).2⟩
theorem PRep.mono {w w':World}{st st':Nat->Nat->Prop}(U4:Ev w st w' st'){x:PV}{v:Value}(h:PRep w st x v):PRep w' st' x v:=by
 induction h with
 | val v=>exact .val v
 | agg hl h ih=>exact .agg hl ih
 | ifc t v=>exact .ifc t v
 | aint k n=>exact .aint k n
 | nils=>exact .nils
 | nile a=>exact .nile a
 | slice sz cf hcap U0 Vh hc hr ih=>
  refine .slice sz cf hcap U0 Vh (λ i e j c h1 h2=>?_) ih;have h3:=hc i e j c h1 h2;exact ⟨(U4 _ _ h3.1).1,(U4 _ _ h3.1).2.trans h3.2⟩
def look {α:Type}:List (Nat×α)->Nat->Option α|[],_=>none|(j,v)::r,i=>bif Nat.beq j i then some v else look r i
def GC.pv:GC->PV|.int k n=>.val (.int k n)|.ifc=>.ifc|.some k=>.aint k
def uG (g:Nat):Option (List PV):=(look sM g).map λ l=>l.map GC.pv
def mN (w:World)(st:Nat->Nat->Prop):Prop :=∀ g cs,uG g=some cs->(∀ (j:Nat) c,cs[j]? = some c->st g j/\∃ v,w.cell? ⟨g,j,none⟩=some v/\PRep w st c v)/\(st g cs.length/\w.cell? ⟨g,cs.length,none⟩=none)
theorem mN.mono {w w':World}{st st':Nat->Nat->Prop}(h:mN w st)(U4:Ev w st w' st'):mN w' st':=λ g cs hg=>by
 obtain ⟨h0,h1,h2⟩:=h g cs hg;refine ⟨λ j c hc=>?_,(U4 _ _ h1).1,(U4 _ _ h1).2.trans h2⟩;obtain ⟨h1,v,h2,h3⟩:=h0 j c hc;exact ⟨(U4 _ _ h1).1,v,(U4 _ _ h1).2.trans h2,h3.mono U4⟩
structure Ok0 (w:World)(st:Nat->Nat->Prop):Prop where
 lt:∀ b o,st b o->b<w.heap.size
 gl:mN w st
inductive AV where
 | undef
 | p (x:PV)
 | agg (cs:List AV)
 | vec (tok sz ty:Nat) (es:List PV)
 | arr (id sz off n:Nat)
 | ptr (id off:Nat)
 | bptr (T sz id:Nat)
 | rptr (cs:List PV)
 | tuple (vs:List AV)
 | func (f:Fn) (caps:List AV)
 | mp (tok:Nat) (kvs:List (List UInt8×PV))
 | mpr (tok sz ty:Nat) (tk:Option (List UInt8)) (kvs:List (List UInt8×List PV))
 | stk (tok sz:Nat) (es:List PV)
 | sem (ts:List Nat) (R:World->Gh->Value->Prop)
 | it (tok:Nat) (s:List UInt8) (pos:Nat)
 | vecp (tok sz ty:Nat) (es:List PV)
 | elp (tok sz:Nat)
def M1:Nat:=1000000
def MZ:Nat:=10000000
theorem GV:2*M1<=MZ:=by decide
theorem Hc {i:Nat}(h:MZ<=i):M1<=i:=Nat.le_trans (by decide) h
def G4 (tok sz ty:Nat)(tk:Option (List UInt8))(i:Nat)(kv:List UInt8×List PV):AV:=if tk=some kv.1 then .p (.slice kv.2) else .vec (tok+MZ*(i+1)) sz ty kv.2
structure EvO (D:Nat->Bool)(w:World)(g:Gh)(w':World)(g':Gh):Prop where
 ev:Ev w g.st w' g'.st
 ow:∀ id b,D id=false->g.ow id=some b->g'.ow id=some b
 shape:∀ id b c e,D id=false->g.ow id=some b->w.heap[b]? = some (.cells c e (0,0)) ->
  ∃ c':Array Value,w'.heap[b]? = some (.cells c' e (0,0))/\c'.size=c.size
 tip:∀ id b o,D id=false->g.ow id=some b->g'.st b o->g.st b o
 mp:∀ id b es k,D id=false->g.ow id=some b->w.heap[b]? = some (.map es k)->w'.heap[b]? = some (.map es k)
 lo:∀ i,MZ<=i->D i=false
 stab:∀ id b o,D id=false->g.ow id=some b->g.st b o->w'.heap[b]? = w.heap[b]?
theorem EvO.trans {D E:Nat->Bool}{w w' w'':World}{g g' g'':Gh}(h:EvO D w g w' g')(k:EvO E w' g' w'' g''):EvO (λ i=>D i||E i) w g w'' g'':=by
 have hD:∀ id,(D id||E id)=false->D id=false/\E id=false:=λ id h=>by grind
 refine ⟨h.ev.trans k.ev,λ id b hd hb=>k.ow id b (hD id hd).2 (h.ow id b (hD id hd).1 hb),λ id b c e hd hb hc=>?_,λ id b o hd hb ho=>h.tip id b o (hD id hd).1 hb (k.tip id b o (hD id hd).2 (h.ow id b (hD id hd).1 hb) ho),
  λ id b es n hd hb hc=>k.mp id b es n (hD id hd).2 (h.ow id b (hD id hd).1 hb) (h.mp id b es n (hD id hd).1 hb hc),λ i hi=>by rw [h.lo i hi,k.lo i hi]; rfl,
  λ id b o hd hb ho=>(k.stab id b o (hD id hd).2 (h.ow id b (hD id hd).1 hb) (h.ev _ _ ho).1).trans (h.stab id b o (hD id hd).1 hb ho)⟩
 obtain ⟨c1,h1,h2⟩:=h.shape id b c e (hD id hd).1 hb hc;obtain ⟨c2,h3,h4⟩:=k.shape id b c1 e (hD id hd).2 (h.ow id b (hD id hd).1 hb) h1
 grind
theorem EvO.refl (w:World)(g:Gh):EvO (λ _=>false) w g w g:=⟨Ev.refl _ _,λ _ _ _ h=>h,(by grind),λ _ _ _ _ _ h=>h,λ _ _ _ _ _ _ h=>h,λ _ _=>rfl,λ _ _ _ _ _ _=>rfl⟩
structure EvT (ts:List Nat)(w:World)(g:Gh)(w':World)(g':Gh):Prop where
 ev:Ev w g.st w' g'.st
 ow:∀ id b,id∈ts->g.ow id=some b->g'.ow id=some b
 shape:∀ id b c e,id∈ts->g.ow id=some b->w.heap[b]? = some (.cells c e (0,0)) ->
  ∃ c':Array Value,w'.heap[b]? = some (.cells c' e (0,0))/\c'.size=c.size
 tip:∀ id b o,id∈ts->g.ow id=some b->g'.st b o->g.st b o
 stab:∀ id b o,id∈ts->g.ow id=some b->g.st b o->w'.heap[b]? = w.heap[b]?
theorem EvT.refl (ts:List Nat)(w:World)(g:Gh):EvT ts w g w g:=⟨Ev.refl _ _,λ _ _ _ h=>h,λ _ _ c _ _ _ h=>⟨c,h,Z⟩,λ _ _ _ _ _ h=>h,λ _ _ _ _ _ _=>rfl⟩
theorem EvT.trans {ts:List Nat}{w w' w'':World}{g g' g'':Gh}(h:EvT ts w g w' g')(k:EvT ts w' g' w'' g''):EvT ts w g w'' g'':=by
 refine ⟨h.ev.trans k.ev,λ id b hd hb=>k.ow id b hd (h.ow id b hd hb),λ id b c e hd hb hc=>?_,λ id b o hd hb ho=>h.tip id b o hd hb (k.tip id b o hd (h.ow id b hd hb) ho),
  λ id b o hd hb ho=>(k.stab id b o hd (h.ow id b hd hb) (h.ev _ _ ho).1).trans (h.stab id b o hd hb ho)⟩
 obtain ⟨c1,h1,h2⟩:=h.shape id b c e hd hb hc;obtain ⟨c2,h3,h4⟩:=k.shape id b c1 e hd (h.ow id b hd hb) h1
 grind
theorem EvO.evT {D:Nat->Bool}{ts:List Nat}{w w':World}{g g':Gh}(h:EvO D w g w' g')(hd:ts.any D=false):EvT ts w g w' g':=by
 have hd':∀ t,t∈ts->D t=false:=λ t ht=>by grind
 exact ⟨h.ev,λ id b k=>h.ow id b (hd' id k),λ id b c e k=>h.shape id b c e (hd' id k),λ id b o k=>h.tip id b o (hd' id k),λ id b o k=>h.stab id b o (hd' id k)⟩
theorem EvT.sub {ts ts':List Nat}{w w':World}{g g':Gh}(h:EvT ts w g w' g')(hs:∀ t,t∈ts'->t∈ts):EvT ts' w g w' g' :=
 ⟨h.ev,λ id b k=>h.ow id b (hs id k),λ id b c e k=>h.shape id b c e (hs id k),λ id b o k=>h.tip id b o (hs id k),λ id b o k=>h.stab id b o (hs id k)⟩
inductive ARep (w:World)(g:Gh):AV->Value->Prop
 | undef (v:Value):ARep w g .undef v
 | p {x:PV} {v:Value} (h:PRep w g.st x v):ARep w g (.p x) v
 | agg {cs:List AV} {vs:Array Value} (hl:vs.size=cs.length)
   (h:∀ (i:Nat) c v,cs[i]? = some c->vs[i]? = some v->ARep w g c v):ARep w g (.agg cs) (.agg vs)
 | vecn (tok sz ty:Nat):ARep w g (.vec tok sz ty []) (.slice none 0 0)
 | vece (tok sz:Nat) (a:Addr):ARep w g (.vec tok sz 0 []) (.slice (some a) 0 0)
 | vec {tok sz ty:Nat} {es:List PV} {b off cap:Nat} {c:Array Value} {e:TypeId} (how:g.ow tok=some b)
   (hb:w.heap[b]? = some (.cells c e (0,0))) (U9:c.size=off+cap*sz)
   (U0:∀ e,e∈es->e.cells.length=sz) (Va:∀ o,g.st b o↔o<off+es.length*sz)
   (hr:PRep w g.st (.slice es) (.slice (some ⟨b,off,none⟩) es.length cap)) (hty:ty=0\/ty=e+1/\off=0) :
   ARep w g (.vec tok sz ty es) (.slice (some ⟨b,off,none⟩) es.length cap)
 | arr {id sz off n b cap:Nat} {c:Array Value} {e:TypeId} (how:g.ow id=some b) (hb:w.heap[b]? = some (.cells c e (0,0)))
   (U9:c.size=off+cap*sz) (hn:n<=cap):ARep w g (.arr id sz off n) (.slice (some ⟨b,off,none⟩) n cap)
 | ptr {id off b:Nat} (how:g.ow id=some b):ARep w g (.ptr id off) (.pointer (some ⟨b,off,none⟩))
 | bptrn {T sz id b:Nat} {c:Array Value} (how:g.ow id=some b) (hb:w.heap[b]? = some (.cells c T (0,0))) (U9:c.size=sz):ARep w g (.bptr T sz id) (.pointer none)
 | bptr {T sz id b:Nat} {c:Array Value} (how:g.ow id=some b) (hb:w.heap[b]? = some (.cells c T (0,0))) (U9:c.size=sz):ARep w g (.bptr T sz id) (.pointer (some ⟨b,0,none⟩))
 | rptr {cs:List PV} {b off:Nat} (cf:Nat->Value)
   (hc:∀ (j:Nat) c,cs[j]? = some c->g.st b (off+j)/\w.cell? ⟨b,off+j,none⟩=some (cf j))
   (hr:∀ (j:Nat) c,cs[j]? = some c->PRep w g.st c (cf j)):ARep w g (.rptr cs) (.pointer (some ⟨b,off,none⟩))
 | tuple {cs:List AV} {vs:Array Value} (hl:vs.size=cs.length)
   (h:∀ (i:Nat) c v,cs[i]? = some c->vs[i]? = some v->ARep w g c v):ARep w g (.tuple cs) (.tuple vs)
 | func {f:Fn} {cs:List AV} {vs:Array Value} (hl:vs.size=cs.length)
   (h:∀ (i:Nat) c v,cs[i]? = some c->vs[i]? = some v->ARep w g c v):ARep w g (.func f cs) (.func f #[] vs)
 | mp {tok:Nat} {kvs:List (List UInt8×PV)} {b k:Nat} {es:Array MapEntry} (how:g.ow tok=some b) (hb:w.heap[b]? = some (.map es k)) (hn:es.size=kvs.length) (hd:(kvs.map Prod.fst).Nodup)
   (hk:∀ (i:Nat) e kv,es[i]? = some e->kvs[i]? = some kv->e.key=.string ⟨kv.1.toArray⟩) (hv:∀ (i:Nat) e kv,es[i]? = some e->kvs[i]? = some kv->PRep w g.st kv.2 e.val):ARep w g (.mp tok kvs) (.map (some b))
 | mpr {tok sz ty:Nat} {tk:Option (List UInt8)} {kvs:List (List UInt8×List PV)} {b k:Nat} {es:Array MapEntry} (how:g.ow tok=some b) (hb:w.heap[b]? = some (.map es k)) (hn:es.size=kvs.length) (hd:(kvs.map Prod.fst).Nodup)
   (hk:∀ (i:Nat) e kv,es[i]? = some e->kvs[i]? = some kv->e.key=.string ⟨kv.1.toArray⟩) (hv:∀ (i:Nat) e kv,es[i]? = some e->kvs[i]? = some kv->ARep w g (G4 tok sz ty tk i kv) e.val):ARep w g (.mpr tok sz ty tk kvs) (.map (some b))
 | stkn (tok sz:Nat):ARep w g (.stk tok sz []) (.slice none 0 0)
 | stke (tok sz:Nat) (a:Addr):ARep w g (.stk tok sz []) (.slice (some a) 0 0)
 | stk {tok sz:Nat} {es:List PV} {b cap:Nat} {c:Array Value} {e:TypeId} (how:g.ow tok=some b) (hb:w.heap[b]? = some (.cells c e (0,0))) (U9:c.size=cap*sz) (Pn:es.length<=cap)
   (U0:∀ e,e∈es->e.cells.length=sz) (Vh:∀ e,e∈es->∀ c,c∈e.cells->c.one=true) (Va:∀ o,g.st b o↔o=cap*sz)
   (hr:∀ (i:Nat) x (j:Nat) p,es[i]? = some x->x.cells[j]? = some p->∃ v,c[i*sz+j]? = some v/\PRep w g.st p v):ARep w g (.stk tok sz es) (.slice (some ⟨b,0,none⟩) es.length cap)
 | sem {ts:List Nat} {R:World->Gh->Value->Prop} {v:Value} (h1:v.oneCell'=true) (h:∀ (w':World) (g':Gh),EvT ts w g w' g'->R w' g' v):ARep w g (.sem ts R) v
 | it {tok:Nat} {s:List UInt8} {pos b:Nat} (how:g.ow tok=some b) (hb:w.heap[b]? = some (.stringIter ⟨s.toArray⟩ pos)) (hm:g.st b 0):ARep w g (.it tok s pos) (.pointer (some ⟨b,0,none⟩))
 | vecp {tok sz ty:Nat} {es:List PV} {b off cap:Nat} {c:Array Value} {e:TypeId} (how:g.ow tok=some b) (hb:w.heap[b]? = some (.cells c e (0,0))) (U9:c.size=off+cap*sz) (hcap:es.length+1<=cap)
   (U0:∀ e,e∈es->e.cells.length=sz) (Va:∀ o,g.st b o↔o<off+es.length*sz)
   (hr:PRep w g.st (.slice es) (.slice (some ⟨b,off,none⟩) es.length cap)) (hty:ty=0\/ty=e+1/\off=0):ARep w g (.vecp tok sz ty es) (.slice (some ⟨b,off,none⟩) (es.length+1) cap)
 | elp {tok sz b p:Nat} {c:Array Value} {e:TypeId} (how:g.ow tok=some b) (hb:w.heap[b]? = some (.cells c e (0,0))) (hp:p+sz<=c.size) (Va:∀ o,g.st b o↔o<p):ARep w g (.elp tok sz) (.pointer (some ⟨b,p,none⟩))
/- An own identity D is given up: what was known through it is no longer,but for settled contents. -/
mutual
def AV.dem (D:Nat->Bool):AV->AV|.undef=>.undef|.p x=>.p x|.agg cs=>.agg (pJ D cs)|.vec tok sz ty es=>bif D tok then .p (.slice es) else .vec tok sz ty es|.arr id sz off n=>bif D id then .undef else .arr id sz off n|.ptr id off=>bif D id then .undef else .ptr id off|.bptr T sz id=>bif D id then .undef else .bptr T sz id|.rptr cs=>.rptr cs|.tuple cs=>.tuple (pJ D cs)|.func f cs=>.func f (pJ D cs)|.mp tok kvs=>bif D tok then .undef else .mp tok kvs|.mpr tok sz ty tk kvs=>bif D tok then .undef else .mpr tok sz ty tk kvs|.stk tok sz es=>bif D tok then .undef else .stk tok sz es|.sem ts R=>bif ts.any D then .undef else .sem ts R|.it tok s pos=>bif D tok then .undef else .it tok s pos|.vecp tok sz ty es=>bif D tok then .undef else .vecp tok sz ty es|.elp tok sz=>bif D tok then .undef else .elp tok sz
def pJ (D:Nat->Bool):List AV->List AV|[]=>[]|x::r=>x.dem D::pJ D r
end
theorem lZ (D:Nat->Bool):∀ l,pJ D l=l.map (AV.dem D)
 | []=>rfl
 | x::r=>by simp [pJ,lZ D r]
theorem H6 {D:Nat->Bool}(lo:∀ i,MZ<=i->D i=false)(tok sz ty:Nat)(tk:Option (List UInt8))(i:Nat)(kv:List UInt8×List PV):(G4 tok sz ty tk i kv).dem D=G4 tok sz ty tk i kv:=by
 grind [G4,AV.dem]
theorem ARep.dem {D:Nat->Bool}{w w':World}{g g':Gh}(U4:EvO D w g w' g'){x:AV}{v:Value}(h:ARep w g x v):ARep w' g' (x.dem D) v:=by
 induction h with
 | undef v=>simp only [AV.dem]; exact .undef _
 | p h=>simp only [AV.dem]; exact .p (h.mono U4.ev)
 | agg hl h ih=>
  simp only [AV.dem,lZ];refine .agg (by grind) λ i c v h1 h2=>?_
  grind
 | vecn tok sz ty=>
  simp only [AV.dem]
  cases D tok
  ·exact .vecn _ _ _
  ·exact .p .nils
 | vece tok sz a=>
  simp only [AV.dem]
  cases D tok
  ·exact .vece _ _ _
  ·exact .p (.nile a)
 | vec how hb U9 U0 Va hr hty=>
  simp only [AV.dem]
  cases hD:D _
  ·obtain ⟨c',hb',hs'⟩:=U4.shape _ _ _ _ hD how hb;refine .vec (U4.ow _ _ hD how) hb' (hs'.trans U9) U0 (λ o=>Ex) (hr.mono U4.ev) hty
  ·exact .p (hr.mono U4.ev)
 | arr how hb U9 hn=>
  simp only [AV.dem]
  cases hD:D _
  ·obtain ⟨c',hb',hs'⟩:=U4.shape _ _ _ _ hD how hb;exact .arr (U4.ow _ _ hD how) hb' (hs'.trans U9) hn
  ·exact gX
 | ptr how=>
  simp only [AV.dem]
  cases hD:D _
  ·exact .ptr (U4.ow _ _ hD how)
  ·exact gX
 | bptrn how hb U9=>
  simp only [AV.dem]
  cases hD:D _
  ·obtain ⟨c',hb',hs'⟩:=U4.shape _ _ _ _ hD how hb;exact .bptrn (U4.ow _ _ hD how) hb' (hs'.trans U9)
  ·exact gX
 | bptr how hb U9=>
  simp only [AV.dem]
  cases hD:D _
  ·obtain ⟨c',hb',hs'⟩:=U4.shape _ _ _ _ hD how hb;exact .bptr (U4.ow _ _ hD how) hb' (hs'.trans U9)
  ·exact gX
 | rptr cf hc hr=>
  simp only [AV.dem];exact .rptr cf (λ j c h=>⟨(U4.ev _ _ (hc j c h).1).1,(U4.ev _ _ (hc j c h).1).2.trans (hc j c h).2⟩) (λ j c h=>(hr j c h).mono U4.ev)
 | tuple hl h ih=>
  simp only [AV.dem,lZ];refine .tuple (by grind) λ i c v h1 h2=>?_
  grind
 | func hl h ih=>
  simp only [AV.dem,lZ];refine .func (by grind) λ i c v h1 h2=>?_
  grind
 | mp how hb hn hd hk hv=>
  simp only [AV.dem]
  cases hD:D _
  ·exact .mp (U4.ow _ _ hD how) (U4.mp _ _ _ _ hD how hb) hn hd hk (λ i e kv h1 h2=>(hv i e kv h1 h2).mono U4.ev)
  ·exact gX
 | mpr how hb hn hd hk hv ih=>
  simp only [AV.dem]
  cases hD:D _
  ·exact .mpr (U4.ow _ _ hD how) (U4.mp _ _ _ _ hD how hb) hn hd hk (λ i e kv h1 h2=>by have:=ih i e kv h1 h2; rwa [H6 U4.lo] at this)
  ·exact gX
 | stkn tok sz=>
  simp only [AV.dem]
  cases D tok
  ·exact .stkn _ _
  ·exact gX
 | stke tok sz a=>
  simp only [AV.dem]
  cases D tok
  ·exact .stke _ _ _
  ·exact gX
 | stk how hb U9 Pn U0 Vh Va hr=>
  simp only [AV.dem]
  cases hD:D _
  ·exact .stk (U4.ow _ _ hD how) ((U4.stab _ _ _ hD how ((Va _).2 rfl)).trans hb) U9 Pn U0 Vh (λ o=>⟨λ h=>(Va o).1 (U4.tip _ _ o hD how h),λ h=>(U4.ev _ _ ((Va o).2 h)).1⟩) (λ i x j p h1 h2=>by obtain ⟨v,h3,h4⟩:=hr i x j p h1 h2; exact ⟨v,h3,h4.mono U4.ev⟩)
  ·exact gX
 | sem h1 h=>
  rename_i ts R v;simp only [AV.dem]
  cases hD:ts.any D
  ·exact .sem h1 (λ w2 g2 hev2=>h _ _ ((U4.evT hD).trans hev2))
  ·exact gX
 | it how hb hm=>
  simp only [AV.dem]
  cases hD:D _
  ·exact .it (U4.ow _ _ hD how) ((U4.stab _ _ _ hD how hm).trans hb) (U4.ev _ _ hm).1
  ·exact gX
 | vecp how hb U9 hcap U0 Va hr hty=>
  simp only [AV.dem]
  cases hD:D _
  ·obtain ⟨c',hb',hs'⟩:=U4.shape _ _ _ _ hD how hb;exact .vecp (U4.ow _ _ hD how) hb' (hs'.trans U9) hcap U0 (λ o=>Ex) (hr.mono U4.ev) hty
  ·exact gX
 | elp how hb hp Va=>
  simp only [AV.dem]
  cases hD:D _
  ·obtain ⟨c',hb',hs'⟩:=U4.shape _ _ _ _ hD how hb;exact .elp (U4.ow _ _ hD how) hb' O (λ o=>Ex)
  ·exact gX
theorem ARep.mono {w w':World}{g g':Gh}(U4:EvO (λ _=>false) w g w' g'){x:AV}{v:Value}(h:ARep w g x v):ARep w' g' x v:=by
 induction h with
 | undef v=>exact .undef _
 | p h=>exact .p (h.mono U4.ev)
 | agg hl h ih=>exact .agg hl ih
 | vecn tok sz ty=>exact .vecn _ _ _
 | vece tok sz a=>exact .vece _ _ _
 | vec how hb U9 U0 Va hr hty=>
  obtain ⟨c',hb',hs'⟩:=U4.shape _ _ _ _ rfl how hb;exact .vec (U4.ow _ _ rfl how) hb' (hs'.trans U9) U0 (λ o=>D4) (hr.mono U4.ev) hty
 | arr how hb U9 hn=>
  obtain ⟨c',hb',hs'⟩:=U4.shape _ _ _ _ rfl how hb;exact .arr (U4.ow _ _ rfl how) hb' (hs'.trans U9) hn
 | ptr how=>exact .ptr (U4.ow _ _ Z how)
 | bptrn how hb U9=>
  obtain ⟨c',hb',hs'⟩:=U4.shape _ _ _ _ rfl how hb;exact .bptrn (U4.ow _ _ rfl how) hb' (hs'.trans U9)
 | bptr how hb U9=>
  obtain ⟨c',hb',hs'⟩:=U4.shape _ _ _ _ rfl how hb;exact .bptr (U4.ow _ _ rfl how) hb' (hs'.trans U9)
 | rptr cf hc hr=>exact .rptr cf (λ j c h=>⟨(U4.ev _ _ (hc j c h).1).1,(U4.ev _ _ (hc j c h).1).2.trans (hc j c h).2⟩) (λ j c h=>(hr j c h).mono U4.ev)
 | tuple hl h ih=>exact .tuple hl ih
 | func hl h ih=>exact .func hl ih
 | mp how hb hn hd hk hv=>exact .mp (U4.ow _ _ Z how) (U4.mp _ _ _ _ Z how hb) hn hd hk (λ i e kv h1 h2=>(hv i e kv h1 h2).mono U4.ev)
 | mpr how hb hn hd hk hv ih=>exact .mpr (U4.ow _ _ Z how) (U4.mp _ _ _ _ Z how hb) hn hd hk ih
 | stkn tok sz=>exact .stkn _ _
 | stke tok sz a=>exact .stke _ _ _
 | stk how hb U9 Pn U0 Vh Va hr=>
  exact .stk (U4.ow _ _ rfl how) ((U4.stab _ _ _ rfl how ((Va _).2 rfl)).trans hb) U9 Pn U0 Vh (λ o=>⟨λ h=>(Va o).1 (U4.tip _ _ o rfl how h),λ h=>(U4.ev _ _ ((Va o).2 h)).1⟩) (λ i x j p h1 h2=>by obtain ⟨v,h3,h4⟩:=hr i x j p h1 h2; exact ⟨v,h3,h4.mono U4.ev⟩)
 | sem h1 h=>exact .sem h1 (λ w2 g2 hev2=>h _ _ ((U4.evT (by grind)).trans hev2))
 | it how hb hm=>exact .it (U4.ow _ _ Z how) ((U4.stab _ _ _ Z how hm).trans hb) (U4.ev _ _ hm).1
 | vecp how hb U9 hcap U0 Va hr hty=>
  obtain ⟨c',hb',hs'⟩:=U4.shape _ _ _ _ rfl how hb;exact .vecp (U4.ow _ _ rfl how) hb' (hs'.trans U9) hcap U0 (λ o=>D4) (hr.mono U4.ev) hty
 | elp how hb hp Va=>
  obtain ⟨c',hb',hs'⟩:=U4.shape _ _ _ _ rfl how hb;exact .elp (U4.ow _ _ rfl how) hb' O (λ o=>D4)
structure AS where
 sl:List (Nat×AV)
 ob:List (Nat×List AV)
def AS.get (s:AS)(i:Nat):AV:=(look s.sl i).getD .undef
def AS.put (s:AS)(dst:Option Nat)(x:AV):AS :=
 match dst with
 | some d=>{ s with sl:=(d,x)::s.sl }
 | none=>s
def jJ (w:World)(g:Gh)(id:Nat)(cs:List AV):Prop :=∃ b c e,g.ow id=some b/\w.heap[b]? = some (.cells c e (0,0))/\cs.length<=c.size/\(∀ o,¬ g.st b o) /\ ∀ (i:Nat) x,cs[i]? = some x->∃ v,c[i]? = some v/\ARep w g x v
structure Base where
 w:World
 st:Nat->Nat->Prop
 ow:Nat->Option Nat
 gl:mN w st
 lo:∀ i b,ow i=some b->i<MZ
 df:List Deferred
def kS (ow:Nat->Option Nat)(w w':World):Prop:=∀ (i b:Nat) (c:Array Value) (e:TypeId),M1<=i->ow i=some b->w.heap[b]? = some (.cells c e (0,0))->∃ c':Array Value,w'.heap[b]? = some (.cells c' e (0,0))/\c'.size=c.size
theorem kS.refl (ow:Nat->Option Nat)(w:World):kS ow w w:=λ _ _ c _ _ _ h=>⟨c,h,Z⟩
theorem kS.next {ow:Nat->Option Nat}{w w' w'':World}(h:kS ow w w')
  (k:∀ (i b:Nat) (c:Array Value) (e:TypeId),M1<=i->ow i=some b->w'.heap[b]? = some (.cells c e (0,0))->∃ c':Array Value,w''.heap[b]? = some (.cells c' e (0,0))/\c'.size=c.size):kS ow w w'':=by
 intro i b c e h1 h2 h3;obtain ⟨c1,h4,h5⟩:=h i b c e h1 h2 h3
 grind
def tb (w w':World):Prop:=(∀ (b:Nat) (c:Array Value) (e:TypeId),w.heap[b]? = some (.cells c e (0,0))->∃ c':Array Value,w'.heap[b]? = some (.cells c' e (0,0))/\c'.size=c.size) /\ ∀ (b:Nat) (o:Obj),w.heap.size<=b->w'.heap[b]? = some o->∃ c e,o=.cells c e (0,0)
theorem tb.refl (w:World):tb w w:=⟨λ _ c _ h=>⟨c,h,Z⟩,λ b o h1 h2=>absurd (Array.getElem?_eq_some_iff.1 h2).1 (Nat.not_lt.2 h1)⟩
theorem tb.trans {w w' w'':World}(h:tb w w')(k:tb w' w''):tb w w'':=by
 refine ⟨λ b c e hb=>?_,λ b o h1 h2=>?_⟩
 ·obtain ⟨c1,h1,h2⟩:=h.1 b c e hb;obtain ⟨c2,h3,h4⟩:=k.1 b c1 e h1
  grind
 ·by_cases h3:b<w'.heap.size
  ·obtain ⟨c,e,h4⟩:=h.2 b w'.heap[b] h1 (by grind);obtain ⟨c2,h5,_⟩:=k.1 b c e (by grind)
   grind
  ·exact k.2 b o (Nat.le_of_not_lt h3) h2
structure St (n:Nat)(w0:Base)(F:Nat->Prop)(g:Gh)(s:AS)(a:Act)(w:World):Prop where
 nd:a.defers=w0.df
 sz:a.tmps.size=n
 sl:∀ i,ARep w g (s.get i) (a.tmps.getD i Go.undef)
 ob:∀ id cs,look s.ob id=some cs->jJ w g id cs
 inj:∀ i j b,g.ow i=some b->g.ow j=some b->i=j
 own:∀ i b,g.ow i=some b->b<w.heap.size/\¬ F b
 lt:∀ b o,g.st b o->b<w.heap.size
 fl:∀ b,F b->b<w0.w.heap.size
 fr:∀ b,F b->w.heap[b]? = w0.w.heap[b]?
 os:w.os=w0.w.os
 out:w.output=w0.w.output
 tape:w.tape=w0.w.tape
 size:w0.w.heap.size<=w.heap.size
 stf:∀ b,F b->∀ o,g.st b o↔w0.st b o
 owf:∀ i,M1<=i->i<MZ->g.ow i=w0.ow i
 shf:kS w0.ow w0.w w
 nst:∀ i b,M1<=i->w0.ow i=some b->∀ o,¬ g.st b o
 ev0:Ev w0.w w0.st w g.st
theorem St.ok0 {n:Nat}{w0:Base}{F:Nat->Prop}{g:Gh}{s:AS}{a:Act}{w:World}(h:St n w0 F g s a w):Ok0 w g.st:=⟨h.lt,w0.gl.mono h.ev0⟩
theorem aZ {α:Type}(j i:Nat)(v:α)(r:List (Nat×α)):look ((j,v)::r) i=if j=i then some v else look r i:=by
 simp_all [look]
theorem St.put {n:Nat}{w0:Base}{w:World}{F:Nat->Prop}{g:Gh}{s:AS}{a:Act}(h:St n w0 F g s a w){d:Option Nat}(hd:∀ t,d=some t->t<n)
  {x:AV} {v:Value} (hx:ARep w g x v):St n w0 F g (s.put d x) (a.put d v) w:=by
 cases d with
 | none=>exact h
 | some t=>
  have ht:=hd t rfl;refine { h with sz:=by simpa [Act.put] using h.sz,sl:=λ i=>?_,nd:=h.nd };simp only [AS.get,AS.put,aZ,Act.put];by_cases e:t=i
  ·subst e;have:t<a.tmps.size:=by rw [h.sz]; exact ht
   simp_all
  ·have h2:=h.sl i
   simp_all [AS.get]
def AV.sub (x y:AV):Prop:=∀ w g v,ARep w g x v->ARep w g y v
theorem AV.sub_refl (x:AV):x.sub x:=λ _ _ _ h=>h
theorem AV.sub_of_eq {x y:AV}(h:x=y):x.sub y:=h ▸ AV.sub_refl x
theorem AV.sub_undef (x:AV):x.sub .undef:=λ _ _ _ _=>.undef _
theorem PRep.nil_inv {w:World}{st:Nat->Nat->Prop}{v:Value}(h:PRep w st (.slice []) v) :
  v=.slice none 0 0\/∃ a cap,v=.slice (some a) 0 cap:=by
 cases h with
 | nils=>grind
 | nile a=>grind
 | slice sz cf hcap U0 Vh hc hr=>grind
theorem AV.sub_vec (tok sz ty:Nat)(es:List PV):(AV.vec tok sz ty es).sub (.p (.slice es)):=by
 intro w g v h
 cases h with
 | vecn=>exact .p .nils
 | vece _ _ a=>exact .p (.nile a)
 | vec how hb U9 U0 Va hr hty=>exact .p hr
theorem AV.sub_nilv:(AV.p (.val (.slice none 0 0))).sub (.p (.slice [])):=by
 intro w g v h
 cases h with
 | p h=>cases h; exact .p .nils
theorem AV.sub_nilvec (tok sz ty:Nat):(AV.p (.val (.slice none 0 0))).sub (.vec tok sz ty []):=by
 intro w g v h
 cases h with
 | p h=>cases h; exact .vecn _ _ _
structure AS.le (s t:AS):Prop where
 sl:∀ j x,look t.sl j=some x->(s.get j).sub x
 ob:∀ id cs,look t.ob id=some cs->∃ ds,look s.ob id=some ds/\cs.length<=ds.length/\∀ (i:Nat) c d,cs[i]? = some c->ds[i]? = some d->d.sub c
theorem St.weaken {n:Nat}{w0:Base}{w:World}{F:Nat->Prop}{g:Gh}{s t:AS}{a:Act}(h:St n w0 F g s a w)(hle:s.le t):St n w0 F g t a w:=by
 refine { h with sl:=λ i=>?_,ob:=λ id cs hc=>?_ }
 ·unfold AS.get
  cases ht:look t.sl i with
  | none=>exact .undef _
  | some x=>exact hle.sl i x ht _ _ _ (h.sl i)
 ·obtain ⟨ds,h1,h2,h3⟩:=hle.ob id cs hc;obtain ⟨b,c,e,k1,k2,k3,k4,k5⟩:=h.ob id ds h1;refine ⟨b,c,e,k1,k2,by omega,k4,λ i x hx=>?_⟩
  have hi:i<ds.length:=by
   grind
  obtain ⟨v,hv,hr⟩:=k5 i ds[i] (List.getElem?_eq_getElem hi);exact ⟨v,hv,h3 i x _ hx (by grind) _ _ _ hr⟩
theorem tK (h:p:=by simp [AS.get,hv]):p:=h
inductive TK where
 | bool|int (k:IntKind)|string|ptr (e:Nat)|slice (e:Nat)|array (len e:Nat)|struct (fs:List (Nat×Nat))|iface|map (k e:Nat)|other
def kindOf:TypeDesc->TK|.bool=>.bool|.int k=>.int k|.string=>.string|.pointer e=>.ptr e|.slice e=>.slice e|.array n e=>.array n e|.struct fs=>.struct (fs.toList.map λ f=>(f.offset,f.type))|.interface _=>.iface|.map k e=>.map k e|_=>.other
structure TI where
 k:TK
 size:Nat
 bytes:Nat
 zero:List Value
def tyOk (P:Program)(t:Nat)(i:TI):Prop :=(P.underlying t).map kindOf=some i.k/\(P.info? t).map (λ j=>(j.size,j.bytes,j.zero.map (·.cells.toList)))=some (i.size,i.bytes,some i.zero)
def dp (P:Program):List (Nat×TI)->Prop|[]=>True|(t,i)::r=>tyOk P t i/\dp P r
structure Cx where
 P:Program
 tt:List (Nat×TI)
 good:dp P tt
 n:Nat
 nl:Nat.ble n M1=true
 w0:Base
 F:Nat->Prop
def awp (C:Cx)(c:Code)(Q:Exit->AS->Prop)(s:AS):Prop :=∀ g a w,St C.n C.w0 C.F g s a w->c.wp C.P (λ e a' w'=>∃ g' s',St C.n C.w0 C.F g' s' a' w'/\Q e s') a w
def rwp (C:Cx)(ops:Array Oper)(l:List Nat)(K:AS->Prop)(s:AS):Prop :=∀ g a w,St C.n C.w0 C.F g s a w->wpOps C.P ops (λ e a' w'=>e=.normal/\∃ g' s',St C.n C.w0 C.F g' s' a' w'/\K s') l a w
def bu (C:Cx)(o:Oper)(K:AS->Prop)(s:AS):Prop :=∀ g a w,St C.n C.w0 C.F g s a w->o.wp C.P a w (λ a' w'=>∃ g' s',St C.n C.w0 C.F g' s' a' w'/\K s') (λ _ _ _=>False)
theorem oH {P:Program}{o:Oper}{a:Act}{next next':Act->World->Prop}{Q Q':Exit->Act->World->Prop}{r:Result Next}
  (hn:∀ a w,next a w->next' a w) (hq:∀ e a w,Q e a w->Q' e a w) (h:o.upon P a next Q r):o.upon P a next' Q' r:=by
 cases r with
 | halt x w=>
  cases x <;> simp only [Oper.upon] at h ⊢
  grind
 | ok x w=>
  cases x <;> simp only [Oper.upon] at h ⊢
  case value v=>grind
  case skip=>grind
  case defer d=>grind
  case enter f args=>
   refine h.mono λ e w' h=>?_
   cases e with
   | returned v=>grind
   | panicked c=>grind
   | outgrown=>obtain ⟨a0,w1,h⟩:=h; exact ⟨a0,w1,hq _ _ _ h⟩
  case row r args=>exact h.mono λ v w' h=>hn _ _ h
theorem bu.mono {C:Cx}{o:Oper}{K K':AS->Prop}{s:AS}(hk:∀ s,K s->K' s)(h:bu C o K s):bu C o K' s :=
 λ g a w hs=>oH (by grind) (λ _ _ _ h=>h) (h g a w hs)
def uE (K:AS->Prop)(Q:Exit->AS->Prop):Exit->AS->Prop|.normal,s=>K s|e,s=>Q e s
def lY (id:Nat)(Q:Exit->AS->Prop):Exit->AS->Prop|.exit id',s=>if id'=id then Q .normal s else Q (.exit id') s|e,s=>Q e s
theorem ru {C:Cx}{c:Code}{Q Q':Exit->AS->Prop}{s:AS}(hq:∀ e s,Q e s->Q' e s)(h:awp C c Q s):awp C c Q' s :=
 λ g a w hs=>wp_mono (h g a w hs) (by grind)
theorem qR {C:Cx}{x y:Code}{Q:Exit->AS->Prop}{s:AS}(h:awp C x (uE (awp C y Q) Q) s):awp C (.seq x y) Q s:=by
 intro g a w hs;refine wp_seq (wp_mono (h g a w hs) ?_);rintro e a' w' ⟨g',s',h1,h2⟩
 cases e with
 | normal=>exact h2 g' a' w' h1
 | exit id=>exact ⟨g',s',h1,h2⟩
 | goto l=>exact ⟨g',s',h1,h2⟩
 | ret=>exact ⟨g',s',h1,h2⟩
 | panic ch=>exact ⟨g',s',h1,h2⟩
 | outgrown=>exact ⟨g',s',h1,h2⟩
theorem IM {C:Cx}{id:Nat}{c:Code}{Q:Exit->AS->Prop}{s:AS}(h:awp C c (lY id Q) s):awp C (.block id c) Q s:=by
 intro g a w hs;refine wp_block (wp_mono (h g a w hs) ?_);rintro e a' w' ⟨g',s',h1,h2⟩
 cases e with
 | exit id'=>
  grind [lY,Exit.inBlock]
 | normal=>exact ⟨g',s',h1,h2⟩
 | goto l=>exact ⟨g',s',h1,h2⟩
 | ret=>exact ⟨g',s',h1,h2⟩
 | panic ch=>exact ⟨g',s',h1,h2⟩
 | outgrown=>exact ⟨g',s',h1,h2⟩
theorem xn {C:Cx}{Q:Exit->AS->Prop}{s:AS}(h:Q .normal s):awp C .skip Q s :=
 λ g a w hs=>wp_skip ⟨g,s,hs,h⟩
theorem IF {C:Cx}{l:Nat}{Q:Exit->AS->Prop}{s:AS}(h:Q .normal s):awp C (.label l) Q s :=
 λ g a w hs=>wp_label ⟨g,s,hs,h⟩
theorem M5 {C:Cx}{id:Nat}{Q:Exit->AS->Prop}{s:AS}(h:Q (.exit id) s):awp C (.exit id) Q s :=
 λ g a w hs=>wp_exit ⟨g,s,hs,h⟩
theorem AG {C:Cx}{Q:Exit->AS->Prop}{s:AS}(h:Q .ret s):awp C .ret Q s :=
 λ g a w hs=>wp_ret ⟨g,s,hs,h⟩
def cst:Value->PV|.agg vs=>.agg (vs.toList.map .val)|v=>.val v
def AS.ev (s:AS):Operand->AV|.tmp t=>s.get t|.const v=>.p (cst v)|.global g=>((uG g).map .rptr).getD .undef|.func f=>.func (.func f) []
theorem QA (w:World)(st:Nat->Nat->Prop)(v:Value):PRep w st (cst v) v:=by
 unfold cst;split
 ·rename_i vs;refine .agg G λ i c v h1 h2=>?_;simp only [List.getElem?_map,Array.getElem?_toList,h2,Option.map_some,bx] at h1;subst h1;exact .val _
 ·exact .val _
theorem M6 {n:Nat}{w0:Base}{w:World}{F:Nat->Prop}{g:Gh}{s:AS}{a:Act}(h:St n w0 F g s a w)(x:Operand):ARep w g (s.ev x) (a.eval x):=by
 cases x with
 | tmp t=>exact h.sl t
 | const v=>exact .p (QA _ _ _)
 | global q=>
  simp only [AS.ev]
  cases h2:uG q with
  | none=>exact .undef _
  | some cs=>
   have hg:=w0.gl.mono h.ev0;refine .rptr (λ j=>(w.cell? ⟨q,j,none⟩).getD Go.undef) (λ j c hc=>?_) (λ j c hc=>?_)
   ·obtain ⟨k1,v,k2,k3⟩:=(hg q cs h2).1 j c hc
    grind
   ·obtain ⟨k1,v,k2,k3⟩:=(hg q cs h2).1 j c hc
    grind
 | func f=>exact .func Z (λ i c v h=>by simp at h)
theorem wz {w:World}{g:Gh}{x v:Value}(h:ARep w g (.p (.val x)) v):v=x:=by
 cases h with
 | p h=>cases h; rfl
theorem Tu {n:Nat}{w0:Base}{w:World}{F:Nat->Prop}{g:Gh}{s:AS}{a:Act}(h:St n w0 F g s a w){x:Operand}{v:Value}(hx:s.ev x=.p (.val v)):a.eval x=v:=by
 have:=M6 h x
 grind [wz]
theorem xc {C:Cx}{c:Operand}{x y:Code}{Q:Exit->AS->Prop}{s:AS}{b:Bool}(hc:s.ev c=.p (.val (.bool b)))
  (h1:b=true->awp C x Q s) (h2:b=false->awp C y Q s):awp C (.cond c x y) Q s:=by
 intro g a w hs;have he:=Tu hs hc
 cases b
 ·exact wp_cond_false he (h2 Z g a w hs)
 ·exact wp_cond_true he (h1 Z g a w hs)
theorem LV {C:Cx}{c:Operand}{x y:Code}{Q:Exit->AS->Prop}{s:AS}{b:Bool}(hc:s.ev c=.p (.val (.bool b)))(hb:b=true)
  (h1:awp C x Q s):awp C (.cond c x y) Q s:=xc hc (λ _=>h1) (λ h=>by grind)
theorem HX {C:Cx}{c:Operand}{x y:Code}{Q:Exit->AS->Prop}{s:AS}{b:Bool}(hc:s.ev c=.p (.val (.bool b)))(hb:b=false)
  (h1:awp C y Q s):awp C (.cond c x y) Q s:=xc hc (λ h=>by grind) (λ _=>h1)
theorem EX {C:Cx}{id:Nat}{ops:Array Oper}{Q:Exit->AS->Prop}{s:AS}{l:List Nat}(hl:List.range ops.size=l)
  (h:rwp C ops l (Q .normal) s):awp C (.region id ops false) Q s:=by
 intro g a w hs;refine wp_region ?_;rw [hl];have:=h g a w hs
 have mono:∀ (l:List Nat) (a:Act) (w:World) (Q1 Q2:Exit->Act->World->Prop),(∀ e a w,Q1 e a w->Q2 e a w)->wpOps C.P ops Q1 l a w->wpOps C.P ops Q2 l a w:=by
  intro l
  induction l with
  | nil=>intro a w Q1 Q2 h12 h; exact h12 _ _ _ h
  | cons i r ih=>
   intro a w Q1 Q2 h12 h;simp only [wpOps] at h ⊢
   cases ho:ops[i]? with
   | none=>grind
   | some o=>
    simp only [ho] at h;dsimp only;split
    ·rename_i hw;rw [if_pos hw] at h;rcases h with h|⟨h,a0,w1,hq⟩
     ·exact .inl (oH (λ a w h=>ih a w _ _ h12 h) h12 h)
     ·exact .inr ⟨h,a0,w1,h12 _ _ _ hq⟩
    grind
 grind
theorem qF {C:Cx}{ops:Array Oper}{K:AS->Prop}{s:AS}(h:K s):rwp C ops [] K s :=
 λ g a w hs=>⟨Z,g,s,hs,h⟩
theorem LM {C:Cx}{ops:Array Oper}{K:AS->Prop}{s:AS}{i:Nat}{r:List Nat}{o:Oper}(ho:ops[i]? = some o)(hg:o.guard=none)
  (h:bu C o (rwp C ops r K) s):rwp C ops (i::r) K s:=by
 intro g a w hs;simp only [wpOps,ho,Region.wanted,hg,if_true];exact .inl (oH (λ a' w' ⟨g',s',h1,h2⟩=>h2 g' a' w' h1) (λ _ _ _ h=>h.elim) (h g a w hs))
theorem ya {n:Nat}{w0:Base}{w:World}{F:Nat->Prop}{g:Gh}{s:AS}{a:Act}(hs:St n w0 F g s a w){ops:Array Oper}{j t:Nat}(hj:(ops[j]?).bind (·.dst)=some t)
  {b:Bool} (hv:s.get t=.p (.val (.bool b))):yielded ops a.tmps j=some b:=by
 have h1:=hs.sl t;rw [hv] at h1;have h2:=wz h1;simp only [yielded,hj,rg];rw [Array.getD_eq_getD_getElem?] at h2
 grind [Go.undef]
theorem vj {C:Cx}{ops:Array Oper}{K:AS->Prop}{s:AS}{i:Nat}{r:List Nat}{o:Oper}{j:Nat}{want:Bool}{t:Nat}{b:Bool}(ho:ops[i]? = some o)(hg:o.guard=some (j,want))
  (hj:(ops[j]?).bind (·.dst)=some t) (hv:s.get t=.p (.val (.bool b))) (hd:∀ t,o.dst=some t->t<C.n)
  (h1:b=want->bu C o (rwp C ops r K) s) (h2:b=!want->rwp C ops r K (s.put o.dst (.p (.val Go.undef)))):rwp C ops (i::r) K s:=by
 intro g a w hs;have hy:=ya hs hj hv;simp only [wpOps,ho,Region.wanted,hg,hy];by_cases e:b=want
 ·subst e;simp only [BEq.rfl,if_true];exact .inl (oH (λ a' w' ⟨g',s',h1,h2⟩=>h2 g' a' w' h1) (λ _ _ _ h=>h.elim) (h1 rfl g a w hs))
 ·have e2:b=!want:=by
   cases b <;> cases want <;> first|rfl|grind
  have e3:(some b==some want)=false:=by
   grind
  rw [e3];simp only [Bool.false_eq_true,if_false];exact h2 e2 g _ w (hs.put hd (.p (.val _)))
theorem sY {C:Cx}{ops:Array Oper}{K:AS->Prop}{s:AS}{i:Nat}{r:List Nat}{o:Oper}{j:Nat}{want:Bool}{t:Nat}{b:Bool}(ho:ops[i]? = some o)(hg:o.guard=some (j,want))
  (hj:(ops[j]?).bind (·.dst)=some t) (hv:s.get t=.p (.val (.bool b))) (hb:b=want)
  (h1:bu C o (rwp C ops r K) s):rwp C ops (i::r) K s:=by
 intro g a w hs;have hy:=ya hs hj hv;simp only [wpOps,ho,Region.wanted,hg,hy];subst hb;simp only [BEq.rfl,if_true];exact .inl (oH (λ a' w' ⟨g',s',h1,h2⟩=>h2 g' a' w' h1) (λ _ _ _ h=>h.elim) (h1 g a w hs))
theorem Ai {C:Cx}{ops:Array Oper}{K:AS->Prop}{s:AS}{i:Nat}{r:List Nat}{o:Oper}{j:Nat}{want:Bool}{t:Nat}{b:Bool}(ho:ops[i]? = some o)(hg:o.guard=some (j,want))
  (hj:(ops[j]?).bind (·.dst)=some t) (hv:s.get t=.p (.val (.bool b))) (hb:b=!want) (hd:∀ t,o.dst=some t->t<C.n)
  (h2:rwp C ops r K (s.put o.dst (.p (.val Go.undef)))):rwp C ops (i::r) K s :=
 vj ho hg hj hv hd (λ e=>by grind) (λ _=>h2)
theorem rO {C:Cx}{ops:Array Oper}{K:AS->Prop}{s:AS}{i:Nat}{r:List Nat}{o:Oper}{j:Nat}{want:Bool}{t:Nat}(ho:ops[i]? = some o)(hg:o.guard=some (j,want))
  (hj:(ops[j]?).bind (·.dst)=some t) (hv:s.get t=.p (.val Go.undef)) (hd:∀ t,o.dst=some t->t<C.n)
  (h2:rwp C ops r K (s.put o.dst (.p (.val Go.undef)))):rwp C ops (i::r) K s:=by
 intro g a w hs;have h1:=hs.sl t;rw [hv] at h1;have h3:=wz h1
 have hy:yielded ops a.tmps j=none:=by
  simp only [yielded,hj,rg];rw [Array.getD_eq_getD_getElem?] at h3
  cases h4:a.tmps[t]? with
  | none=>rfl
  | some v=>rw [h4] at h3; simp only [Option.getD_some] at h3; subst h3; rfl
 simp only [wpOps,ho,Region.wanted,hg,hy];rw [if_neg G];exact h2 g _ w (hs.put hd (.p (.val _)))
def iH (C:Cx)(ops:Array Oper)(rest:List Oper)(K:AS->Prop)(s:AS):Prop :=∀ k,ops.toList.drop k=rest->rwp C ops (List.range' k rest.length) K s
theorem tX {C:Cx}{id:Nat}{ops:Array Oper}{Q:Exit->AS->Prop}{s:AS}(h:iH C ops ops.toList (Q .normal) s):awp C (.region id ops false) Q s:=by
 refine EX (l:=List.range' 0 ops.toList.length) ?_ (h 0 Z)
 grind [List.range_eq_range']
theorem rN {C:Cx}{ops:Array Oper}{K:AS->Prop}{s:AS}(h:K s):iH C ops [] K s :=
 λ _ _=>qF h
theorem drop_at {ops:Array Oper}{k:Nat}{o:Oper}{r:List Oper}(h:ops.toList.drop k=o::r):ops[k]? = some o/\ops.toList.drop (k+1)=r:=by
 grind [List.head?_drop,List.tail_drop]
theorem ni {C:Cx}{ops:Array Oper}{K:AS->Prop}{s:AS}{r:List Oper}{o:Oper}(hg:o.guard=none)
  (h:bu C o (iH C ops r K) s):iH C ops (o::r) K s:=by
 intro k hk;obtain ⟨h1,h2⟩:=drop_at hk;rw [aq,List.range'_succ];exact LM h1 hg (h.mono λ s h=>h (k+1) h2)
theorem FH {C:Cx}{ops:Array Oper}{K:AS->Prop}{s:AS}{r:List Oper}{o:Oper}{j:Nat}{want:Bool}{t:Nat}{b:Bool}(hg:o.guard=some (j,want))
  (hj:(ops.toList[j]?).bind (·.dst)=some t) (hv:look s.sl t=some (.p (.val (.bool b)))) {d:Nat} (hd:o.dst=some d) (hn:Nat.blt d C.n=true)
  (h1:b=want->bu C o (iH C ops r K) s) (h2:b=!want->iH C ops r K ⟨(d,.p (.val Go.undef))::s.sl,s.ob⟩):iH C ops (o::r) K s:=by
 intro k hk;obtain ⟨h3,h4⟩:=drop_at hk;rw [aq,List.range'_succ];refine vj h3 hg (t:=t) (b:=b) (by grind) tK (λ t ht=>by simp_all) (λ e=>(h1 e).mono λ s h=>h (k+1) h4) (λ e=>?_);have:=h2 e (k+1) h4;rw [hd];exact this
theorem xl {C:Cx}{ops:Array Oper}{K:AS->Prop}{s:AS}{r:List Oper}{o:Oper}{j:Nat}{want:Bool}{t:Nat}{b:Bool}(hg:o.guard=some (j,want))
  (hj:(ops.toList[j]?).bind (·.dst)=some t) (hv:look s.sl t=some (.p (.val (.bool b)))) (hb:b=want)
  (h1:bu C o (iH C ops r K) s):iH C ops (o::r) K s:=by
 intro k hk;obtain ⟨h3,h4⟩:=drop_at hk;rw [aq,List.range'_succ];exact sY h3 hg (t:=t) (b:=b) (by grind) tK hb (h1.mono λ s h=>h (k+1) h4)
theorem yH {C:Cx}{ops:Array Oper}{K:AS->Prop}{s:AS}{r:List Oper}{o:Oper}{j:Nat}{want:Bool}{t:Nat}{b:Bool}(hg:o.guard=some (j,want))
  (hj:(ops.toList[j]?).bind (·.dst)=some t) (hv:look s.sl t=some (.p (.val (.bool b)))) (hb:b=!want) {d:Nat} (hd:o.dst=some d) (hn:Nat.blt d C.n=true)
  (h2:iH C ops r K ⟨(d,.p (.val Go.undef))::s.sl,s.ob⟩):iH C ops (o::r) K s :=
 FH hg hj hv hd hn (λ e=>by grind) (λ _=>h2)
theorem wj {C:Cx}{ops:Array Oper}{K:AS->Prop}{s:AS}{r:List Oper}{o:Oper}{j:Nat}{want:Bool}{t:Nat}(hg:o.guard=some (j,want))
  (hj:(ops.toList[j]?).bind (·.dst)=some t) (hv:look s.sl t=some (.p (.val Go.undef))) {d:Nat} (hd:o.dst=some d) (hn:Nat.blt d C.n=true)
  (h2:iH C ops r K ⟨(d,.p (.val Go.undef))::s.sl,s.ob⟩):iH C ops (o::r) K s:=by
 intro k hk;obtain ⟨h3,h4⟩:=drop_at hk;rw [aq,List.range'_succ];refine rO h3 hg (t:=t) (by grind) tK (λ t ht=>by simp_all) ?_;have:=h2 (k+1) h4;rw [hd];exact this
structure After (w:World)(st:Nat->Nat->Prop)(w':World)(g':Gh):Prop where
 os:w'.os=w.os
 out:w'.output=w.output
 tape:w'.tape=w.tape
 size:w.heap.size<=w'.heap.size
 fr:∀ b,b<w.heap.size->w'.heap[b]? = w.heap[b]?
 own:∀ i b,g'.ow i=some b->w.heap.size<=b/\b<w'.heap.size
 inj:∀ i j b,g'.ow i=some b->g'.ow j=some b->i=j
 lt:∀ b o,g'.st b o->b<w'.heap.size
 stf:∀ b,b<w.heap.size->∀ o,g'.st b o↔st b o
def bA (P:Program)(f:FuncId)(args:List PV)(R:AV->Prop):Prop :=∀ (w:World) (st:Nat->Nat->Prop) (vs:Array Value),Ok0 w st->vs.size=args.length -> (∀ (i:Nat) c v,args[i]? = some c->vs[i]? = some v->PRep w st c v) -> Calls P f vs w λ e w'=>∃ v r g',e=.returned v/\R r/\ARep w' g' r v/\After w st w' g'
theorem bA.mono {P:Program}{f:FuncId}{args:List PV}{R R':AV->Prop}(h:bA P f args R)(hr:∀ r,R r->R' r):bA P f args R' :=
 λ w st vs h0 h1 h2=>(h w st vs h0 h1 h2).mono (by grind)
theorem bA.sub {P:Program}{f:FuncId}{args:List PV}{r r':AV}(h:bA P f args (·=r))(hr:r.sub r'):bA P f args (·=r') :=
 λ w st vs h0 h1 h2=>(h w st vs h0 h1 h2).mono λ e w' ⟨v,_,g',h3,h4,h5,h6⟩=>⟨v,r',g',h3,Z,hr _ _ _ (h4 ▸ h5),h6⟩
def tg:List AV->AV|[x]=>x|l=>.tuple l
def Ap (tmps:Array Value):ResultVar->Sem Value
 | .tmp t=>pure (tmps.getD t Go.undef)
 | .cell c t=>do loadVar t (<- asAddr (tmps.getD c Go.undef))
theorem xj (fn:Func)(tmps:Array Value):results fn tmps=(do let vs <- fn.results.mapM (Ap tmps); pure (if h:vs.size=1 then vs[0] else .tuple vs)):=rfl
def ut (args:List PV):List (Nat×AV):=(args.zipIdx).map λ (x,i)=>(i,.p x)
theorem dp.at {P:Program}:∀ {tt:List (Nat×TI)},dp P tt->∀ {t:Nat} {i:TI},look tt t=some i->tyOk P t i
 | [],_,_,_,h=>by simp [look] at h
 | (u,j)::r,hg,t,i,h=>by
  rw [aZ] at h;split at h
  ·rename_i e; subst e; cases h; exact hg.1
  ·exact dp.at hg.2 h
theorem yK (args:List PV):∀ (k i:Nat),look ((args.zipIdx k).map λ (x,i)=>(i,AV.p x)) i=if k<=i then (args[i-k]?).map .p else none:=by
 induction args with
 | nil=>simp_all [look]
 | cons x r ih=>
  grind [List.zipIdx_cons,aZ]
theorem tj (h:p:=by grind [nB]):p:=h
def R8:Value->Option PV|.slice none 0 0=>some (.val (.slice none 0 0))|.agg vs=>some (cst (.agg vs))|.bool b=>some (.val (.bool b))|.int k n=>some (.val (.int k n))|.string s=>some (.val (.string s))|.pointer none=>some (.val (.pointer none))|.nilFunc=>some (.val .nilFunc)|.nilIface=>some (.val .nilIface)|_=>none
def evo (sl:List (Nat×AV)):Operand->Option AV|.tmp t=>look sl t|.const v=>(R8 v).map .p|.func f=>some (.func (.func f) [])|.global g=>(uG g).map .rptr
theorem FX {v:Value}{x:PV}(h:R8 v=some x):cst v=x:=by
 unfold R8 at h;split at h <;> first|(cases h; rfl)|(cases h)
theorem bN {n:Nat}{w0:Base}{w:World}{F:Nat->Prop}{g:Gh}{sl:List (Nat×AV)}{ob:List (Nat×List AV)}{a:Act}(h:St n w0 F g ⟨sl,ob⟩ a w){x:Operand}{y:AV}
  (hx:evo sl x=some y):ARep w g y (a.eval x):=by
 have h1:=M6 h x
 cases x with
 | tmp t=>
  grind [evo,AS.ev,AS.get]
 | const v=>
  grind [evo,Option.map_eq_some_iff,AS.ev,FX]
 | func f=>simp only [evo,bx] at hx; subst hx; exact h1
 | global q=>
  grind [evo,AS.ev]
theorem cm {n:Nat}{w0:Base}{w:World}{F:Nat->Prop}{g:Gh}{sl:List (Nat×AV)}{ob:List (Nat×List AV)}{a:Act}(h:St n w0 F g ⟨sl,ob⟩ a w){x:Operand}{v:Value}
  (hx:evo sl x=some (.p (.val v))):a.eval x=v:=wz (bN h hx)
def str (l:List UInt8):ByteArray:=⟨l.toArray⟩
theorem nB (l:List UInt8):(str l).size=l.length:=by simp [str,ByteArray.size]
theorem Ea (l:List UInt8):(str l).toList=l:=ByteArray.toList_mk l
theorem D5 (a b:List UInt8):str a++str b=str (a++b):=by
 simp [str,ByteArray.ext_iff]
theorem Dh (l:List UInt8)(i j:Nat):(str l).extract i j=str ((l.take j).drop i):=by
 rw [ByteArray.ext_iff];simp only [str,ByteArray.data_extract]
 grind
theorem QX (l:List UInt8)(i:Nat):(str l)[i]? = l[i]?:=by
 by_cases h:i<l.length
 ·have h2:i<(str l).size:=by grind [nB]
  rw [getElem?_pos (str l) i h2,List.getElem?_eq_getElem h]; rfl
 grind [nB]
section
variable {C:Cx} {o:Oper} {K:AS->Prop} {sl:List (Nat×AV)} {ob:List (Nat×List AV)} {d:Nat}
theorem ok_one {y:AV}(hd:o.dst=some d)(hn:Nat.blt d C.n=true)
  (h:∀ g a w,St C.n C.w0 C.F g ⟨sl,ob⟩ a w->∃ v,(execOp a.eval o).run C.P w=.ok (.value v) w/\ARep w g y v)
  (hK:K ⟨(d,y)::sl,ob⟩):bu C o K ⟨sl,ob⟩:=by
 intro g a w hs;obtain ⟨v,h1,h2⟩:=h g a w hs;unfold Oper.wp;rw [h1];refine ⟨g,⟨(d,y)::sl,ob⟩,?_,hK⟩;have:=hs.put (d:=o.dst) (λ t ht=>by simp_all) h2;rw [hd] at this ⊢;exact this
theorem wC {x:Operand}{y:AV}(ho:o.op=.move x)(hd:o.dst=some d)(hn:Nat.blt d C.n=true)(hx:evo sl x=some y)
  (hK:K ⟨(d,y)::sl,ob⟩):bu C o K ⟨sl,ob⟩ :=
 ok_one hd hn (λ g a w hs=>⟨a.eval x,by simp [execOp,ho],bN hs hx⟩) hK
theorem oM {x:Operand}{y:AV}(ho:o.op=.assign x)(hd:o.dst=some d)(hn:Nat.blt d C.n=true)(hx:evo sl x=some y)
  (hK:K ⟨(d,y)::sl,ob⟩):bu C o K ⟨sl,ob⟩ :=
 ok_one hd hn (λ g a w hs=>⟨a.eval x,by simp [execOp,ho],bN hs hx⟩) hK
theorem Dl {x:Operand}(ho:o.op=.move x)(hd:o.dst=some d)(hn:Nat.blt d C.n=true)
  (hK:K ⟨(d,.undef)::sl,ob⟩):bu C o K ⟨sl,ob⟩ :=
 ok_one hd hn (λ g a w hs=>⟨a.eval x,by simp [execOp,ho],.undef _⟩) hK
theorem ou {c x y:Operand}{b:Bool}{z:AV}(ho:o.op=.pick c x y)(hd:o.dst=some d)(hn:Nat.blt d C.n=true)
  (hc:evo sl c=some (.p (.val (.bool b)))) (hb:b=true) (hx:evo sl x=some z) (hK:K ⟨(d,z)::sl,ob⟩):bu C o K ⟨sl,ob⟩ :=
 ok_one hd hn (λ g a w hs=>⟨a.eval x,by simp [execOp,ho,cm hs hc,asBool,hb],bN hs hx⟩) hK
theorem qe {c x y:Operand}{b:Bool}{z:AV}(ho:o.op=.pick c x y)(hd:o.dst=some d)(hn:Nat.blt d C.n=true)
  (hc:evo sl c=some (.p (.val (.bool b)))) (hb:b=false) (hx:evo sl y=some z) (hK:K ⟨(d,z)::sl,ob⟩):bu C o K ⟨sl,ob⟩ :=
 ok_one hd hn (λ g a w hs=>⟨a.eval y,by simp [execOp,ho,cm hs hc,asBool,hb],bN hs hx⟩) hK
def O2:BinOp->Int->Int->Option Bool|.eql,a,b=>some (decide (a=b))|.neq,a,b=>some (!decide (a=b))|.lss,a,b=>some (decide (a<b))|.leq,a,b=>some (decide (a<=b))|.gtr,a,b=>some (decide (b<a))|.geq,a,b=>some (decide (b<=a))|_,_,_=>none
theorem nG {P:Program}{w:World}(op:BinOp)(t:TypeId)(x y:Operand)(k k':IntKind)(a b:Int) :
  (eqGuard op t x y (.int k a) (.int k' b)).run P w=.ok () w:=by
 simp_all [eqGuard]
theorem HQ {P:Program}{w:World}{op:BinOp}{t:TypeId}{k:IntKind}{a b:Int}{c:Bool}(h:O2 op a b=some c) :
  (binOp op t (.int k a) (.int k b)).run P w=.ok (.bool c) w:=by
 cases op <;> simp only [O2,bx,reduceCtorEq] at h <;> subst h <;> simp [binOp,Op.intCmp] <;> rfl
theorem TO {op:BinOp}{t t':TypeId}{x y:Operand}{k:IntKind}{a b:Int}{c:Bool}(ho:o.op=.binOp op t x y t')(hd:o.dst=some d)(hn:Nat.blt d C.n=true)
  (hx:evo sl x=some (.p (.val (.int k a)))) (hy:evo sl y=some (.p (.val (.int k b)))) (hc:O2 op a b=some c)
  (hK:K ⟨(d,.p (.val (.bool c)))::sl,ob⟩):bu C o K ⟨sl,ob⟩ :=
 ok_one hd hn (λ g a w hs=>⟨_,by
  simp only [execOp,ho,cm hs hx,cm hs hy,Sem.run_bind,nG,Result.andThen_ok,HQ hc,Sem.run_pure],.p (.val _)⟩) hK
def arI:BinOp->Int->Int->Option Int|.add,a,b=>some (a+b)|.sub,a,b=>some (a-b)|.mul,a,b=>some (a*b)|_,_,_=>none
theorem M2 {P:Program}{w:World}{op:BinOp}{t:TypeId}{k:IntKind}{a b c:Int}(h:arI op a b=some c) :
  (binOp op t (.int k a) (.int k b)).run P w=.ok (.int k (k.wrap c)) w:=by
 cases op <;> simp only [arI,bx,reduceCtorEq] at h <;> subst h <;> simp [binOp,Op.intArith]
theorem NG {op:BinOp}{t t':TypeId}{x y:Operand}{k:IntKind}{a b c:Int}(ho:o.op=.binOp op t x y t')(hd:o.dst=some d)(hn:Nat.blt d C.n=true)
  (hx:evo sl x=some (.p (.val (.int k a)))) (hy:evo sl y=some (.p (.val (.int k b)))) (hc:arI op a b=some c)
  (hK:K ⟨(d,.p (.val (.int k (k.wrap c))))::sl,ob⟩):bu C o K ⟨sl,ob⟩ :=
 ok_one hd hn (λ g a w hs=>⟨_,by
  simp only [execOp,ho,cm hs hx,cm hs hy,Sem.run_bind,nG,Result.andThen_ok,M2 hc,Sem.run_pure],.p (.val _)⟩) hK
theorem gJ {op:BinOp}{t t':TypeId}{x y:Operand}{a b c:Int}(ho:o.op=.binOp op t x y t')(hd:o.dst=some d)(hn:Nat.blt d C.n=true)
  (hx:evo sl x=some (.p (.val (.int .i64 a)))) (hy:evo sl y=some (.p (.val (.int .i64 b)))) (hc:arI op a b=some c)
  (hw:-9223372036854775808<=c/\c<=9223372036854775807)
  (hK:K ⟨(d,.p (.val (.int .i64 c)))::sl,ob⟩):bu C o K ⟨sl,ob⟩ :=
 NG ho hd hn hx hy hc (by grind [IntWalk.i64_in])
theorem To {t:TypeId}{x:Operand}{b:Bool}(ho:o.op=.unOp .not t x)(hd:o.dst=some d)(hn:Nat.blt d C.n=true)
  (hx:evo sl x=some (.p (.val (.bool b)))) (hK:K ⟨(d,.p (.val (.bool (!b))))::sl,ob⟩):bu C o K ⟨sl,ob⟩ :=
 ok_one hd hn (λ g a w hs=>⟨_,by simp [execOp,ho,cm hs hx,Op.unary],.p (.val _)⟩) hK
theorem bU {P:Program}{tt:List (Nat×TI)}(good:dp P tt){t:Nat}{i:TI}(h:look tt t=some i):∃ u,P.underlying t=some u/\kindOf u=i.k:=by
 have:=(good.at h).1
 simp_all
theorem sG {u:TypeDesc}(h:kindOf u=.bool):u=.bool:=by cases u <;> simp [kindOf] at h; rfl
theorem pw {u:TypeDesc}{k:IntKind}(h:kindOf u=.int k):u=.int k:=by cases u <;> simp [kindOf] at h; grind
theorem jk {u:TypeDesc}(h:kindOf u=.string):u=.string:=by cases u <;> simp [kindOf] at h; rfl
theorem cu {u:TypeDesc}{e:Nat}(h:kindOf u=.slice e):u=.slice e:=by cases u <;> simp [kindOf] at h; grind
theorem ji {u:TypeDesc}{fs:List (Nat×Nat)}(h:kindOf u=.struct fs):∃ f,u=.struct f/\f.toList.map (λ f=>(f.offset,f.type))=fs:=by
 cases u <;> simp [kindOf] at h; grind
theorem gY {st dt:TypeId}{x:Operand}{k k':IntKind}{a:Int}{i j:TI}(ho:o.op=.convert st dt x)(hd:o.dst=some d)(hn:Nat.blt d C.n=true)
  (hi:look C.tt st=some i) (U7:i.k=.int k') (hj:look C.tt dt=some j) (hjk:j.k=.int k) (hx:evo sl x=some (.p (.val (.int k' a)))) (hw:k.wrap a=a)
  (hK:K ⟨(d,.p (.val (.int k a)))::sl,ob⟩):bu C o K ⟨sl,ob⟩:=by
 obtain ⟨u,h1,h2⟩:=bU C.good hj;have h3:=pw (h2.trans hjk);obtain ⟨u',h1',h2'⟩:=bU C.good hi;have h3':=pw (h2'.trans U7);subst h3 h3';exact ok_one hd hn (λ g b w hs=>⟨_,by simp [execOp,ho,cm hs hx,convert,run_underlying h1,run_underlying h1',Conv.intToInt,hw],.p (.val _)⟩) hK
theorem v6 {P:Program}{w:World}(op:BinOp)(t:TypeId)(x y:Operand)(a b:ByteArray) :
  (eqGuard op t x y (.string a) (.string b)).run P w=.ok () w:=by
 simp_all [eqGuard]
theorem bV {t t':TypeId}{x y:Operand}{a b:List UInt8}(ho:o.op=.binOp .add t x y t')(hd:o.dst=some d)(hn:Nat.blt d C.n=true)
  (hx:evo sl x=some (.p (.val (.string (str a))))) (hy:evo sl y=some (.p (.val (.string (str b))))) (hw:a.length+b.length<=9223372036854775807)
  (hK:K ⟨(d,.p (.val (.string (str (a++b)))))::sl,ob⟩):bu C o K ⟨sl,ob⟩ :=
 ok_one hd hn (λ g c w hs=>⟨_,by
  have:¬ (((str a).size+(str b).size:Nat):Int) > IntKind.i64.max:=by
   grind [nB,IntKind.max,IntKind.bits]
  simp only [execOp,ho,cm hs hx,cm hs hy,Sem.run_bind,v6,Result.andThen_ok,binOp,Op.stringOp,if_neg this,Sem.run_pure,D5],.p (.val _)⟩) hK
def PF:BinOp->List UInt8->List UInt8->Option Bool|.eql,a,b=>some (decide (a=b))|.neq,a,b=>some (!decide (a=b))|.lss,a,b=>some (Op.bytesLess a b)|.leq,a,b=>some (Op.bytesLess a b||decide (a=b))|.gtr,a,b=>some (!(Op.bytesLess a b||decide (a=b)))|.geq,a,b=>some (!Op.bytesLess a b)|_,_,_=>none
theorem HJ {P:Program}{w:World}{op:BinOp}{t:TypeId}{a b:List UInt8}{c:Bool}(h:PF op a b=some c) :
  (binOp op t (.string (str a)) (.string (str b))).run P w=.ok (.bool c) w:=by
 have e:(a==b)=decide (a=b):=by grind
 cases op <;> simp only [PF,bx,reduceCtorEq] at h <;> subst h <;> simp only [binOp,Op.stringOp,Ea,Sem.run_pure,e]
theorem ko {op:BinOp}{t t':TypeId}{x y:Operand}{a b:List UInt8}{c:Bool}(ho:o.op=.binOp op t x y t')(hd:o.dst=some d)(hn:Nat.blt d C.n=true)
  (hx:evo sl x=some (.p (.val (.string (str a))))) (hy:evo sl y=some (.p (.val (.string (str b))))) (hc:PF op a b=some c)
  (hK:K ⟨(d,.p (.val (.bool c)))::sl,ob⟩):bu C o K ⟨sl,ob⟩ :=
 ok_one hd hn (λ g a w hs=>⟨_,by
  simp only [execOp,ho,cm hs hx,cm hs hy,Sem.run_bind,v6,Result.andThen_ok,HJ hc,Sem.run_pure],.p (.val _)⟩) hK
theorem run_len_string {P:Program}{w:World}{t:TypeId}(h:P.underlying t=some .string)(ty:TypeId)(s:ByteArray) :
  (Builtin.len_ #[t] ty #[.string s]).run P w=.ok (.int .i64 s.size) w:=by
 simp [Builtin.len_,run_underlying h,goInt]
theorem nT {P:Program}{w:World}{ρ:Operand->Value}{b:Builtin}{args:Array Operand}{ts:Array TypeId}(ho:o.op=.call { callee:=.builtin b,args:=args,argTypes:=ts }) :
  (execOp ρ o).run P w=(builtin b ts o.type (args.map λ|.const _=>true|_=>false) (args.map ρ)).run P w:=by
 grind [execOp,resolve,invoke]
theorem uN {t:TypeId}{x:Operand}{a:List UInt8}{i:TI}(ho:o.op=.call { callee:=.builtin .len,args:=#[x],argTypes:=#[t] })(hd:o.dst=some d)(hn:Nat.blt d C.n=true)
  (hi:look C.tt t=some i) (U7:i.k=.string) (hx:evo sl x=some (.p (.val (.string (str a)))))
  (hK:K ⟨(d,.p (.val (.int .i64 (a.length:Int))))::sl,ob⟩):bu C o K ⟨sl,ob⟩:=by
 obtain ⟨u,h1,h2⟩:=bU C.good hi;have h3:=jk (h2.trans U7);subst h3
 exact ok_one hd hn (λ g b w hs=>⟨_,by
  rw [nT ho]
  simp [builtin,cm hs hx,run_len_string h1,nB],.p (.val _)⟩) hK
theorem Is {t:TypeId}{x y:Operand}{a:List UInt8}{k:IntKind}{j:Int}{i:TI}(ho:o.op=.index t x y)(hd:o.dst=some d)(hn:Nat.blt d C.n=true)
  (hi:look C.tt t=some i) (U7:i.k=.string) (hx:evo sl x=some (.p (.val (.string (str a))))) (hy:evo sl y=some (.p (.val (.int k j))))
  (hj:0<=j/\j<a.length)
  (hK:K ⟨(d,.p (.val (.int .u8 ((a.getD j.toNat 0).toNat:Int))))::sl,ob⟩):bu C o K ⟨sl,ob⟩:=by
 obtain ⟨u,h1,h2⟩:=bU C.good hi;have h3:=jk (h2.trans U7);subst h3;refine ok_one hd hn (λ g b w hs=>⟨_,?_,.p (.val _)⟩) hK;have hlt:j.toNat<a.length:=by omega
 have e:(str a)[j.toNat]? = some (a.getD j.toNat 0):=by
  grind [QX]
 simp [execOp,ho,cm hs hx,cm hs hy,Instr.index,asIntOf,run_underlying h1,hj.1,e]
def loI (sl:List (Nat×AV)):Option Operand->Option Int
 | none=>some 0
 | some x=>match evo sl x with|some (.p (.val (.int _ n)))=>some n|_=>none
def hiI (sl:List (Nat×AV))(len:Int):Option Operand->Option Int
 | none=>some len
 | some x=>match evo sl x with|some (.p (.val (.int _ n)))=>some n|_=>none
theorem Je {x:Operand}{n:Int}(h:loI sl (some x)=some n):∃ k,evo sl x=some (.p (.val (.int k n))):=by
 grind [loI]
theorem Di {x:Operand}{len n:Int}(h:hiI sl len (some x)=some n):∃ k,evo sl x=some (.p (.val (.int k n))):=by
 grind [hiI]
theorem run_sliceBound {P:Program}{w:World}(k:IntKind)(n:Int)(y:Nat)(c:BoundsCode)(h:0<=n/\n<=y) :
  (Instr.sliceBound (.int k n) y c).run P w=.ok n.toNat w:=by
 simp_all [Instr.sliceBound,asIntOf]
theorem qH {P:Program}{g:Gh}{a:Act}{w:World}{w0:Base}{n:Nat}{F:Nat->Prop}(hs:St n w0 F g ⟨sl,ob⟩ a w)(isS:Bool)(len cap:Nat)(lo hi:Option Operand){l h:Int}
  (hl:loI sl lo=some l) (hh:hiI sl len hi=some h) (hb:0<=l/\l<=h/\h<=cap) (hlc:len<=cap) :
  (Instr.sliceBounds isS len cap (lo.map a.eval) (hi.map a.eval) none).run P w=.ok (l.toNat,h.toNat,cap) w:=by
 have e1:∀ (c:BoundsCode),(Instr.sliceBound (.int .i64 0) cap c).run P w=.ok 0 w:=λ c=>run_sliceBound _ _ _ _ O
 cases lo with
 | none=>
  simp only [loI,bx] at hl; subst hl
  cases hi with
  | none=>
   simp only [hiI,bx] at hh; subst hh;simp [Instr.sliceBounds]
  | some y=>
   obtain ⟨k,hy⟩:=Di hh;have:=run_sliceBound (P:=P) (w:=w) k h cap (if isS then .sliceAcap else .sliceAlen) ⟨by omega,hb.2.2⟩;simp [Instr.sliceBounds,cm hs hy,this]
 | some x=>
  obtain ⟨k,hx⟩:=Je hl
  cases hi with
  | none=>
   simp only [hiI,bx] at hh; subst hh;have:=run_sliceBound (P:=P) (w:=w) k l len .sliceB ⟨hb.1,by omega⟩;simp [Instr.sliceBounds,cm hs hx,this]
  | some y=>
   obtain ⟨k',hy⟩:=Di hh;have e2:=run_sliceBound (P:=P) (w:=w) k' h cap (if isS then .sliceAcap else .sliceAlen) ⟨by omega,hb.2.2⟩;have e3:=run_sliceBound (P:=P) (w:=w) k l h.toNat .sliceB ⟨hb.1,by omega⟩;simp [Instr.sliceBounds,cm hs hx,cm hs hy,e2,e3]
theorem Ik {t:TypeId}{x:Operand}{lo hi:Option Operand}{a:List UInt8}{l h:Int}{i:TI}(ho:o.op=.slice t x lo hi none)(hd:o.dst=some d)(hn:Nat.blt d C.n=true)
  (hi':look C.tt t=some i) (U7:i.k=.string) (hx:evo sl x=some (.p (.val (.string (str a))))) (hlo:loI sl lo=some l) (hhi:hiI sl (a.length:Int) hi=some h)
  (hb:0<=l/\l<=h/\h<=a.length)
  (hK:K ⟨(d,.p (.val (.string (str ((a.take h.toNat).drop l.toNat)))))::sl,ob⟩):bu C o K ⟨sl,ob⟩:=by
 obtain ⟨u,h1,h2⟩:=bU C.good hi';have h3:=jk (h2.trans U7);subst h3;refine ok_one hd hn (λ g b w hs=>⟨_,?_,.p (.val _)⟩) hK;have e:=qH (P:=C.P) hs false (str a).size (str a).size lo hi hlo (by rw [nB]; exact hhi) tj (bt _);simp [execOp,ho,cm hs hx,Instr.sliceAt,Instr.slice,run_underlying h1,e,Dh]
theorem Ew {x:Operand}{k:Nat}{l:List AV}{y:AV}(ho:o.op=.extract x k)(hd:o.dst=some d)(hn:Nat.blt d C.n=true)
  (hx:evo sl x=some (.tuple l)) (hk:l[k]? = some y) (hK:K ⟨(d,y)::sl,ob⟩):bu C o K ⟨sl,ob⟩:=by
 refine ok_one hd hn (λ g b w hs=>?_) hK;have h1:=bN hs hx;generalize hv:b.eval x=v at h1
 cases h1 with
 | tuple hl h=>
  rename_i vs;have hlt:k<vs.size:=by grind
  exact ⟨vs[k],by simp [execOp,ho,hv,Instr.extract,hlt],h k y _ hk (Array.getElem?_eq_getElem hlt)⟩
end
theorem AA {p:Prop} [Decidable p] (h:¬p):(!decide p)=true:=by simp [h]
theorem uK {p:Prop} [Decidable p] (h:p):(!decide p)=false:=by simp [h]
theorem DK {s:AS}{x:Operand}{y:AV}(h:evo s.sl x=some y):s.ev x=y:=by
 cases x with
 | tmp t=>grind [evo,AS.ev,AS.get]
 | const v=>
  grind [evo,Option.map_eq_some_iff,AS.ev,FX]
 | func f=>simp only [evo,bx] at h; exact h
 | global g=>
  grind [evo,AS.ev]
section
variable {C:Cx} {c:Operand} {x y:Code} {Q:Exit->AS->Prop} {s:AS}
theorem UQ {b:Bool}(hc:evo s.sl c=some (.p (.val (.bool b))))(h1:b=true->awp C x Q s)(h2:b=false->awp C y Q s):awp C (.cond c x y) Q s :=
 xc (DK hc) h1 h2
end
def leL (s:List (Nat×AV)):List (Nat×AV)->Prop|[]=>True|(j,x)::r=>(∃ y,look s j=some y/\y.sub x)/\leL s r
theorem BU {s:List (Nat×AV)}:∀ {t:List (Nat×AV)},leL s t->∀ j x,look t j=some x->∃ y,look s j=some y/\y.sub x
 | [],_,_,_,h=>by simp [look] at h
 | (k,z)::r,hl,j,x,h=>by
  rw [aZ] at h;split at h
  ·rename_i e; subst e; cases h; exact hl.1
  ·exact BU hl.2 j x h
def EV:List AV->List AV->Prop|[],_=>True|_::_,[]=>False|x::r,y::q=>y.sub x/\EV r q
theorem oN:∀ {cs ds:List AV},EV cs ds->cs.length<=ds.length/\∀ (i:Nat) c d,cs[i]? = some c->ds[i]? = some d->d.sub c
 | [],ds,_=>(by grind)
 | _::_,[],h=>h.elim
 | x::r,y::q,h=>by
  obtain ⟨h1,h2⟩:=oN h.2;refine ⟨by grind,λ i c d hc hd=>?_⟩
  cases i with
  | zero=>simp only [List.getElem?_cons_zero,bx] at hc hd; subst hc hd; exact h.1
  | succ i=>grind
def leO (s:List (Nat×List AV)):List (Nat×List AV)->Prop|[]=>True|(j,cs)::r=>(∃ ds,look s j=some ds/\EV cs ds)/\leO s r
theorem xx {s:List (Nat×List AV)}:∀ {t:List (Nat×List AV)},leO s t->∀ j x,look t j=some x->∃ y,look s j=some y/\EV x y
 | [],_,_,_,h=>by simp [look] at h
 | (k,z)::r,hl,j,x,h=>by
  rw [aZ] at h;split at h
  ·rename_i e; subst e; cases h; exact hl.1
  ·exact xx hl.2 j x h
theorem oh {s t:AS}(h:leL s.sl t.sl)(ho:leO s.ob t.ob):s.le t:=by
 refine ⟨λ j x hx=>?_,λ id cs hc=>?_⟩
 ·grind [BU,AS.get]
 ·obtain ⟨ds,h1,h2⟩:=xx ho id cs hc;exact ⟨ds,h1,(oN h2).1,(oN h2).2⟩
theorem K7 {a b:Bool}(h:a=b):(AV.p (.val (.bool a))).sub (.p (.val (.bool b))):=AV.sub_of_eq (by rw [h])
theorem Ao (h:p:=by
 cases this with|p h=>exact h):p:=h
theorem EH (h:p:=by
 have hlt:=(hs.own id b h).1
 grind [iM]):p:=h
theorem K8 (h:p:=by
 rw [<- h4] at hf;simp only [List.getElem?_map,Array.getElem?_toList,ro,Prod.mk.injEq] at hf;obtain ⟨fl,hf1,hf2,hf3⟩:=hf;have U0:=run_sizeOf C.good hj w;rw [<- hf3] at U0;have Vs:j.size≠0:=λ e=>by simp_all
 simp_all [execOp,Instr.fieldAt,run_underlying,Instr.sureAddr,fieldPlace,add_lit]):p:=h
theorem LU (h:p:=by
 exact PRep.slice 0 (λ _ _=>.nilFunc) G (λ e he=>by simp at he) (λ e he=>by simp at he) (λ i e j c h1=>by simp at h1) (λ i e j c h1=>by simp at h1)):p:=h
theorem Nx (h:p:=by
 simp at e
 simp [execOp,ho,hq,Instr.sliceAt,Instr.slice,run_underlying h1,e,run_sizeOf C.good hie]):p:=h
theorem Oj (h:p:=by
 simp only [lZ,List.getElem?_map,ro] at hx;obtain ⟨y,hy,rfl⟩:=hx;obtain ⟨v,hv,hr⟩:=k5 i y hy
 exact ⟨v,hv,hr.dem hE⟩):p:=h
theorem Jv (h:p:=by exact ⟨λ h=>h.resolve_right λ h=>by have:=hs.fl b hb; have:=hs.size; omega,.inl⟩):p:=h
theorem jW (h:p:=by simp; omega):p:=h
theorem kI {α β:Type}(f:α->β):∀ (l:List (Nat×α)) (i:Nat),look (l.map λ p=>(p.1,f p.2)) i=(look l i).map f
 | [],_=>rfl
 | (j,v)::r,i=>by
  simp only [n7,aZ,kI f r i]
  grind
theorem nz {α:Type}(D:Nat->Bool):∀ (l:List (Nat×α)) (i:Nat),look (l.filter λ p=>!D p.1) i=if D i then none else look l i
 | [],i=>by simp [look]
 | (j,v)::r,i=>by
  simp only [List.filter_cons,aZ]
  cases hD:D j
  ·simp only [Bool.not_false,if_true,aZ,nz D r i]
   grind
  ·simp only [Bool.not_true,Bool.false_eq_true,if_false,nz D r i]
   grind
def cW (D:Nat->Bool)(s:AS):AS :=⟨s.sl.map λ p=>(p.1,p.2.dem D),(s.ob.filter λ p=>!D p.1).map λ p=>(p.1,pJ D p.2)⟩
theorem St.evolve {n:Nat}{w0:Base}{w w':World}{F:Nat->Prop}{g g':Gh}{s:AS}{a:Act}(hs:St n w0 F g s a w)(D:Nat->Bool)(hDl:∀ i,D i=true->i<M1)(U4:Ev w g.st w' g'.st)
  (how:∀ id b,D id=false->g.ow id=some b->g'.ow id=some b/\w'.heap[b]? = w.heap[b]?/\∀ o,g'.st b o->g.st b o)
  (hinj:∀ i j b,g'.ow i=some b->g'.ow j=some b->i=j) (hown:∀ i b,g'.ow i=some b->b<w'.heap.size/\¬ F b)
  (hlt:∀ b o,g'.st b o->b<w'.heap.size) (hfr:∀ b,F b->w'.heap[b]? = w.heap[b]?)
  (hos:w'.os=w.os) (hout:w'.output=w.output) (htape:w'.tape=w.tape) (hsize:w.heap.size<=w'.heap.size) (hstf:∀ b,F b->∀ o,g'.st b o↔g.st b o) (howf:∀ i,M1<=i->g'.ow i=g.ow i):St n w0 F g' (cW D s) a w':=by
 have hDf:∀ i,M1<=i->D i=false:=λ i hi=>by
  grind
 have hE:EvO D w g w' g':=⟨U4,λ id b hD h=>(how id b hD h).1,(by grind),(by grind),(by grind),λ i hi=>hDf i (Hc hi),(by grind)⟩
 refine ⟨hs.nd,hs.sz,λ i=>?_,λ id cs hc=>?_,hinj,hown,hlt,hs.fl,λ b hb=>(hfr b hb).trans (hs.fr b hb),hos.trans hs.os,hout.trans hs.out,htape.trans hs.tape,Nat.le_trans hs.size hsize,λ b hb o=>(hstf b hb o).trans (hs.stf b hb o),λ i hi hz=>(howf i hi).trans (hs.owf i hi hz),hs.shf.next (λ i b c e hi hb h=>⟨c,(how i b (hDf i hi) ((hs.owf i hi (w0.lo i b hb)).trans hb)).2.1.trans h,Z⟩),λ i b hi hb o h=>hs.nst i b hi hb o ((how i b (hDf i hi) ((hs.owf i hi (w0.lo i b hb)).trans hb)).2.2 o h),hs.ev0.trans U4⟩
 ·have h:=(hs.sl i).dem hE;simp only [AS.get,cW,kI];simp only [AS.get] at h
  cases hl:look s.sl i with
  | none=>simp only [Option.map_none,Option.getD_none]; exact .undef _
  | some x=>grind
 ·simp only [cW,kI,nz] at hc;by_cases hD:D id=true
  ·grind
  ·have hD':D id=false:=by grind
   simp only [hD',Bool.false_eq_true,if_false,ro] at hc;obtain ⟨ds,h1,rfl⟩:=hc;obtain ⟨b,c,e,k1,k2,k3,k4,k5⟩:=hs.ob id ds h1;obtain ⟨m1,m2,m3⟩:=how id b hD' k1;refine ⟨b,c,e,m1,m2.trans k2,by grind [lZ],λ o h=>k4 o (m3 o h),λ i x hx=>?_⟩;exact Oj
theorem St.evolve0 {n:Nat}{w0:Base}{w w':World}{F:Nat->Prop}{g g':Gh}{s:AS}{a:Act}(hs:St n w0 F g s a w)(U4:Ev w g.st w' g'.st)
  (how:∀ id b,g.ow id=some b->g'.ow id=some b/\w'.heap[b]? = w.heap[b]?/\∀ o,g'.st b o->g.st b o)
  (hinj:∀ i j b,g'.ow i=some b->g'.ow j=some b->i=j) (hown:∀ i b,g'.ow i=some b->b<w'.heap.size/\¬ F b)
  (hlt:∀ b o,g'.st b o->b<w'.heap.size) (hfr:∀ b,F b->w'.heap[b]? = w.heap[b]?)
  (hos:w'.os=w.os) (hout:w'.output=w.output) (htape:w'.tape=w.tape) (hsize:w.heap.size<=w'.heap.size) (hstf:∀ b,F b->∀ o,g'.st b o↔g.st b o) (howf:∀ i,M1<=i->g'.ow i=g.ow i):St n w0 F g' s a w':=by
 have hE:EvO (λ _=>false) w g w' g':=⟨U4,λ id b _ h=>(how id b h).1,(by grind),λ id b o _ h=>(how id b h).2.2 o,(by grind),λ _ _=>rfl,λ id b o _ h _=>(how id b h).2.1⟩
 refine ⟨hs.nd,hs.sz,λ i=>(hs.sl i).mono hE,λ id cs hc=>?_,hinj,hown,hlt,hs.fl,λ b hb=>(hfr b hb).trans (hs.fr b hb),hos.trans hs.os,hout.trans hs.out,htape.trans hs.tape,Nat.le_trans hs.size hsize,λ b hb o=>(hstf b hb o).trans (hs.stf b hb o),λ i hi hz=>(howf i hi).trans (hs.owf i hi hz),hs.shf.next (λ i b c e hi hb h=>⟨c,(how i b ((hs.owf i hi (w0.lo i b hb)).trans hb)).2.1.trans h,rfl⟩),λ i b hi hb o h=>hs.nst i b hi hb o ((how i b ((hs.owf i hi (w0.lo i b hb)).trans hb)).2.2 o h),hs.ev0.trans U4⟩;obtain ⟨b,c,e,k1,k2,k3,k4,k5⟩:=hs.ob id cs hc;obtain ⟨m1,m2,m3⟩:=how id b k1;refine ⟨b,c,e,m1,m2.trans k2,k3,λ o h=>k4 o (m3 o h),λ i x hx=>?_⟩;obtain ⟨v,hv,hr⟩:=k5 i x hx;exact ⟨v,hv,hr.mono hE⟩
theorem St.drew {n:Nat}{w0:Base}{w:World}{F:Nat->Prop}{g:Gh}{s:AS}{a:Act}(hs:St n w0 F g s a w):St n w0 F g s a w.drew :=
 hs.evolve0 (λ b o h=>⟨h,Z⟩) (λ id b h=>⟨h,Z,λ o h=>h⟩) hs.inj hs.own hs.lt (λ b h=>rfl) Z Z Z (bt _) (λ b _ o=>Iff.rfl) (λ _ _=>rfl)
theorem iM {w:World}{o:Obj}{b:Nat}(h:b<w.heap.size):(w.alloc o).heap[b]? = w.heap[b]?:=by
 show (w.heap.push o)[b]? = _
 grind
theorem gP {w:World}{o:Obj}:(w.alloc o).heap[w.heap.size]? = some o:=by
 show (w.heap.push o)[w.heap.size]? = _;simp
theorem pZ {w:World}{b:Nat}{c c':Array Value}{e:TypeId}(hb:w.heap[b]? = some (.cells c e (0,0)))(hs:c'.size=c.size):tb w (w.setRow b c'):=by
 have hbl:b<w.heap.size:=(Array.getElem?_eq_some_iff.1 hb).1;refine ⟨λ b2 c2 e2 h=>?_,λ b2 o h1 h2=>?_⟩
 ·grind [setRow_heap,setRow_other]
 simp_all
theorem o9 {w:World}{st:Nat->Nat->Prop}(hlt:∀ b o,st b o->b<w.heap.size){T:Nat->Prop}{ob:Obj}:Ev w st (w.alloc ob) (λ b o=>st b o\/(b=w.heap.size/\T o)) :=
 λ b o h=>⟨.inl h,World.cell?_alloc_lt w _ _ (hlt b o h)⟩
theorem St.fresh {n:Nat}{w0:Base}{w:World}{F:Nat->Prop}{g:Gh}{s:AS}{a:Act}(hs:St n w0 F g s a w)(D:Nat->Bool)(hDl:∀ i,D i=true->i<M1)(d:Nat)(hD:D d=true)(T:Nat->Prop)(c:Array Value)(e:TypeId) :
  St n w0 F ⟨λ b o=>g.st b o\/(b=w.heap.size/\T o),λ i=>if i=d then some w.heap.size else if D i then none else g.ow i⟩ (cW D s) a (w.alloc (.cells c e)):=by
 refine hs.evolve D hDl (o9 hs.lt) (λ id b hd h=>?_) (λ i j b h1 h2=>?_) (λ i b h=>?_) (λ b o h=>?_) (λ b h=>?_) Z Z Z G (λ b hb o=>Jv) (λ i hi=>by
  grind)
 ·have Vs:id≠d:=λ e=>by grind
  exact EH
 ·have key:∀ i,(if i=d then some w.heap.size else if D i then none else g.ow i)=some b->(i=d/\b=w.heap.size)\/(i≠d/\g.ow i=some b/\b<w.heap.size):=by
   intro i h;by_cases e1:i=d
   ·grind
   ·rw [if_neg e1] at h;split at h
    ·cases h
    ·exact .inr ⟨e1,h,(hs.own i b h).1⟩
  rcases key i h1 with ⟨a1,a2⟩|⟨a1,a2,a3⟩ <;> rcases key j h2 with ⟨b1,b2⟩|⟨b1,b2,b3⟩
  ·rw [a1,b1]
  ·omega
  ·omega
  ·exact hs.inj i j b a2 b2
 ·dsimp only at h;by_cases e1:i=d
  ·rw [if_pos e1] at h; cases h;exact ⟨by simp,λ hF=>by have:=hs.fl _ hF; have:=hs.size; omega⟩
  ·rw [if_neg e1] at h;split at h
   ·cases h
   ·have:=hs.own i b h; exact ⟨by simp; omega,this.2⟩
 ·rcases h with h|⟨h,_⟩
  ·have:=hs.lt b o h; simp; omega
  simp_all
 ·have:=hs.fl b h; have:=hs.size
  grind [iM]
theorem St.settled {n:Nat}{w0:Base}{w:World}{F:Nat->Prop}{g:Gh}{s:AS}{a:Act}(hs:St n w0 F g s a w)(T:Nat->Prop)(c:Array Value)(e:TypeId) :
  St n w0 F ⟨λ b o=>g.st b o\/(b=w.heap.size/\T o),g.ow⟩ s a (w.alloc (.cells c e)):=by
 refine hs.evolve0 (o9 hs.lt) (λ id b h=>?_) hs.inj (λ i b h=>?_) (λ b o h=>?_) (λ b h=>?_) Z Z Z G (λ b hb o=>Jv) (λ _ _=>rfl)
 ·exact EH
 ·have:=hs.own i b h; exact ⟨by simp; omega,this.2⟩
 ·rcases h with h|⟨h,_⟩
  ·have:=hs.lt b o h; simp; omega
  simp_all
 ·have:=hs.fl b h; have:=hs.size
  grind [iM]
theorem add_lit (b o n:Nat):(⟨b,o,none⟩:Addr).add n=⟨b,o+n,none⟩:=by
 grind [Addr.add]
theorem kg {P:Program}{tt:List (Nat×TI)}(good:dp P tt){t:Nat}{i:TI}(h:look tt t=some i) :
  ∃ j,P.info? t=some j/\j.size=i.size/\j.bytes=i.bytes/\∃ z,j.zero=some z/\z.cells.toList=i.zero:=by
 have:=(good.at h).2
 simp_all
theorem run_sizeOf {P:Program}{tt:List (Nat×TI)}(good:dp P tt){t:Nat}{i:TI}(h:look tt t=some i)(w:World):(sizeOf t).run P w=.ok i.size w:=by
 obtain ⟨j,h1,h2,_⟩:=kg good h;simp [sizeOf,typeInfo,h1,h2]
def TK.isAgg:TK->Bool|.struct _=>true|.array _ _=>true|_=>false
theorem oO {P:Program}{tt:List (Nat×TI)}(good:dp P tt){t:Nat}{i:TI}(h:look tt t=some i)(w:World):(isAgg t).run P w=.ok i.k.isAgg w:=by
 obtain ⟨u,h1,h2⟩:=bU good h;rw [<- h2];simp only [isAgg,Sem.run_bind,run_underlying h1,Result.andThen_ok]
 cases u <;> rfl
section
variable {C:Cx} {o:Oper} {K:AS->Prop} {sl:List (Nat×AV)} {ob:List (Nat×List AV)} {d:Nat}
theorem yM {t:TypeId}{x:Operand}{f off ft:Nat}{i j:TI}{fs:List (Nat×Nat)}{cs:List PV}(ho:o.op=.fieldAddr t x f)(hd:o.dst=some d)(hn:Nat.blt d C.n=true)
  (hi:look C.tt t=some i) (U7:i.k=.struct fs) (hf:fs[f]? = some (off,ft)) (hj:look C.tt ft=some j) (hjs:Nat.beq j.size 0=false)
  (hx:evo sl x=some (.rptr cs)) (hK:K ⟨(d,.rptr (cs.drop off))::sl,ob⟩):bu C o K ⟨sl,ob⟩:=by
 obtain ⟨u,h1,h2⟩:=bU C.good hi;obtain ⟨fa,rfl,h4⟩:=ji (h2.trans U7);refine ok_one hd hn (λ g a w hs=>?_) hK;have h5:=bN hs hx;generalize hv:a.eval x=v at h5
 cases h5 with
 | rptr cf hc hr=>
  rename_i b o';refine ⟨.pointer (some ⟨b,o'+off,none⟩),?_,?_⟩
  ·exact K8
  ·refine .rptr (λ k=>cf (off+k)) (λ k c hk=>?_) (λ k c hk=>?_)
   ·grind
   grind
theorem rM {P:Program}{tt:List (Nat×TI)}(good:dp P tt){t:Nat}{i:TI}(h:look tt t=some i)(ha:i.k.isAgg=false){w:World}{a:Addr}{v:Value}(hc:w.cell? a=some v) :
  (loadVar t a).run P w=.ok v w:=by
 simp [loadVar,oO good h,ha,hc]
theorem rJ {P:Program}{tt:List (Nat×TI)}(good:dp P tt){t:Nat}{i:TI}(h:look tt t=some i)(ha:i.k.isAgg=true){w:World}{b o:Nat}{f:Nat->Value}
  (hc:∀ j,j<i.size->w.cell? ⟨b,o+j,none⟩=some (f j)) :
  (loadVar t ⟨b,o,none⟩).run P w=.ok (.agg ((List.range i.size).map f).toArray) w:=by
 have:=run_loadCells (P:=P) w ⟨b,o,none⟩ i.size f (λ j hj=>by grind [add_lit]);simp [loadVar,oO good h,ha,run_sizeOf good h,this]
theorem HT {t:TypeId}{x:Operand}{i:TI}{c:PV}{cs:List PV}(ho:o.op=.load t x)(hd:o.dst=some d)(hn:Nat.blt d C.n=true)
  (hi:look C.tt t=some i) (hia:i.k.isAgg=false) (hx:evo sl x=some (.rptr cs)) (hc:cs.head? = some c) (hK:K ⟨(d,.p c)::sl,ob⟩):bu C o K ⟨sl,ob⟩:=by
 refine ok_one hd hn (λ g a w hs=>?_) hK;have h5:=bN hs hx;generalize hv:a.eval x=v at h5
 cases h5 with
 | rptr cf hcf hr=>
  rename_i b o';have h0:cs[0]? = some c:=by cases cs with|nil=>simp at hc|cons y r=>grind
  have h1:=hcf 0 c h0;refine ⟨cf 0,?_,.p (hr 0 c h0)⟩;have:=rM C.good hi hia h1.2
  simp_all [execOp,Instr.loadAt,Instr.sureAddr]
theorem HW {t:TypeId}{x:Operand}{i:TI}{cs:List PV}(ho:o.op=.load t x)(hd:o.dst=some d)(hn:Nat.blt d C.n=true)
  (hi:look C.tt t=some i) (hia:i.k.isAgg=true) (hx:evo sl x=some (.rptr cs)) (hl:Nat.ble i.size cs.length=true) (hK:K ⟨(d,.p (.agg (cs.take i.size)))::sl,ob⟩):bu C o K ⟨sl,ob⟩:=by
 refine ok_one hd hn (λ g a w hs=>?_) hK;have h5:=bN hs hx;have hl':i.size<=cs.length:=Nat.le_of_ble_eq_true hl;generalize hv:a.eval x=v at h5
 cases h5 with
 | rptr cf hcf hr=>
  rename_i b o';refine ⟨.agg ((List.range i.size).map cf).toArray,?_,.p (.agg jW λ k c v h1 h2=>?_)⟩
  ·have:=rJ C.good hi hia (b:=b) (o:=o') (f:=cf) (w:=w) (λ j hj=>(hcf j cs[j] (List.getElem?_eq_getElem O)).2)
   simp_all [execOp,Instr.loadAt,Instr.sureAddr]
  grind
theorem mT {w:World}{g:Gh}{x:AV}{es:List PV}{v:Value}(hx:x=.p (.slice es)\/∃ tok sz ty,x=.vec tok sz ty es)(h:ARep w g x v):PRep w g.st (.slice es) v:=by
 rcases hx with rfl|⟨tok,sz,ty,rfl⟩
 ·cases h with|p h=>exact h
 ·have:=AV.sub_vec tok sz ty es w g v h;exact Ao
def AV.elems?:AV->Option (List PV)|.p (.slice es)=>some es|.vec _ _ _ es=>some es|.p (.val (.slice none 0 0))=>some []|_=>none
theorem lj {w:World}{g:Gh}{x:AV}{es:List PV}{v:Value}(hx:x.elems? = some es)(h:ARep w g x v):PRep w g.st (.slice es) v:=by
 unfold AV.elems? at hx;split at hx
 ·grind [mT]
 ·grind [mT]
 ·cases hx; exact mT (.inl rfl) (AV.sub_nilv _ _ _ h)
 ·cases hx
theorem rG {w:World}{st:Nat->Nat->Prop}{es:List PV}{v:Value}(h:PRep w st (.slice es) v):∃ a cap,v=.slice a es.length cap/\es.length<=cap:=by
 cases h with
 | nils=>simp_all
 | nile a=>simp_all
 | slice sz cf hcap U0 Vh hc hr=>grind
theorem Rc {t e:TypeId}{x:Operand}{y:AV}{es:List PV}{i:TI}(ho:o.op=.call { callee:=.builtin .len,args:=#[x],argTypes:=#[t] })(hd:o.dst=some d)(hn:Nat.blt d C.n=true)
  (hi:look C.tt t=some i) (U7:i.k=.slice e) (hx:evo sl x=some y) (hy:y.elems? = some es)
  (hK:K ⟨(d,.p (.val (.int .i64 (es.length:Int))))::sl,ob⟩):bu C o K ⟨sl,ob⟩:=by
 obtain ⟨u,h1,h2⟩:=bU C.good hi;have h3:=cu (h2.trans U7);subst h3;refine ok_one hd hn (λ g b w hs=>⟨_,?_,.p (.val _)⟩) hK;obtain ⟨a,cap,h4,_⟩:=rG (lj hy (bN hs hx));rw [nT ho];simp [builtin,h4,Builtin.len_,run_underlying h1,goInt]
theorem yB {t e:TypeId}{x y:Operand}{z:AV}{es:List PV}{i ie:TI}{k:IntKind}{n:Int}{el:PV}(ho:o.op=.indexAddr t x y)(hd:o.dst=some d)(hn:Nat.blt d C.n=true)
  (hi:look C.tt t=some i) (U7:i.k=.slice e) (hie:look C.tt e=some ie) (hx:evo sl x=some z) (hz:z.elems? = some es)
  (hy:evo sl y=some (.p (.val (.int k n)))) (hb:0<=n) (hel:es[n.toNat]? = some el) (U0:el.cells.length=ie.size)
  (hK:K ⟨(d,.rptr el.cells)::sl,ob⟩):bu C o K ⟨sl,ob⟩:=by
 obtain ⟨u,h1,h2⟩:=bU C.good hi;have h3:=cu (h2.trans U7);subst h3;refine ok_one hd hn (λ g a w hs=>?_) hK;have hv:=lj hz (bN hs hx);generalize hq:a.eval x=v at hv;have hlt:n.toNat<es.length:=(List.getElem?_eq_some_iff.1 hel).1
 cases hv with
 | nils=>simp at hlt
 | nile a=>simp at hlt
 | slice sz cf hcap hsz' Vh hc hr=>
  rename_i b off cap;have e1:sz=ie.size:=(by grind)
  subst e1;refine ⟨.pointer (some ⟨b,off+n.toNat*ie.size,none⟩),?_,.rptr (cf n.toNat) (λ j c hj=>?_) (λ j c hj=>hr _ el j c hel hj)⟩
  ·have hlt':n<(es.length:Int):=by omega
   simp [execOp,ho,hq,cm hs hy,Instr.indexAt,asIntOf,run_underlying h1,hb,hlt',run_sizeOf C.good hie,add_lit]
  grind
theorem xp {w:World}{st:Nat->Nat->Prop}{es:List PV}{b off cap:Nat}{sz:Nat}{cf:Nat->Nat->Value}{l h:Nat}(hh:h<=es.length)(hlh:l<=h)
  (hcap:es.length<=cap) (U0:∀ e,e∈es->e.cells.length=sz) (Vh:∀ e,e∈es->∀ c,c∈e.cells->c.one=true)
  (hc:∀ (i:Nat) e (j:Nat) c,es[i]? = some e->e.cells[j]? = some c->st b (off+i*sz+j)/\w.cell? ⟨b,off+i*sz+j,none⟩=some (cf i j))
  (hr:∀ (i:Nat) e (j:Nat) c,es[i]? = some e->e.cells[j]? = some c->PRep w st c (cf i j)) :
  PRep w st (.slice ((es.take h).drop l)) (.slice (some ⟨b,off+l*sz,none⟩) (h-l) (cap-l)):=by
 have Pn:((es.take h).drop l).length=h-l:=by simp; omega
 have hmem:∀ e,e∈(es.take h).drop l->e∈es:=(by grind)
 have hget:∀ (i:Nat) e,((es.take h).drop l)[i]? = some e->es[l+i]? = some e:=by
  grind
 have:=PRep.slice (w:=w) (st:=st) (es:=(es.take h).drop l) (b:=b) (off:=off+l*sz) (cap:=cap-l) sz (λ i j=>cf (l+i) j) O (λ e he=>U0 e (hmem e he)) (λ e he=>Vh e (hmem e he))
  (λ i e j c h1 h2=>by
   grind) (by grind)
 grind
theorem H8 {t e:TypeId}{x:Operand}{lo hi:Option Operand}{z:AV}{es:List PV}{l h:Int}{i ie:TI}(ho:o.op=.slice t x lo hi none)(hd:o.dst=some d)(hn:Nat.blt d C.n=true)
  (hi':look C.tt t=some i) (U7:i.k=.slice e) (hie:look C.tt e=some ie) (hx:evo sl x=some z) (hz:z.elems? = some es) (hlo:loI sl lo=some l) (hhi:hiI sl (es.length:Int) hi=some h)
  (hb:0<=l/\l<=h/\h<=es.length) (U0:∀ e∈es,e.cells.length=ie.size)
  (hK:K ⟨(d,.p (.slice ((es.take h.toNat).drop l.toNat)))::sl,ob⟩):bu C o K ⟨sl,ob⟩:=by
 obtain ⟨u,h1,h2⟩:=bU C.good hi';have h3:=cu (h2.trans U7);subst h3;refine ok_one hd hn (λ g a w hs=>?_) hK;have hv:=lj hz (bN hs hx);generalize hq:a.eval x=v at hv
 cases hv with
 | nils=>
  simp only [List.length_nil] at hb hhi;have e1:l=0:=by omega
  have e2:h=0:=by omega
  subst e1 e2;have e:=qH (P:=C.P) hs true 0 0 lo hi hlo hhi O (bt _);refine ⟨.slice none 0 0,?_,.p (by simpa using PRep.nils)⟩;exact Nx
 | nile a0=>
  simp only [List.length_nil] at hb hhi;have e1:l=0:=by omega
  have e2:h=0:=by omega
  subst e1 e2;have e:=qH (P:=C.P) hs true 0 0 lo hi hlo hhi O (bt _);refine ⟨.slice (some a0) 0 0,?_,.p (by simpa using PRep.nile a0)⟩;exact Nx
 | slice sz cf hcap hsz' Vh hc hr=>
  rename_i b off cap;have e:=qH (P:=C.P) hs true es.length cap lo hi hlo hhi ⟨hb.1,hb.2.1,by omega⟩ hcap;refine ⟨.slice (if cap=l.toNat then some ⟨b,off,none⟩ else some ⟨b,off+l.toNat*ie.size,none⟩) (h.toNat-l.toNat) (cap-l.toNat),?_,.p ?_⟩
  ·simp [execOp,ho,hq,Instr.sliceAt,Instr.slice,run_underlying h1,e,run_sizeOf C.good hie,add_lit]
  ·by_cases hcl:cap=l.toNat
   ·rw [if_pos hcl]
    have e3:(es.take h.toNat).drop l.toNat=[]:=by
     grind
    have e4:h.toNat-l.toNat=0:=by omega
    rw [e3,e4];exact LU
   ·rw [if_neg hcl];by_cases hes:es=[]
    ·subst hes;simp only [List.length_nil] at hb;have e5:h.toNat-l.toNat=0:=by omega
     rw [e5];simp only [List.take_nil,List.drop_nil];exact LU
    ·have e1:sz=ie.size:=by
      cases es with
      | nil=>grind
      | cons y r=>simp_all
     subst e1;exact xp O O  hcap hsz' Vh hc hr
end
theorem Ld (h:p:=by
 rw [List.getElem?_take] at h1;split at h1
 ·rename_i hj;rw [List.getElem?_drop] at h1;obtain ⟨u,hu,hr⟩:=k5 (k+j) y h1
  simp_all
 ·cases h1):p:=h
theorem KI (h:p:=by
 simp only [ib,List.getElem?_map,ro,<- h2,Array.getElem?_toList] at h3;obtain ⟨u,h5,rfl⟩:=h3;rw [h4] at h5; cases h5
 exact .p (.val _)):p:=h
theorem M3 (h:p:=by
 rcases ho with ho|⟨_,ho⟩
 ·exact absurd (hs.lt _ _ ho) O
 ·exact ho):p:=h
theorem Jj (h:p:=by
 refine ⟨o9 hs.lt,λ id b hD hid=>?_,λ id b c e' hD hid hb=>⟨c,?_,Z⟩,λ id b o hD hid ho=>?_,λ id b es k hD hid hb=>(iM (hs.own id b hid).1).trans hb,λ i hi=>?lo,λ id b o hD hid _=>iM (hs.own id b hid).1⟩
 case lo=>
  cases hq:Nat.beq i d
  ·rfl
  ·have:=cl hq; have:=Hc hi; omega
 ·grind
 ·grind [iM]
 grind):p:=h
def PV.onesB:List PV->Bool|[]=>true|c::r=>c.one&&onesB r
theorem kp:∀ {l:List PV},PV.onesB l=true->∀ c,c∈l->c.one=true
 | [],_,_,h=>by simp at h
 | x::r,h,c,hc=>by
  simp only [PV.onesB,py] at h;rcases qr.1 hc with rfl|hc
  ·exact h.1
  ·exact kp h.2 c hc
def AV.one:AV->Bool|.p c=>c.one|.vec _ _ _ _=>true|.arr _ _ _ _=>true|.ptr _ _=>true|.bptr _ _ _=>true|.rptr _=>true|.func _ _=>true|.mp _ _=>true|.mpr ..=>true|.stk ..=>true|.sem ..=>true|.it ..=>true|.vecp ..=>true|.elp ..=>true|_=>false
def AV.onesB:List AV->Bool|[]=>true|c::r=>c.one&&onesB r
theorem AV.onesB_mem:∀ {l:List AV},AV.onesB l=true->∀ c,c∈l->c.one=true
 | [],_,_,h=>by simp at h
 | x::r,h,c,hc=>by
  simp only [AV.onesB,py] at h;rcases qr.1 hc with rfl|hc
  ·exact h.1
  ·exact AV.onesB_mem h.2 c hc
theorem PV.one_rep {w:World}{st:Nat->Nat->Prop}{x:PV}{v:Value}(h:PRep w st x v)(ho:x.one=true):v.oneCell'=true:=by
 cases h with
 | val v=>exact ho
 | agg hl h=>simp [PV.one] at ho
 | ifc=>rfl
 | aint=>rfl
 | nils=>rfl
 | nile a=>rfl
 | slice=>rfl
theorem AV.one_rep {w:World}{g:Gh}{x:AV}{v:Value}(h:ARep w g x v)(ho:x.one=true):v.oneCell'=true:=by
 cases h with
 | undef=>simp [AV.one] at ho
 | p h=>exact PV.one_rep h ho
 | agg=>simp [AV.one] at ho
 | vecn=>rfl
 | vece=>rfl
 | vec=>rfl
 | arr=>rfl
 | ptr=>rfl
 | bptrn=>rfl
 | bptr=>rfl
 | rptr=>rfl
 | tuple=>simp [AV.one] at ho
 | func=>rfl
 | mp=>rfl
 | mpr=>rfl
 | stkn=>rfl
 | stke=>rfl
 | stk=>rfl
 | sem h1 _=>exact h1
 | it=>rfl
 | vecp=>rfl
 | elp=>rfl
theorem uF {v:Value}(h:v.oneCell'=true):v.cells=#[v]:=by
 cases v <;> first|rfl|simp [Value.oneCell'] at h
def AV.cellsA:AV->Option (List AV)|.p (.agg cs)=>bif PV.onesB cs then some (cs.map .p) else none|.agg cs=>bif AV.onesB cs then some cs else none|.p (.val v)=>bif v.oneCell' then some [.p (.val v)] else none|.p (.slice es)=>some [.p (.slice es)]|.vec t s y es=>some [.vec t s y es]|.arr i s o n=>some [.arr i s o n]|.ptr i o=>some [.ptr i o]|.bptr T sz i=>some [.bptr T sz i]|.rptr cs=>some [.rptr cs]|.func f cs=>some [.func f cs]|.stk t s es=>some [.stk t s es]|.sem ts R=>some [.sem ts R]|.vecp a b c e=>some [.vecp a b c e]|_=>none
theorem lF {w:World}{g:Gh}{x:AV}{xs:List AV}{v:Value}(hx:x.cellsA=some xs)(h:ARep w g x v) :
  v.cells.size=xs.length/\∀ (i:Nat) c u,xs[i]? = some c->v.cells[i]? = some u->ARep w g c u/\u.oneCell'=true:=by
 have single:∀ {y:AV},ARep w g y v->y.one=true->xs=[y]->v.cells.size=xs.length/\∀ (i:Nat) c u,xs[i]? = some c->v.cells[i]? = some u->ARep w g c u/\u.oneCell'=true:=by
  grind [AV.one_rep,uF]
 unfold AV.cellsA at hx;split at hx
 ·rename_i cs
  cases ho:PV.onesB cs <;> rw [ho] at hx <;> simp only [cond_true,cond_false,bx,reduceCtorEq] at hx
  subst hx
  cases h with
  | p h=>
   cases h with
   | agg hl h=>
    refine ⟨by grind [Value.cells],λ i c u h2 h3=>?_⟩;simp only [List.getElem?_map,ro] at h2;obtain ⟨c',h2,rfl⟩:=h2;have h4:=h i c' u h2 h3;exact ⟨.p h4,PV.one_rep h4 (kp ho c' (List.mem_of_getElem? h2))⟩
 ·rename_i cs
  cases ho:AV.onesB cs <;> rw [ho] at hx <;> simp only [cond_true,cond_false,bx,reduceCtorEq] at hx
  subst hx
  cases h with
  | agg hl h=>
   refine ⟨hl,λ i c u h2 h3=>?_⟩;have h4:=h i c u h2 h3
   grind [AV.one_rep,AV.onesB_mem]
 ·rename_i v'
  cases ho:v'.oneCell' <;> rw [ho] at hx <;> simp only [cond_true,cond_false,bx,reduceCtorEq] at hx
  exact single h ho hx.symm
 all_goals first
  | (simp only [bx] at hx; exact single h Z hx.symm)
  | (cases hx)
def Ak:List AV->Option (List PV)
 | []=>some []
 | .p x::r=>match Ak r with
  | some l=>some (x::l)
  | none=>none
 | _::_=>none
def pf (cs:List AV):AV:=match Ak cs with
 | some l=>.p (.agg l)
 | none=>.agg cs
theorem G6:∀ {cs:List AV} {l:List PV},Ak cs=some l->cs=l.map .p
 | [],l,h=>by grind [Ak]
 | x::r,l,h=>by
  cases x <;> simp only [Ak,reduceCtorEq] at h
  split at h
  ·rename_i l' h'; cases h; rw [G6 h']; rfl
  ·cases h
theorem sd {w:World}{g:Gh}{cs:List AV}{vs:Array Value}(hl:vs.size=cs.length)(h:∀ (i:Nat) c v,cs[i]? = some c->vs[i]? = some v->ARep w g c v):ARep w g (pf cs) (.agg vs):=by
 unfold pf;split
 ·rename_i l hp;have e:=G6 hp;refine .p (.agg (by grind) λ i c v h1 h2=>?_);have:=h i (.p c) v (by grind) h2;exact Ao
 ·exact .agg hl h
theorem qY {n:Nat}{w0:Base}{w:World}{F:Nat->Prop}{g:Gh}{s:AS}{a:Act}(hs:St n w0 F g s a w){b:Nat}{c:Array Value}{e:TypeId}(hb:w.heap[b]? = some (.cells c e (0,0)))(o:Nat) :
  w.cell? ⟨b,o,none⟩=c[o]?:=by
 simp [World.cell?,hb]
section
variable {C:Cx} {o:Oper} {K:AS->Prop} {sl:List (Nat×AV)} {ob:List (Nat×List AV)} {d:Nat}
theorem Mo {x:AV}{cs:List AV}(hd:o.dst=some d)(hn:Nat.blt d C.n=true)
  (h:∀ g a w,St C.n C.w0 C.F g ⟨sl,ob⟩ a w->∃ e v,(execOp a.eval o).run C.P w=.ok (.value (.pointer (some ⟨w.heap.size,0,none⟩))) (w.alloc (.cells v.cells e))/\ARep w g x v)
  (hx:x.cellsA=some cs)
  (hK:K ⟨(d,.ptr d 0)::(cW (λ i=>Nat.beq i d) ⟨sl,ob⟩).sl,(d,pJ (λ i=>Nat.beq i d) cs)::(cW (λ i=>Nat.beq i d) ⟨sl,ob⟩).ob⟩):bu C o K ⟨sl,ob⟩:=by
 intro g a w hs;obtain ⟨e,v,h1,h2⟩:=h g a w hs;obtain ⟨U0,U9⟩:=lF hx h2;unfold Oper.wp;rw [h1];have hDd:(λ i=>Nat.beq i d) d=true:=by simp
 have hdl:d<M1:=by have h1:=Nat.le_of_ble_eq_true C.nl; grind [Nat.blt_eq]
 have hf:=hs.fresh (λ i=>Nat.beq i d) (λ i hi=>by simp_all) d hDd (λ _=>False) v.cells e;refine ⟨⟨λ b o=>g.st b o\/(b=w.heap.size/\False),λ i=>if i=d then some w.heap.size else if Nat.beq i d then none else g.ow i⟩,_,?_,hK⟩
 have hp:=hf.put (d:=o.dst) (λ t ht=>by simp_all)
  (x:=.ptr d 0) (v:=.pointer (some ⟨w.heap.size,0,none⟩)) (.ptr G)
 rw [hd] at hp ⊢
 have hE:EvO (λ i=>Nat.beq i d) w g (w.alloc (.cells v.cells e)) ⟨λ b o=>g.st b o\/(b=w.heap.size/\False),λ i=>if i=d then some w.heap.size else if Nat.beq i d then none else g.ow i⟩:=by
  exact Jj
 refine { hp with ob:=λ id cs' hc=>?_ };simp only [AS.put,aZ] at hc;by_cases e1:d=id
 ·subst e1;simp only [if_true,bx] at hc;subst hc;refine ⟨w.heap.size,v.cells,e,by simp,gP,by simp [lZ,U0],λ o ho=>?_,λ i y hy=>?_⟩
  ·exact M3
  ·simp only [lZ,List.getElem?_map,ro] at hy;obtain ⟨z,hz,rfl⟩:=hy;have hi:i<v.cells.size:=by grind
   exact ⟨v.cells[i],Array.getElem?_eq_getElem hi,(U9 i z _ hz (Array.getElem?_eq_getElem hi)).1.dem hE⟩
 ·rw [if_neg e1] at hc;exact hp.ob id cs' hc
theorem Q3 {x c0:AV}{cs:List AV}{T sz:Nat}(hd:o.dst=some d)(hn:Nat.blt d C.n=true)
  (h:∀ g a w,St C.n C.w0 C.F g ⟨sl,ob⟩ a w->∃ v,(execOp a.eval o).run C.P w=.ok (.value (.pointer (some ⟨w.heap.size,0,none⟩))) (w.alloc (.cells v.cells T))/\ARep w g x v/\v.cells.size=sz/\v.cells[0]? = some (.pointer none))
  (hx:x.cellsA=some (c0::cs))
  (hK:K ⟨(d,.ptr d 0)::(cW (λ i=>Nat.beq i d) ⟨sl,ob⟩).sl,(d,.bptr T sz d::pJ (λ i=>Nat.beq i d) cs)::(cW (λ i=>Nat.beq i d) ⟨sl,ob⟩).ob⟩):bu C o K ⟨sl,ob⟩:=by
 intro g a w hs;obtain ⟨v,h1,h2,hz2,hz0⟩:=h g a w hs;obtain ⟨U0,U9⟩:=lF hx h2;unfold Oper.wp;rw [h1];have hDd:(λ i=>Nat.beq i d) d=true:=by simp
 have hdl:d<M1:=by have h1:=Nat.le_of_ble_eq_true C.nl; grind [Nat.blt_eq]
 have hf:=hs.fresh (λ i=>Nat.beq i d) (λ i hi=>by simp_all) d hDd (λ _=>False) v.cells T;refine ⟨⟨λ b o=>g.st b o\/(b=w.heap.size/\False),λ i=>if i=d then some w.heap.size else if Nat.beq i d then none else g.ow i⟩,_,?_,hK⟩
 have hp:=hf.put (d:=o.dst) (λ t ht=>by simp_all)
  (x:=.ptr d 0) (v:=.pointer (some ⟨w.heap.size,0,none⟩)) (.ptr G)
 rw [hd] at hp ⊢
 have hE:EvO (λ i=>Nat.beq i d) w g (w.alloc (.cells v.cells T)) ⟨λ b o=>g.st b o\/(b=w.heap.size/\False),λ i=>if i=d then some w.heap.size else if Nat.beq i d then none else g.ow i⟩:=by
  exact Jj
 refine { hp with ob:=λ id cs' hc=>?_ };simp only [AS.put,aZ] at hc;by_cases e1:d=id
 ·subst e1;simp only [if_true,bx] at hc;subst hc;refine ⟨w.heap.size,v.cells,T,by simp,gP,by simp [lZ,U0],λ o ho=>?_,λ i y hy=>?_⟩
  ·exact M3
  ·cases i with
   | zero=>
    simp only [List.getElem?_cons_zero,bx] at hy;subst hy;exact ⟨_,hz0,.bptrn G gP hz2⟩
   | succ i=>
    simp only [List.getElem?_cons_succ,lZ,List.getElem?_map,ro] at hy;obtain ⟨z,hz,rfl⟩:=hy;have hz':(c0::cs)[i+1]? = some z:=by grind
    have hi:i+1<v.cells.size:=by grind
    exact ⟨v.cells[i+1],Array.getElem?_eq_getElem hi,(U9 (i+1) z _ hz' (Array.getElem?_eq_getElem hi)).1.dem hE⟩
 ·rw [if_neg e1] at hc;exact hp.ob id cs' hc
theorem EG {t:TypeId}{v:Operand}{x:AV}{cs:List AV}(ho:o.op=.box t v)(hd:o.dst=some d)(hn:Nat.blt d C.n=true)(hx:evo sl v=some x)(hc:x.cellsA=some cs)
  (hK:K ⟨(d,.ptr d 0)::(cW (λ i=>Nat.beq i d) ⟨sl,ob⟩).sl,(d,pJ (λ i=>Nat.beq i d) cs)::(cW (λ i=>Nat.beq i d) ⟨sl,ob⟩).ob⟩):bu C o K ⟨sl,ob⟩ :=
 Mo hd hn (λ g a w hs=>⟨t,a.eval v,by simp [execOp,ho,Instr.box,newVar,newRow],bN hs hx⟩) hc hK
def ib (i:TI):List AV:=i.zero.map λ v=>.p (.val v)
theorem np {P:Program}{tt:List (Nat×TI)}(good:dp P tt){t:Nat}{i:TI}(h:look tt t=some i)(w:World):∃ z,(zeroValue t).run P w=.ok z w/\z.cells.toList=i.zero:=by
 obtain ⟨j,h1,_,_,z,h2,h3⟩:=kg good h
 simp_all [zeroValue,typeInfo]
theorem ny {t:TypeId}{i:TI}(ho:o.op=.alloc t)(hd:o.dst=some d)(hn:Nat.blt d C.n=true)(hi:look C.tt t=some i)(hz:AV.cellsA (.agg (ib i))=some (ib i))
  (hK:K ⟨(d,.ptr d 0)::(cW (λ i=>Nat.beq i d) ⟨sl,ob⟩).sl,(d,pJ (λ i=>Nat.beq i d) (ib i))::(cW (λ i=>Nat.beq i d) ⟨sl,ob⟩).ob⟩):bu C o K ⟨sl,ob⟩:=by
 refine Mo (x:=.agg (ib i)) hd hn (λ g a w hs=>?_) hz hK;obtain ⟨z,h1,h2⟩:=np C.good hi w;refine ⟨t,.agg z.cells,by simp [execOp,ho,Instr.alloc,h1,newVar,newRow,Value.cells],.agg (by grind [ib]) λ k c v h3 h4=>?_⟩;exact KI
theorem sx {t:TypeId}{i:TI}{zs:List Value}(ho:o.op=.alloc t)(hd:o.dst=some d)(hn:Nat.blt d C.n=true)(hi:look C.tt t=some i)(hz0:i.zero=.pointer none::zs)(hz:AV.cellsA (.agg (ib i))=some (ib i))(U0:Nat.beq i.zero.length i.size=true)
  (hK:K ⟨(d,.ptr d 0)::(cW (λ i=>Nat.beq i d) ⟨sl,ob⟩).sl,(d,.bptr t i.size d::pJ (λ i=>Nat.beq i d) (zs.map λ v=>.p (.val v)))::(cW (λ i=>Nat.beq i d) ⟨sl,ob⟩).ob⟩):bu C o K ⟨sl,ob⟩:=by
 have hz':AV.cellsA (.agg (ib i))=some (.p (.val (.pointer none))::zs.map λ v=>.p (.val v)):=by grind [ib]
 have hsz':=cl U0;refine Q3 (x:=.agg (ib i)) hd hn (λ g a w hs=>?_) hz' hK;obtain ⟨z,h1,h2⟩:=np C.good hi w;refine ⟨.agg z.cells,by simp [execOp,ho,Instr.alloc,h1,newVar,newRow,Value.cells],.agg (by grind) (λ k c v h3 h4=>?_),?_,?_⟩
 ·exact KI
 ·show z.cells.size=i.size
  grind
 ·show z.cells[0]? = some (.pointer none);rw [<- Array.getElem?_toList,h2,hz0]; rfl
theorem sU {t:TypeId}{x:Operand}{f off ft id k:Nat}{i j:TI}{fs:List (Nat×Nat)}(ho:o.op=.fieldAddr t x f)(hd:o.dst=some d)(hn:Nat.blt d C.n=true)
  (hi:look C.tt t=some i) (U7:i.k=.struct fs) (hf:fs[f]? = some (off,ft)) (hj:look C.tt ft=some j) (hjs:Nat.beq j.size 0=false)
  (hx:evo sl x=some (.ptr id k)) (hK:K ⟨(d,.ptr id (k+off))::sl,ob⟩):bu C o K ⟨sl,ob⟩:=by
 obtain ⟨u,h1,h2⟩:=bU C.good hi;obtain ⟨fa,rfl,h4⟩:=ji (h2.trans U7);refine ok_one hd hn (λ g a w hs=>?_) hK;have h5:=bN hs hx;generalize hv:a.eval x=v at h5
 cases h5 with
 | ptr how=>
  rename_i b;refine ⟨.pointer (some ⟨b,k+off,none⟩),?_,.ptr how⟩;exact K8
theorem A5 {x:Operand}{id k:Nat}(ho:o.op=.nilCheck x)(hd:o.dst=some d)(hn:Nat.blt d C.n=true)
  (hx:evo sl x=some (.ptr id k)) (hK:K ⟨(d,.ptr id k)::sl,ob⟩):bu C o K ⟨sl,ob⟩:=by
 refine ok_one hd hn (λ g a w hs=>?_) hK;have h5:=bN hs hx;generalize hv:a.eval x=v at h5
 cases h5 with
 | ptr how=>exact ⟨_,by simp [execOp,ho,hv],.ptr how⟩
theorem QP {t e:TypeId}{x:Operand}{i:TI}{id sz off m:Nat}(ho:o.op=.call { callee:=.builtin .len,args:=#[x],argTypes:=#[t] })(hd:o.dst=some d)(hn:Nat.blt d C.n=true)
  (hi:look C.tt t=some i) (U7:i.k=.slice e) (hx:evo sl x=some (.arr id sz off m))
  (hK:K ⟨(d,.p (.val (.int .i64 (m:Int))))::sl,ob⟩):bu C o K ⟨sl,ob⟩:=by
 obtain ⟨u,h1,h2⟩:=bU C.good hi;have h3:=cu (h2.trans U7);subst h3;refine ok_one hd hn (λ g b w hs=>?_) hK;have h5:=bN hs hx;generalize hv:b.eval x=v at h5
 cases h5 with
 | arr how hb' U9 hnc=>exact ⟨_,by rw [nT ho]; simp [builtin,hv,Builtin.len_,run_underlying h1,goInt],.p (.val _)⟩
theorem sy {t:TypeId}{x:Operand}{i:TI}{id k:Nat}{cs:List AV}{y:AV}(ho:o.op=.load t x)(hd:o.dst=some d)(hn:Nat.blt d C.n=true)
  (hi:look C.tt t=some i) (hia:i.k.isAgg=false) (hx:evo sl x=some (.ptr id k)) (hob:look ob id=some cs) (hy:cs[k]? = some y) (hK:K ⟨(d,y)::sl,ob⟩):bu C o K ⟨sl,ob⟩:=by
 refine ok_one hd hn (λ g a w hs=>?_) hK;have h5:=bN hs hx;generalize hv:a.eval x=v at h5
 cases h5 with
 | ptr how=>
  obtain ⟨b',c,e,k1,k2,k3,k4,k5⟩:=hs.ob id cs hob;rw [how] at k1; cases k1;obtain ⟨u,hu,hr⟩:=k5 k y hy;have hc:=(qY hs k2 k).trans hu;exact ⟨u,by simp [execOp,ho,hv,Instr.loadAt,Instr.sureAddr,rM C.good hi hia hc],hr⟩
theorem vB {t:TypeId}{x:Operand}{i:TI}{id k:Nat}{cs:List AV}(ho:o.op=.load t x)(hd:o.dst=some d)(hn:Nat.blt d C.n=true)
  (hi:look C.tt t=some i) (hia:i.k.isAgg=true) (hx:evo sl x=some (.ptr id k)) (hob:look ob id=some cs) (hl:Nat.ble (k+i.size) cs.length=true) {y:AV} (hy:some (pf ((cs.drop k).take i.size))=some y)
  (hK:K ⟨(d,y)::sl,ob⟩):bu C o K ⟨sl,ob⟩:=by
 cases hy
 refine ok_one hd hn (λ g a w hs=>?_) hK;have h5:=bN hs hx;have hl':=Nat.le_of_ble_eq_true hl;generalize hv:a.eval x=v at h5
 cases h5 with
 | ptr how=>
  rename_i b;obtain ⟨b',c,e,k1,k2,k3,k4,k5⟩:=hs.ob id cs hob;rw [how] at k1; cases k1
  have hc:∀ j,j<i.size->w.cell? ⟨b,k+j,none⟩=some (c.getD (k+j) Go.undef):=by
   intro j hj;rw [qY hs k2];have:k+j<c.size:=by omega
   simp_all
  have hld:=rJ C.good hi hia (f:=λ j=>c.getD (k+j) Go.undef) hc;refine ⟨.agg ((List.range i.size).map λ j=>c.getD (k+j) Go.undef).toArray,by grind [execOp,Instr.loadAt,Instr.sureAddr,Sem.run_bind,Sem.run_pure,Result.andThen_ok],sd jW λ j y v h1 h2=>?_⟩;exact Ld
theorem mJ {α:Type}(l xs:List α)(k:Nat)(h:k+xs.length<=l.length)(i:Nat) :
  (l.take k++xs++l.drop (k+xs.length))[i]? = if k<=i/\i<k+xs.length then xs[i-k]? else l[i]?:=by
 grind [List.getElem?_append_right]
def qu (cs:List AV)(k:Nat)(xs:List AV):List AV:=match xs with
 | [x]=>cs.set k x
 | _=>cs.take k++xs++cs.drop (k+xs.length)
theorem Bv (cs:List AV)(k:Nat)(xs:List AV)(h:k+xs.length<=cs.length)(i:Nat):(qu cs k xs)[i]? = if k<=i/\i<k+xs.length then xs[i-k]? else cs[i]?:=by
 have gen:=mJ cs xs k h i;unfold qu;split
 ·grind
 grind
theorem vO (cs:List AV)(k:Nat)(xs:List AV)(h:k+xs.length<=cs.length):(qu cs k xs).length=cs.length:=by
 unfold qu
 grind
theorem qw {t:TypeId}{x v:Operand}{i:TI}{id k:Nat}{cs xs:List AV}{y:AV}(ho:o.op=.store t x v)(hd:o.dst=none)
  (hi:look C.tt t=some i) (hx:evo sl x=some (.ptr id k)) (hv:evo sl v=some y) (hc:y.cellsA=some xs) (U0:xs.length=i.size) (hob:look ob id=some cs) (hl:k+xs.length<=cs.length)
  (hK:K ⟨sl,(id,qu cs k xs)::ob⟩):bu C o K ⟨sl,ob⟩:=by
 intro g a w hs;have h5:=bN hs hx;have h6:=bN hs hv;obtain ⟨hs1,hs2⟩:=lF hc h6;generalize U4:a.eval x=u at h5
 cases h5 with
 | ptr how=>
  rename_i b;obtain ⟨b',c,e,k1,k2,k3,k4,k5⟩:=hs.ob id cs hob;rw [how] at k1; cases k1
  have Vh:∀ u∈(a.eval v).cells.toList,u.oneCell'=true:=by
   intro u hu;obtain ⟨j,hj,rfl⟩:=List.getElem_of_mem hu;simp only [Array.length_toList] at hj;exact (hs2 j (xs[j]' O) _ (List.getElem?_eq_getElem O) (by simp [hj])).2
  have Va:=run_storeCells_at C.P b k e (a.eval v).cells.toList 0 c w k2 jW Vh;simp only [Nat.add_zero,Array.length_toList] at Va;obtain ⟨c',hc'⟩:∃ c',c'=(c.toList.take k++(a.eval v).cells.toList++c.toList.drop (k+(a.eval v).cells.size)).toArray:=⟨_,rfl⟩
  rw [<- hc'] at Va;have hsz':=run_sizeOf C.good hi w;have Vs:(a.eval v).cells.size=i.size:=hs1.trans U0;unfold Oper.wp
  have hrun:(execOp a.eval o).run C.P w=.ok .skip (w.setRow b c'):=by
   simp_all [execOp,Instr.storeAt,Instr.sureAddr,storeVar]
  rw [hrun];simp only [Oper.upon,hd,Act.put]
  have U6:∀ j,c'[j]? = if k<=j/\j<k+xs.length then (a.eval v).cells[j-k]? else c[j]?:=by
   grind [mJ]
  have hsize':c'.size=c.size:=by
   grind
  have hev':Ev w g.st (w.setRow b c') g.st:=by
   intro b2 o2 h2
   grind [World.cell?,setRow_other]
  have hE:EvO (λ _=>false) w g (w.setRow b c') g:=by
   refine ⟨hev',λ id b _ h=>h,λ id b2 c2 e2 _ h h2=>?_,λ id b o _ _ h=>h,λ id b2 es2 k2' _ h h2=>(setRow_other w b b2 c' (λ e=>by grind)).trans h2,λ _ _=>rfl,λ id b2 o _ _ h=>setRow_other w b b2 c' (λ e=>k4 o (e ▸ h))⟩
   grind [setRow_heap,setRow_other]
  refine ⟨g,⟨sl,(id,qu cs k xs)::ob⟩,?_,hK⟩;refine ⟨hs.nd,hs.sz,λ j=>(hs.sl j).mono hE,λ id' cs' h'=>?_,hs.inj,λ j b2 h=>?_,λ b2 o2 h=>?_,hs.fl,λ b2 h=>?_,hs.os,hs.out,hs.tape,?_,hs.stf,hs.owf,hs.shf.next (λ _ b c e _ _ h=>(pZ k2 hsize').1 b c e h),hs.nst,hs.ev0.trans hev'⟩
  ·simp only [aZ] at h';by_cases e1:id=id'
   ·subst e1;simp only [if_true,bx] at h';subst h';refine ⟨b,c',e,how,setRow_heap w b c c' e (0,0) k2,by grind [vO],k4,λ j y hy=>?_⟩;rw [Bv _ _ _ hl] at hy;split at hy
    ·rename_i hj;have hlt:j-k<(a.eval v).cells.size:=by omega
     refine ⟨(a.eval v).cells[j-k],?_,((hs2 (j-k) y _ hy (Array.getElem?_eq_getElem hlt)).1).mono hE⟩
     grind
    ·rename_i hj;obtain ⟨u,hu,hr⟩:=k5 j y hy;exact ⟨u,by grind,hr.mono hE⟩
   ·rw [if_neg e1] at h';obtain ⟨b2,c2,e2,m1,m2,m3,m4,m5⟩:=hs.ob id' cs' h';have Vs:b2≠b:=λ e=>e1 (hs.inj _ _ _ how (e ▸ m1));refine ⟨b2,c2,e2,m1,(setRow_other w b b2 c' Vs).trans m2,m3,m4,λ j y hy=>?_⟩;obtain ⟨u,hu,hr⟩:=m5 j y hy;exact ⟨u,hu,hr.mono hE⟩
  ·have:=hs.own j b2 h; simp_all
  ·have:=hs.lt b2 o2 h; simp_all
  ·have Vs:b2≠b:=λ e=>(hs.own id b how).2 (e ▸ h);exact (setRow_other w b b2 c' Vs).trans (hs.fr b2 h)
  ·have:=hs.size; simp_all
end
theorem Md (h:p:=by
 have hs':St C.n C.w0 C.F ⟨g'.st,g.ow⟩ ⟨sl,ob⟩ a w':=by
  refine hs.evolve0 (λ b o h=>?_) (λ id b h=>?_) hs.inj (λ i b h=>?_) hA.lt (λ b h=>?_) hA.os hA.out hA.tape hA.size (λ b hb o=>?_) (λ _ _=>rfl)
  ·have hlt:=hs.lt b o h;exact ⟨(hA.stf b hlt o).2 h,by simp only [World.cell?,hA.fr b hlt]⟩
  ·have hlt:=(hs.own id b h).1;exact ⟨h,hA.fr b hlt,λ o ho=>(hA.stf b hlt o).1 ho⟩
  ·have:=hs.own i b h; have:=hA.size; grind
  ·have:=hs.fl b h; have:=hs.size; exact hA.fr b O
  ·have:=hs.fl b hb; have:=hs.size; exact hA.stf b O o
 have hp:=hs'.put (d:=o.dst) (λ t ht=>by simp_all) (E6 (g:=g') (g':=⟨g'.st,g.ow⟩) Z hr' hr);rw [hd] at hp;simp only;rw [hd]
 exact ⟨_,_,hp,hK'⟩):p:=h
theorem Lh (h:p:=by
 refine ⟨by simp [h1],λ j x' y' hx hy=>?_⟩
 cases j with
 | zero=>simp only [List.getElem?_cons_zero,bx] at hx hy; subst hx hy; exact h.1
 | succ j=>grind):p:=h
def AV.toPV:AV->Option PV
 | .p (.val (.slice none 0 0))=>some (.slice [])
 | .p x=>some x
 | .vec _ _ _ es=>some (.slice es)
 | .agg cs=>match go cs with
  | some l=>some (.agg l)
  | none=>none
 | _=>none where
 go:List AV->Option (List PV)
 | []=>some []
 | .p x::r=>match go r with
  | some l=>some (x::l)
  | none=>none
 | .vec _ _ _ es::r=>match go r with
  | some l=>some (.slice es::l)
  | none=>none
 | _::_=>none
theorem zX {w:World}{g:Gh}:∀ {cs:List AV} {l:List PV},AV.toPV.go cs=some l->cs.length=l.length/\∀ (i:Nat) c y v,cs[i]? = some c->l[i]? = some y->ARep w g c v->PRep w g.st y v
 | [],l,h=>by grind [AV.toPV.go]
 | x::r,l,h=>by
  unfold AV.toPV.go at h;split at h
  ·grind
  ·rename_i x0 r0 e; cases e;split at h
   ·rename_i l' h'; cases h;obtain ⟨h1,h2⟩:=zX (w:=w) (g:=g) h';refine ⟨by simp [h1],λ i c y v hc hy hv=>?_⟩
    cases i with
    | zero=>simp only [List.getElem?_cons_zero,bx] at hc hy; subst hc hy; cases hv with|p h=>exact h
    | succ i=>grind
   ·cases h
  ·rename_i t0 s0 e0 r0 e; cases e;split at h
   ·rename_i l' h'; cases h;obtain ⟨h1,h2⟩:=zX (w:=w) (g:=g) h'
    grind [mT]
   ·cases h
  ·cases h
theorem yt {w:World}{g:Gh}{x:AV}{y:PV}{v:Value}(hx:x.toPV=some y)(h:ARep w g x v):PRep w g.st y v:=by
 unfold AV.toPV at hx;split at hx
 ·cases hx; cases h with|p h=>cases h; exact .nils
 ·cases hx; cases h with|p h=>exact h
 ·grind [mT]
 ·split at hx
  ·rename_i cs _ l h'
   cases hx
   cases h with
   | agg hl hh=>
    rename_i vs;obtain ⟨h1,h2⟩:=zX (w:=w) (g:=g) h';refine .agg O λ i y v hy hv=>?_
    have hi:i<cs.length:=by
     grind
    exact h2 i cs[i] y v (List.getElem?_eq_getElem hi) hy (by grind)
  ·cases hx
 ·cases hx
section
variable {C:Cx} {o:Oper} {K:AS->Prop} {sl:List (Nat×AV)} {ob:List (Nat×List AV)} {d:Nat}
theorem Hv {t:TypeId}{x:Operand}{f off ft:Nat}{i j:TI}{fs:List (Nat×Nat)}{cs:List PV}{c:PV}(ho:o.op=.field t x f)(hd:o.dst=some d)(hn:Nat.blt d C.n=true)
  (hi:look C.tt t=some i) (U7:i.k=.struct fs) (hf:fs[f]? = some (off,ft)) (hj:look C.tt ft=some j) (hja:j.k.isAgg=false)
  (hx:evo sl x=some (.p (.agg cs))) (hc:cs[off]? = some c) (hK:K ⟨(d,.p c)::sl,ob⟩):bu C o K ⟨sl,ob⟩:=by
 obtain ⟨u,h1,h2⟩:=bU C.good hi;obtain ⟨fa,rfl,h4⟩:=ji (h2.trans U7);refine ok_one hd hn (λ g a w hs=>?_) hK;have h5:=bN hs hx;generalize hv:a.eval x=v at h5
 cases h5 with
 | p h5=>
  cases h5 with
  | agg hl hh=>
   rename_i vs;rw [<- h4] at hf;simp only [List.getElem?_map,Array.getElem?_toList,ro,Prod.mk.injEq] at hf;obtain ⟨fl,hf1,hf2,hf3⟩:=hf;subst hf2 hf3;have hlt:fl.offset<vs.size:=by grind
   exact ⟨vs[fl.offset],by simp [execOp,ho,hv,Instr.field,run_underlying h1,hf1,asAgg,part,oO C.good hj,hja,hlt],.p (hh _ c _ hc (Array.getElem?_eq_getElem hlt))⟩
theorem HU {t:TypeId}{x:Operand}{f off ft:Nat}{i j:TI}{fs:List (Nat×Nat)}{cs:List PV}(ho:o.op=.field t x f)(hd:o.dst=some d)(hn:Nat.blt d C.n=true)
  (hi:look C.tt t=some i) (U7:i.k=.struct fs) (hf:fs[f]? = some (off,ft)) (hj:look C.tt ft=some j) (hja:j.k.isAgg=true)
  (hx:evo sl x=some (.p (.agg cs))) (hl':Nat.ble (off+j.size) cs.length=true) (hK:K ⟨(d,.p (.agg ((cs.drop off).take j.size)))::sl,ob⟩):bu C o K ⟨sl,ob⟩:=by
 obtain ⟨u,h1,h2⟩:=bU C.good hi;obtain ⟨fa,rfl,h4⟩:=ji (h2.trans U7);refine ok_one hd hn (λ g a w hs=>?_) hK;have h5:=bN hs hx;have hle:=Nat.le_of_ble_eq_true hl';generalize hv:a.eval x=v at h5
 cases h5 with
 | p h5=>
  cases h5 with
  | agg hl hh=>
   rename_i vs;rw [<- h4] at hf;simp only [List.getElem?_map,Array.getElem?_toList,ro,Prod.mk.injEq] at hf;obtain ⟨fl,hf1,hf2,hf3⟩:=hf;subst hf2 hf3;refine ⟨.agg (vs.extract fl.offset (fl.offset+j.size)),by simp [execOp,ho,hv,Instr.field,run_underlying h1,hf1,asAgg,part,oO C.good hj,hja,run_sizeOf C.good hj],.p (.agg jW λ k c v h6 h7=>?_)⟩
   grind
def vY (place:Nat->Option (Nat×Nat))(cs:List AV):List (Nat×AV)->Option (List AV)
 | []=>some cs
 | (i,v)::r=>match place i,v.cellsA with
  | some (off,size),some xs=>bif Nat.beq xs.length size&&Nat.ble (off+size) cs.length then vY place (qu cs off xs) r else none
  | _,_=>none
theorem uS {w:World}{g:Gh}{place:Nat->Option (Nat×Nat)}:∀ (ps:List (Nat×AV)) (vs:List (Nat×Value)) (cs cs':List AV) (c:Array Value),
  ps.length=vs.length->(∀ (k:Nat) p q,ps[k]? = some p->vs[k]? = some q->p.1=q.1/\ARep w g p.2 q.2) ->
  c.size=cs.length->(∀ (i:Nat) x v,cs[i]? = some x->c[i]? = some v->ARep w g x v)->vY place cs ps=some cs' ->
  ∃ c',Instr.fill place c vs=some c'/\c'.size=cs'.length/\∀ (i:Nat) x v,cs'[i]? = some x->c'[i]? = some v->ARep w g x v
 | [],[],cs,cs',c,_,_,hc,hcc,h=>by
  simp only [vY,bx] at h; subst h;exact ⟨c,rfl,hc,hcc⟩
 | [],_::_,_,_,_,hl,_,_,_,_=>by simp at hl
 | _::_,[],_,_,_,hl,_,_,_,_=>by simp at hl
 | (i,x)::ps,(i',v)::vs,cs,cs',c,hl,hp,hc,hcc,h=>by
  obtain ⟨e,hxv⟩:=hp 0 (i,x) (i',v) Z Z;simp only at e hxv;subst e;simp only [vY] at h;split at h
  ·rename_i off size xs hpl hxs
   cases hb:(Nat.beq xs.length size&&Nat.ble (off+size) cs.length) <;> rw [hb] at h <;> simp only [cond_true,cond_false,reduceCtorEq] at h
   simp only [py] at hb;have e1:xs.length=size:=cl hb.1;have e2:off+size<=cs.length:=Nat.le_of_ble_eq_true hb.2;obtain ⟨U0,hcells⟩:=lF hxs hxv;obtain ⟨g1,g2⟩:=Great.foldl_set off v.cells.toList 0 c;obtain ⟨c1,hc1⟩:∃ c1,c1=(v.cells.toList.zipIdx 0).foldl (λ cs (x:Value×Nat)=>cs.setIfInBounds (off+x.2) x.1) c:=⟨_,rfl⟩
   rw [<- hc1] at g1
   obtain ⟨c',h1,h2,h3⟩:=uS ps vs (qu cs off xs) cs' c1 (by grind) (λ k p q h1 h2=>hp (k+1) p q (by grind) (by grind))
    (by grind [vO]) (λ k y u hy hu=>by
     grind [Bv]) h
   grind [Instr.fill,Array.toList_zipIdx]
  ·cases h
def gw (sl:List (Nat×AV)):List (Nat×Operand)->Option (List (Nat×AV))
 | []=>some []
 | (i,x)::r=>match evo sl x,gw sl r with
  | some y,some l=>some ((i,y)::l)
  | _,_=>none
theorem rA {n:Nat}{w0:Base}{w:World}{F:Nat->Prop}{g:Gh}{a:Act}(hs:St n w0 F g ⟨sl,ob⟩ a w):∀ (ps:List (Nat×Operand)) (l:List (Nat×AV)),gw sl ps=some l ->
  l.length=(ps.map λ p=>(p.1,a.eval p.2)).length/\∀ (k:Nat) p q,l[k]? = some p->(ps.map λ p=>(p.1,a.eval p.2))[k]? = some q->p.1=q.1/\ARep w g p.2 q.2
 | [],l,h=>by grind [gw]
 | (i,x)::r,l,h=>by
  simp only [gw] at h;split at h
  ·rename_i y l' hy hl'
   cases h
   obtain ⟨h1,h2⟩:=rA hs r l' hl'
   grind [bN]
  ·cases h
def sH (tt:List (Nat×TI)):List (Nat×Nat)->Option (List (Nat×Nat))
 | []=>some []
 | (off,ft)::r=>match look tt ft,sH tt r with
  | some j,some l=>some ((off,j.size)::l)
  | _,_=>none
theorem wd {P:Program}{tt:List (Nat×TI)}(good:dp P tt)(w:World):∀ (fs:List Field) (l:List (Nat×Nat)),sH tt (fs.map λ f=>(f.offset,f.type))=some l ->
  (fs.mapM (m:=Sem) λ f=>do pure (f.offset,<- sizeOf f.type)).run P w=.ok l w
 | [],l,h=>by simp_all [sH]
 | f::r,l,h=>by
  simp only [n7,sH] at h;split at h
  ·rename_i j l' hj hl'
   cases h
   have ih:=wd good w r l' hl';simp only [Sem.run_bind,bind_pure_comp] at ih;simp [run_sizeOf good hj,ih]
  ·cases h
theorem rV {t:TypeId}{parts:Array (Nat×Operand)}{i:TI}{fs pl:List (Nat×Nat)}{ps:List (Nat×AV)}{cs:List AV}{y:AV}(ho:o.op=.build t parts)(hd:o.dst=some d)(hn:Nat.blt d C.n=true)
  (hi:look C.tt t=some i) (U7:i.k=.struct fs) (hpl:sH C.tt fs=some pl) (hps:gw sl parts.toList=some ps) (hf:vY (λ (i:Nat)=>pl[i]?) (ib i) ps=some cs) (hy:some (pf cs)=some y)
  (hK:K ⟨(d,y)::sl,ob⟩):bu C o K ⟨sl,ob⟩:=by
 cases hy
 obtain ⟨u,h1,h2⟩:=bU C.good hi;obtain ⟨fa,rfl,h4⟩:=ji (h2.trans U7);refine ok_one hd hn (λ g a w hs=>?_) hK;obtain ⟨z,hz1,hz2⟩:=np C.good hi w;obtain ⟨q1,q2⟩:=rA hs _ ps hps;rw [<- h4] at hpl;have hpr:=wd C.good w fa.toList pl hpl
 obtain ⟨c',f1,f2,f3⟩:=uS (place:=λ (i:Nat)=>pl[i]?) ps (parts.toList.map λ p=>(p.1,a.eval p.2)) (ib i) cs z.cells q1 q2 (by grind [ib]) (λ k x v hx hv=>by
  simp only [ib,List.getElem?_map,ro,<- hz2,Array.getElem?_toList] at hx;obtain ⟨u,hu,rfl⟩:=hx;rw [hv] at hu; cases hu
  exact .p (.val _)) hf
 refine ⟨.agg c',?_,sd f2 f3⟩;have e1:(parts.map λ (i,x)=>(i,a.eval x)).toList=parts.toList.map λ p=>(p.1,a.eval p.2):=by simp_all
 have e2:(fa.mapM (m:=Sem) λ f=>do pure (f.offset,<- sizeOf f.type)).run C.P w=.ok pl.toArray w:=by
  simp_all [Array.mapM_eq_mapM_toList]
 have e3:(λ (i:Nat)=>(pl.toArray)[i]?)=λ (i:Nat)=>pl[i]?:=by grind
 simp only [execOp,ho,Instr.build,Sem.run_bind,hz1,Result.andThen_ok,run_underlying h1,e2,e1,e3,f1,Sem.run_pure]
def qf (sl:List (Nat×AV)):Nat->List (Nat×Operand)->Option (List PV)
 | _,[]=>some []
 | k,(i,x)::r=>bif Nat.beq i k then match evo sl x,qf sl (k+1) r with
  | some y,some l=>match y.toPV with
   | some z=>some (z::l)
   | none=>none
  | _,_=>none
  else none
theorem we {n:Nat}{w0:Base}{w:World}{F:Nat->Prop}{g:Gh}{a:Act}(hs:St n w0 F g ⟨sl,ob⟩ a w):∀ (ps:List (Nat×Operand)) (k:Nat) (l:List PV),qf sl k ps=some l ->
  ps.map (λ p=>(p.1,a.eval p.2))=((ps.map λ p=>a.eval p.2).zipIdx k).map (λ x=>(x.2,x.1))/\l.length=ps.length /\
  ∀ (j:Nat) y v,l[j]? = some y->(ps.map λ p=>a.eval p.2)[j]? = some v->PRep w g.st y v
 | [],k,l,h=>by simp_all [qf]
 | (i,x)::r,k,l,h=>by
  simp only [qf] at h
  cases hb:Nat.beq i k <;> rw [hb] at h <;> simp only [cond_true,cond_false,reduceCtorEq] at h
  have e:i=k:=cl hb;subst e;split at h
  ·rename_i y l' hy hl';split at h
   ·rename_i z hz
    cases h
    obtain ⟨h1,h2,h3⟩:=we hs r (i+1) l' hl'
    grind [List.zipIdx_cons,yt,bN]
   ·cases h
  ·cases h
theorem wV {w:World}{st:Nat->Nat->Prop}{x:PV}{v:Value}(h:PRep w st x v)(ho:PV.onesB x.cells=true) :
  v.cells.size=x.cells.length/\∀ (i:Nat) c u,x.cells[i]? = some c->v.cells[i]? = some u->PRep w st c u/\u.oneCell'=true:=by
 have single:x.one=true->x.cells=[x]->v.cells.size=x.cells.length/\∀ (i:Nat) c u,x.cells[i]? = some c->v.cells[i]? = some u->PRep w st c u/\u.oneCell'=true:=by
  grind [PV.one_rep,uF]
 cases h with
 | val v=>grind [kp,PV.cells]
 | agg hl hh=>
  refine ⟨hl,λ i c u h1 h2=>?_⟩;have h4:=hh i c u h1 h2
  grind [PV.one_rep,kp]
 | ifc=>exact single Z Z
 | aint=>exact single Z Z
 | nils=>exact single Z Z
 | nile a=>exact single Z Z
 | slice=>exact single Z Z
def ve (k:Nat):List PV->Bool|[]=>true|x::r=>Nat.beq x.cells.length k&&PV.onesB x.cells&&ve k r
theorem mZ {k:Nat}:∀ {l:List PV},ve k l=true->∀ x,x∈l->x.cells.length=k/\PV.onesB x.cells=true
 | [],_,_,h=>by simp at h
 | y::r,h,x,hx=>by
  simp only [ve,py] at h;rcases qr.1 hx with rfl|hx
  ·simp_all
  ·exact mZ h.2 x hx
theorem KF {w:World}{st:Nat->Nat->Prop}{es:List PV}{vs:List Value}{k:Nat}{r:Array Value}{e:TypeId}(hk:0<k)(hl:es.length=vs.length)(hlt:∀ b o,st b o->b<w.heap.size)
  (hr:∀ (j:Nat) y v,es[j]? = some y->vs[j]? = some v->PRep w st y v) (U0:ve k es=true)
  (hrs:r.size=es.length*k) (hrk:∀ m,m<es.length*k->r[m]? = (vs[m / k]?).bind (λ v=>v.cells[m%k]?)) (cap:Nat) (hcap:es.length<=cap) :
  PRep (w.alloc (.cells r e)) (λ b o=>st b o\/(b=w.heap.size/\o<es.length*k)) (.slice es) (.slice (some ⟨w.heap.size,0,none⟩) es.length cap):=by
 have U4:=o9 (w:=w) (T:=λ o=>o<es.length*k) (ob:=.cells r e) hlt
 have key:∀ (i:Nat) y (j:Nat) c,es[i]? = some y->y.cells[j]? = some c->i*k+j<es.length*k/\∃ v u,vs[i]? = some v/\v.cells[j]? = some u/\PRep w st c u/\u.oneCell'=true:=by
  intro i y j c hy hc;obtain ⟨m1,m2⟩:=mZ U0 y (List.mem_of_getElem? hy);have hi:i<es.length:=(List.getElem?_eq_some_iff.1 hy).1;have hj:j<k:=by grind
  have h1:(i+1)*k<=es.length*k:=Nat.mul_le_mul_right k O;rw [Nat.add_mul] at h1;refine ⟨by omega,vs[i]' O,?_⟩;have hp:=hr i y _ hy (List.getElem?_eq_getElem O);obtain ⟨q1,q2⟩:=wV hp m2;have hj':j<(vs[i]' O).cells.size:=by omega
  obtain ⟨q3,q4⟩:=q2 j c _ hc (Array.getElem?_eq_getElem hj')
  grind
 refine .slice k (λ i j=>r.getD (i*k+j) Go.undef) hcap (λ y hy=>(mZ U0 y hy).1) (λ y hy c hc=>kp (mZ U0 y hy).2 c hc) (λ i y j c hy hc=>?_) (λ i y j c hy hc=>?_)
 ·simp_all [Array.getD]
 ·obtain ⟨h1,v,u,h2,h3,h4,_⟩:=key i y j c hy hc;have hj:j<k:=by grind [mZ]
  have e1:r[i*k+j]? = some u:=by
   simp_all [Nat.mul_comm,Nat.mul_add_div,Nat.div_eq_of_lt,Nat.mod_eq_of_lt]
  rw [Array.getD_eq_getD_getElem?,e1];exact h4.mono U4
theorem yI {t e len:Nat}{parts:Array (Nat×Operand)}{i ie:TI}{es:List PV}(ho:o.op=.buildSlice t len parts)(hd:o.dst=some d)(hn:Nat.blt d C.n=true)
  (hi:look C.tt t=some i) (U7:i.k=.slice e) (hie:look C.tt e=some ie) (hes:qf sl 0 parts.toList=some es) (Pn:Nat.beq es.length len=true) (hpos:Nat.blt 0 len=true)
  (hk:Nat.blt 0 ie.size=true) (hsm:Nat.ble (len*ie.size) 16777216=true) (U0:ve ie.size es=true) (hzl:Nat.beq ie.zero.length ie.size=true)
  (hK:K ⟨(d,.p (.slice es))::sl,ob⟩):bu C o K ⟨sl,ob⟩:=by
 obtain ⟨u,h1,h2⟩:=bU C.good hi;have h3:=cu (h2.trans U7);subst h3;have hlen':es.length=len:=cl Pn;have hpos':0<len:=by simp_all
 have hk':0<ie.size:=by simp_all
 have hsm':=Nat.le_of_ble_eq_true hsm;have hzl':=cl hzl;obtain ⟨j,hj,hj1,hj2,z,hz1,hz2⟩:=kg C.good hie;intro g a w hs;obtain ⟨q1,q2,q3⟩:=we hs _ 0 es hes;obtain ⟨vs,hvs⟩:∃ vs,vs=parts.toList.map λ p=>a.eval p.2:=⟨_,rfl⟩
 rw [<- hvs] at q1 q3;have hvl:es.length=vs.length:=by grind
 have hzs:z.cells.size=ie.size:=by grind
 have hvsz:∀ v∈vs,v.cells.size=ie.size:=by
  intro v hv;obtain ⟨m,hm,rfl⟩:=List.getElem_of_mem hv;have hp:=q3 m (es[m]' O) _ (List.getElem?_eq_getElem O) (List.getElem?_eq_getElem hm);obtain ⟨m1,m2⟩:=mZ U0 (es[m]' O) (List.getElem_mem _)
  grind [wV]
 obtain ⟨r,f1,f2,f3⟩:=Great.fill_dense hk' vs 0 ((Array.range (len*ie.size)).map (z.cells[· % z.cells.size]!)) hvsz (by grind)
 have f1':Instr.fill (λ i=>some (i*ie.size,ie.size)) ((Array.range (len*ie.size)).map (z.cells[· % z.cells.size]!)) (parts.map λ (i,x)=>(i,a.eval x)).toList=some r:=by
  simp_all
 have hrun:=run_buildSlice (P:=C.P) w t e len (parts.map λ (i,x)=>(i,a.eval x)) r j z h1 hj hz1 (by grind) (by rw [hj1]; have:=Nat.mul_pos hpos' hk'; omega) (by grind);unfold Oper.wp
 have hrun':(execOp a.eval o).run C.P w=.ok (.value (.slice (some ⟨w.heap.size,0,none⟩) len len)) (w.alloc (.cells r e)):=by
  grind [execOp,Sem.run_bind,Result.andThen_ok,Sem.run_pure]
 rw [hrun'];have hprep:=KF (e:=e) hk' hvl hs.lt q3 U0 (r:=r) (by grind) (λ m hm=>by grind) len O;have Va:=(hs.settled (λ o=>o<es.length*ie.size) r e).put (d:=o.dst) (λ t ht=>by simp_all) (.p hprep);rw [hlen'] at Va;simp only [Oper.upon];rw [hd] at Va ⊢;exact ⟨_,_,Va,hK⟩
def kM (sl:List (Nat×AV)):List Operand->Option (List AV)
 | []=>some []
 | x::r=>match evo sl x,kM sl r with
  | some y,some l=>some (y::l)
  | _,_=>none
def Co:List AV->List PV->Prop|[],[]=>True|x::r,y::q=>x.sub (.p y)/\Co r q|_,_=>False
theorem lf {n:Nat}{w0:Base}{w:World}{F:Nat->Prop}{g:Gh}{a:Act}(hs:St n w0 F g ⟨sl,ob⟩ a w):∀ (xs:List Operand) (l:List AV),kM sl xs=some l ->
  l.length=xs.length/\∀ (j:Nat) y v,l[j]? = some y->(xs.map a.eval)[j]? = some v->ARep w g y v
 | [],l,h=>by grind [kM]
 | x::r,l,h=>by
  simp only [kM] at h;split at h
  ·rename_i y l' hy hl'
   cases h
   obtain ⟨h1,h2⟩:=lf hs r l' hl'
   grind [bN]
  ·cases h
theorem xJ:∀ {l:List AV} {q:List PV},Co l q->l.length=q.length/\∀ (j:Nat) x y,l[j]? = some x->q[j]? = some y->x.sub (.p y)
 | [],[],_=>⟨Z,by simp⟩
 | [],_::_,h=>h.elim
 | _::_,[],h=>h.elim
 | x::r,y::q,h=>by
  obtain ⟨h1,h2⟩:=xJ h.2;exact Lh
def AV.settle:AV->Option AV
 | .p x=>some (.p x)
 | .vec _ _ _ es=>some (.p (.slice es))
 | .tuple l=>match go l with
  | some l=>some (.tuple l)
  | none=>none
 | .agg cs=>match AV.toPV (.agg cs) with
  | some y=>some (.p y)
  | none=>none
 | _=>none where
 go:List AV->Option (List AV)
 | []=>some []
 | x::r=>match AV.toPV x,go r with
  | some y,some l=>some (.p y::l)
  | _,_=>none
theorem yV {w:World}{g g':Gh}(Va:g'.st=g.st):∀ {l l':List AV},AV.settle.go l=some l'->l.length=l'.length/\∀ (j:Nat) x y v,l[j]? = some x->l'[j]? = some y->ARep w g x v->ARep w g' y v
 | [],l',h=>by grind [AV.settle.go]
 | x::r,l',h=>by
  simp only [AV.settle.go] at h;split at h
  ·rename_i y l0 hy h0
   cases h
   obtain ⟨h1,h2⟩:=yV (w:=w) Va h0;refine ⟨by simp [h1],λ j x' y' v hx hy' hv=>?_⟩
   cases j with
   | zero=>simp only [List.getElem?_cons_zero,bx] at hx hy'; subst hx hy'; exact .p (Va ▸ yt hy hv)
   | succ j=>grind
  ·cases h
theorem E6 {w:World}{g g':Gh}(Va:g'.st=g.st){x y:AV}{v:Value}(hx:x.settle=some y)(h:ARep w g x v):ARep w g' y v:=by
 unfold AV.settle at hx;split at hx
 ·cases hx; cases h with|p h=>exact .p (Va ▸ h)
 ·cases hx; exact .p (Va ▸ mT (.inr ⟨_,_,_,rfl⟩) h)
 ·split at hx
  ·rename_i l _ l' h'
   cases hx
   cases h with
   | tuple hl hh=>
    obtain ⟨h1,h2⟩:=yV (w:=w) Va h';refine .tuple O λ i c v hc hv=>?_;have hi:i<l.length:=by grind
    exact h2 i l[i] c v (List.getElem?_eq_getElem hi) hc (by grind)
  ·cases hx
 ·split at hx
  ·rename_i y' h'; cases hx; exact .p (Va ▸ yt h' h)
  ·cases hx
 ·cases hx
theorem Qr {f:FuncId}{args:Array Operand}{ts:Array TypeId}{l:List AV}{q:List PV}{R:AV->Prop}(hc:bA C.P f q R)(ho:o.op=.call { callee:=.value (.func f),args:=args,argTypes:=ts })
  (hd:o.dst=some d) (hn:Nat.blt d C.n=true) (hl:kM sl args.toList=some l) (hq:Co l q) (henter:∀ vs w,(callFunc f vs).run C.P w=.ok (.enter f vs) w)
  (hK:∀ r,R r->∃ r',r.settle=some r'/\K ⟨(d,r')::sl,ob⟩):bu C o K ⟨sl,ob⟩:=by
 intro g a w hs;obtain ⟨a1,a2⟩:=lf hs _ l hl;obtain ⟨b1,b2⟩:=xJ hq
 have hargs:∀ (i:Nat) c v,q[i]? = some c->(args.map a.eval)[i]? = some v->PRep w g.st c v:=by
  intro i c v hc hv;have hi:i<l.length:=by grind
  have hv':(args.toList.map a.eval)[i]? = some v:=by grind
  have h1:=b2 i l[i] c (List.getElem?_eq_getElem hi) hc w g v (by grind)
  cases h1 with
  | p h1=>exact h1
 have hcall:=hc w g.st (args.map a.eval) hs.ok0 (by grind) hargs;unfold Oper.wp
 have hrun:(execOp a.eval o).run C.P w=.ok (.enter f (args.map a.eval)) w:=by
  grind [execOp,resolve,Act.eval,Deferred.ofValue,invoke]
 rw [hrun];simp only [Oper.upon];refine hcall.mono λ e w' ⟨v,r,g',he,hR,hr,hA⟩=>?_;subst he;obtain ⟨r',hr',hK'⟩:=hK r hR;exact Md
theorem bQ {f:FuncId}{args:Array Operand}{ts:Array TypeId}{l:List AV}{q:List PV}{r r':AV}(hc:bA C.P f q (·=r))(ho:o.op=.call { callee:=.value (.func f),args:=args,argTypes:=ts })
  (hd:o.dst=some d) (hn:Nat.blt d C.n=true) (hl:kM sl args.toList=some l) (hq:Co l q) (henter:∀ vs w,(callFunc f vs).run C.P w=.ok (.enter f vs) w)
  (hr:r.settle=some r') (hK:K ⟨(d,r')::sl,ob⟩):bu C o K ⟨sl,ob⟩ :=
 Qr hc ho hd hn hl hq henter λ _ e=>e ▸ ⟨r',hr,hK⟩
end
theorem EL (h:p:=by
 intro v w' h;rw [nT ho]
 simp [builtin,hxv,h]):p:=h
theorem K4 (h:p:=by
 intro j;rw [hc'];have:=mJ c.toList news (off+es.length*ie.size) (by grind) j
 grind):p:=h
theorem Mz (h:p:=by
 obtain ⟨k1,u,hu,hr⟩:=hinv i y j x hy hx;have hm2:(i+1)*ie.size<=es.length*ie.size:=Nat.mul_le_mul_right _ O;rw [Nat.add_mul] at hm2;refine ⟨k1,u,?_,hr.mono hEv⟩
 grind):p:=h
theorem D7 (h:p:=by
 rw [hc];simp only [Array.size_append,List.size_toArray,n8,hol,hsrc.newsLen,size_zeroCells,hzs]
 rw [<- Nat.add_mul,<- Nat.add_mul]; grind):p:=h
theorem ND (h:p:=by
 rcases hs.kind with ⟨e',hk⟩|hk <;> simp [Builtin.append_,run_underlying ht,run_underlying hk,sizeOf,typeInfo,hi,hs.len,hroom,hs.cells,add_lit,Va]):p:=h
theorem NW (h:p:=by
 unfold Oper.wp;rw [hrun0 _ _ hrr];simp only [Oper.upon,hd]
 exact ⟨_,_,hp,hK⟩):p:=h
theorem Fb (h:p:=by
 simp only [World.cell?,hb,setRow_heap w b' c c' _ (0,0) hb]
 grind):p:=h
theorem Kl (h:p:=by
 rw [hsrc.newsLen,U9,Nat.add_assoc,<- Nat.add_mul]; simp_all [Nat.mul_le_mul_right]):p:=h
theorem KR (h:p:=by
 refine ⟨k1,u,?_,(PRep.mono (w:=w) (w':=w.drew) (st:=g.st) (st':=g.st) (λ b o h=>⟨h,Z⟩) hr).mono U4⟩
 grind):p:=h
theorem Mq (h:p:=by
 rcases h with h|h
 ·exact absurd (hs.lt _ _ h) (Nat.lt_irrefl _)
 grind):p:=h
theorem NZ (h:p:=by
 exact ⟨_,_,hs'.put (d:=some d) (λ t ht=>by simp_all) (.vecn d ie.size _),hK⟩):p:=h
theorem Fj {P:Program}{w:World}{st:Nat->Nat->Prop}{ys:List PV}{v:Value}{sz:Nat}{tx e':TypeId}(hk:P.underlying tx=some (.slice e'))(h:PRep w st (.slice ys) v)
  (U0:∀ y∈ys,y.cells.length=sz) (h0:0<sz) :
  ∃ news:List Value,Src P sz tx v ys.length news w/\(∀ (i:Nat) y (j:Nat) c,ys[i]? = some y->y.cells[j]? = some c->c.one=true/\∃ u,news[i*sz+j]? = some u/\PRep w st c u):=by
 have hempty:ys=[]->∃ news:List Value,Src P sz tx v ys.length news w/\(∀ (i:Nat) y (j:Nat) c,ys[i]? = some y->y.cells[j]? = some c->c.one=true/\∃ u,news[i*sz+j]? = some u/\PRep w st c u):=by
  intro e;subst e;rcases h.nil_inv with rfl|⟨a,cap,rfl⟩
  ·exact ⟨[],Src.ofNil w hk 0,by simp⟩
  ·exact ⟨[],Src.ofSlice w hk a 0 cap [] G G G,by simp⟩
 by_cases Vs:ys=[]
 ·grind
 cases h with
 | nils=>grind
 | nile a=>grind
 | slice sz' cf hcap hsz' Vh hc hr=>
  rename_i b off cap
  have e1:sz'=sz:=by
   cases ys with
   | nil=>grind
   | cons y r=>simp_all
  subst e1
  have cellOf:∀ (i j:Nat),i<ys.length->j<sz'->∃ y c,ys[i]? = some y/\y.cells[j]? = some c:=by
   simp_all
  have split:∀ m,m<ys.length*sz'->m / sz'<ys.length/\m%sz'<sz'/\m / sz'*sz'+m%sz'=m:=by
   simp_all [Nat.div_lt_iff_lt_mul,Nat.mod_lt,Nat.mul_comm,Nat.div_add_mod]
  refine ⟨(List.range (ys.length*sz')).map λ m=>cf (m / sz') (m%sz'),Src.ofSlice w hk ⟨b,off,none⟩ ys.length cap _ G (λ j u hu=>?_) (λ u hu=>?_),λ i y j c hy hc'=>?_⟩
  ·simp only [List.getElem?_map,ro] at hu;obtain ⟨m,hm,rfl⟩:=hu;have hj:j<ys.length*sz':=by grind
   rw [List.getElem?_range hj] at hm; cases hm
   grind [add_lit]
  ·simp only [List.mem_map,List.mem_range] at hu
   grind [PV.one_rep]
  ·have hi:i<ys.length:=(List.getElem?_eq_some_iff.1 hy).1;have hj:j<sz':=by grind
   have h1:(i+1)*sz'<=ys.length*sz':=Nat.mul_le_mul_right sz' O;rw [Nat.add_mul] at h1;refine ⟨(by grind),cf i j,?_,hr i y j c hy hc'⟩;rw [List.getElem?_map,List.getElem?_range O,Option.map_some]
   simp_all [Nat.mul_comm,Nat.mul_add_div,Nat.div_eq_of_lt,Nat.mod_eq_of_lt]
theorem wI {w:World}{g:Gh}{tok b off cap sz ty:Nat}{c:Array Value}{e:TypeId}{es:List PV}(how:g.ow tok=some b)(hb:w.heap[b]? = some (.cells c e (0,0)))(U9:c.size=off+cap*sz)
  (hcap:es.length<=cap) (U0:∀ e,e∈es->e.cells.length=sz) (Va:∀ o,g.st b o↔o<off+es.length*sz)
  (U6:∀ (i:Nat) y (j:Nat) x,es[i]? = some y->y.cells[j]? = some x->x.one=true/\∃ u,c[off+i*sz+j]? = some u/\PRep w g.st x u) (hty:ty=0\/ty=e+1/\off=0) :
  ARep w g (.vec tok sz ty es) (.slice (some ⟨b,off,none⟩) es.length cap):=by
 have hj:∀ (i:Nat) y (j:Nat) x,es[i]? = some y->y.cells[j]? = some x->i*sz+j<es.length*sz:=by
  intro i y j x hy hx;have hi:i<es.length:=(List.getElem?_eq_some_iff.1 hy).1;have hj:j<sz:=by grind
  have h1:(i+1)*sz<=es.length*sz:=Nat.mul_le_mul_right sz O
  grind
 refine .vec how hb U9 U0 Va (.slice sz (λ i j=>c.getD (off+i*sz+j) Go.undef) hcap U0 (λ y hy x hx=>?_) (λ i y j x hy hx=>⟨(Va _).2 (by grind),?_⟩) (λ i y j x hy hx=>?_)) hty
 ·obtain ⟨i,hi,rfl⟩:=List.getElem_of_mem hy;obtain ⟨j,hj',rfl⟩:=List.getElem_of_mem hx;exact (U6 i _ j _ (List.getElem?_eq_getElem hi) (List.getElem?_eq_getElem hj')).1
 ·obtain ⟨_,u,hu,_⟩:=U6 i y j x hy hx
  simp_all [World.cell?]
 ·obtain ⟨_,u,hu,hr⟩:=U6 i y j x hy hx
  simp_all
theorem J8 {w:World}{g:Gh}{tok b cap sz ty:Nat}{c:Array Value}{e:TypeId}{es:List PV}(how:g.ow tok=some b)(hb:w.heap[b]? = some (.cells c e (0,0)))(U9:c.size=cap*sz)
  (hcap:es.length<=cap) (U0:∀ e,e∈es->e.cells.length=sz) (Va:∀ o,g.st b o↔o<es.length*sz)
  (U6:∀ (i:Nat) y (j:Nat) x,es[i]? = some y->y.cells[j]? = some x->x.one=true/\∃ u,c[i*sz+j]? = some u/\PRep w g.st x u) (hty:ty=0\/ty=e+1) :
  ARep w g (.vec tok sz ty es) (.slice (some ⟨b,0,none⟩) es.length cap) :=
 wI how hb O hcap U0 (λ o=>(Va o).trans (by grind)) (λ i y j x h1 h2=>by grind) (hty.imp id λ h=>⟨h,Z⟩)
theorem uj {w:World}{g:Gh}{sz b off cap:Nat}{es:List PV}{c:Array Value}{e:TypeId}(U0:∀ e,e∈es->e.cells.length=sz)
  (hb:w.heap[b]? = some (.cells c e (0,0))) (hr:PRep w g.st (.slice es) (.slice (some ⟨b,off,none⟩) es.length cap)) :
  ∀ (i:Nat) y (j:Nat) x,es[i]? = some y->y.cells[j]? = some x->x.one=true/\∃ u,c[off+i*sz+j]? = some u/\PRep w g.st x u:=by
 intro i y j x hy hx
 cases hr with
 | nile a=>simp at hy
 | slice sz' cf hcap hsz' Vh hc hr=>
  grind [World.cell?]
theorem O7 {w:World}{g:Gh}{sz b cap:Nat}{es:List PV}{c:Array Value}{e:TypeId}(U0:∀ e,e∈es->e.cells.length=sz)
  (hb:w.heap[b]? = some (.cells c e (0,0))) (hr:PRep w g.st (.slice es) (.slice (some ⟨b,0,none⟩) es.length cap)) :
  ∀ (i:Nat) y (j:Nat) x,es[i]? = some y->y.cells[j]? = some x->x.one=true/\∃ u,c[i*sz+j]? = some u/\PRep w g.st x u:=λ i y j x h1 h2=>by
 have:=uj U0 hb hr i y j x h1 h2
 grind
theorem St.inplace {n:Nat}{w0:Base}{w:World}{F:Nat->Prop}{g:Gh}{s:AS}{a:Act}(hs:St n w0 F g s a w)(D:Nat->Bool)(hDl:∀ i,D i=true->i<M1){k d b:Nat}(hk:g.ow k=some b)(hDk:D k=true)(hDd:D d=true)
  {c c':Array Value} {e:TypeId} (hb:w.heap[b]? = some (.cells c e (0,0))) (U0:c'.size=c.size) (hcc:∀ o,g.st b o->c'[o]? = c[o]?) (T:Nat->Prop) (hT:∀ o,g.st b o->T o) :
  St n w0 F ⟨λ b' o=>(b'=b/\T o)\/(b'≠b/\g.st b' o),λ i=>if i=d then some b else if D i then none else g.ow i⟩ (cW D s) a (w.setRow b c'):=by
 have hbl:b<w.heap.size:=(hs.own k b hk).1;have hnF:¬ F b:=(hs.own k b hk).2
 have keyD:∀ i b',D i=false->g.ow i=some b'->b'≠b:=λ i b' hD hi e=>by
  subst e;have:=hs.inj i k b' hi hk
  grind
 refine hs.evolve D hDl (λ b' o h=>?_) (λ id b' hD h=>?_) (λ i j b' h1 h2=>?_) (λ i b' h=>?_) (λ b' o h=>?_) (λ b' h=>?_) Z Z Z G (λ b' hb' o=>?_) (λ i hi=>?_)
 ·by_cases e:b'=b
  ·subst e;refine ⟨.inl ⟨rfl,hT o h⟩,?_⟩;exact Fb
  grind [World.cell?,setRow_other]
 ·grind [setRow_other]
 ·have key:∀ i,(if i=d then some b else if D i then none else g.ow i)=some b'->(i=d/\b'=b)\/(i≠d/\D i=false/\g.ow i=some b'):=by
   grind
  rcases key i h1 with ⟨a1,a2⟩|⟨a1,a2,a3⟩ <;> rcases key j h2 with ⟨b1,b2⟩|⟨b1,b2,b3⟩
  ·rw [a1,b1]
  ·grind
  ·grind
  ·exact hs.inj i j b' a3 b3
 ·dsimp only at h;by_cases e1:i=d
  ·simp_all
  ·rw [if_neg e1] at h;split at h
   ·cases h
   ·have:=hs.own i b' h; simp_all
 ·rcases h with ⟨h,_⟩|⟨_,h⟩
  ·simp_all
  ·have:=hs.lt b' o h; simp_all
 ·grind [setRow_other]
 ·grind
 grind
section
variable {C:Cx} {o:Oper} {K:AS->Prop} {sl:List (Nat×AV)} {ob:List (Nat×List AV)} {d:Nat}
theorem vC {P:Program}{w w':World}(t tx ty e:TypeId)(i:TypeInfo)(ht:P.underlying t=some (.slice e))(hi:P.info? e=some i)(b sLen sCap:Nat)(x:Value)(n:Nat)(news:List Value)(hs:Src P i.size tx x n news w)
  (hroom:sLen+n<=sCap) (Va:(storeCells ⟨b,sLen*i.size,none⟩ news).run P w=.ok () w') :
  (Builtin.append_ #[t,tx] ty #[.slice (some ⟨b,0,none⟩) sLen sCap,x]).run P w=.ok (.slice (some ⟨b,0,none⟩) (sLen+n) sCap) w':=by
 exact ND
theorem qv {P:Program}{w w':World}(t tx ty e:TypeId)(i:TypeInfo)(ht:P.underlying t=some (.slice e))(hi:P.info? e=some i)(b off sLen sCap:Nat)(x:Value)(n:Nat)(news:List Value)(hs:Src P i.size tx x n news w)
  (hroom:sLen+n<=sCap) (Va:(storeCells ⟨b,off+sLen*i.size,none⟩ news).run P w=.ok () w') :
  (Builtin.append_ #[t,tx] ty #[.slice (some ⟨b,off,none⟩) sLen sCap,x]).run P w=.ok (.slice (some ⟨b,off,none⟩) (sLen+n) sCap) w':=by
 exact ND
def xB (C:Cx)(sl:List (Nat×AV))(ob:List (Nat×List AV))(tx:TypeId)(y:Operand)(sz:Nat)(ys:List PV):Prop :=∀ (g:Gh) (a:Act) (w:World),St C.n C.w0 C.F g ⟨sl,ob⟩ a w->∃ news:List Value,Src C.P sz tx (a.eval y) ys.length news w /\ (∀ (i:Nat) y (j:Nat) c,ys[i]? = some y->y.cells[j]? = some c->c.one=true/\∃ u,news[i*sz+j]? = some u/\PRep w g.st c u)
theorem rS {tx e':TypeId}{y:Operand}{Y0z:AV}{ys:List PV}{sz:Nat}{j:TI}(hj:look C.tt tx=some j)(hjk:j.k=.slice e')
  (hy:evo sl y=some Y0z) (hY:Y0z.elems? = some ys) (U0:∀ y∈ys,y.cells.length=sz) (h0:0<sz):xB C sl ob tx y sz ys:=by
 intro g a w hs;obtain ⟨u',h1',h2'⟩:=bU C.good hj;have h3':=cu (h2'.trans hjk);subst h3';exact Fj (P:=C.P) h1' (lj hY (bN hs hy)) U0 h0
theorem om (ty0:Nat){es ys:List PV}{t tx e:TypeId}{i ie:TI}{y:Operand}(D:Nat->Bool)(hDl:∀ i,D i=true->i<M1)(hDd:D d=true)
  (hi:look C.tt t=some i) (U7:i.k=.slice e) (hie:look C.tt e=some ie)
  (hS:xB C sl ob tx y ie.size ys) (U0:∀ y∈ys,y.cells.length=ie.size) (h0:0<ie.size) (hzl:ie.zero.length=ie.size)
  (Pn:(es.length+ys.length)*ie.bytes<=140737488355328) (hlen':es.length+ys.length<=9223372036854775807)
  {g:Gh} {a:Act} {w:World} (hs:St C.n C.w0 C.F g ⟨sl,ob⟩ a w) (base:Option Addr) (cap:Nat) (olds:List Value)
  (hold:(Builtin.firstCells ie.size es.length (.slice base es.length cap)).run C.P w.drew=.ok olds.toArray w.drew) (hol:olds.length=es.length*ie.size)
  (hes:∀ e,e∈es->e.cells.length=ie.size)
  (hoc:∀ (i:Nat) y (j:Nat) x,es[i]? = some y->y.cells[j]? = some x->x.one=true/\∃ u,olds[i*ie.size+j]? = some u/\PRep w g.st x u)
  (hg:cap<es.length+ys.length) (ty:TypeId) (hd:o.dst=some d) (hn:Nat.blt d C.n=true) (hty:ty0=0\/ty0=e+1) :
  ∃ v w' g',(Builtin.append_ #[t,tx] ty #[.slice base es.length cap,a.eval y]).run C.P w=.ok v w' /\
   St C.n C.w0 C.F g' ⟨(d,.vec d ie.size ty0 (es++ys))::(cW D ⟨sl,ob⟩).sl,(cW D ⟨sl,ob⟩).ob⟩ (a.put (some d) v) w':=by
 obtain ⟨u,h1,h2⟩:=bU C.good hi;have h3:=cu (h2.trans U7);subst h3;obtain ⟨info,hf1,hf2,hf3,z,hf4,hf5⟩:=kg C.good hie;obtain ⟨news,hsrc,hnews⟩:=hS g a w hs;have hfit:=growslice_fits (bytes:=ie.bytes) hg Pn;have hrun:=run_append_grow_src w t tx ty e info z h1 hf1 hf4 base es.length cap olds (by grind) (a.eval y) ys.length news (by grind) hg O (by grind);obtain ⟨q,hq⟩:∃ q,q=grownCap w (es.length+ys.length) cap e:=⟨_,rfl⟩
 rw [<- hq] at hrun
 have hqn:es.length+ys.length<=q:=by
  grind [grownCap,Question.cut]
 have hzs:z.cells.size=ie.size:=by grind
 obtain ⟨c,hc⟩:∃ c,c=(olds++news).toArray++Builtin.zeroCells z.cells (q-(es.length+ys.length)):=⟨_,rfl⟩
 rw [<- hc] at hrun
 have U9:c.size=q*ie.size:=by
  exact D7
 have hget:∀ m,m<(es.length+ys.length)*ie.size->c[m]? = if m<es.length*ie.size then olds[m]? else news[m-es.length*ie.size]?:=by
  intro m hm;rw [Nat.add_mul] at hm;rw [hc,Array.getElem?_append];simp only [List.size_toArray,n8,hol,hsrc.newsLen]
  grind
 have hf:=hs.drew.fresh D hDl d hDd (λ o=>o<(es++ys).length*ie.size) c e
 have hv:ARep (w.drew.alloc (.cells c e)) ⟨λ b o=>g.st b o\/(b=w.drew.heap.size/\o<(es++ys).length*ie.size),λ i=>if i=d then some w.drew.heap.size else if D i then none else g.ow i⟩
   (.vec d ie.size ty0 (es++ys)) (.slice (some ⟨w.drew.heap.size,0,none⟩) (es++ys).length q):=by
  refine J8 G gP U9 jW (λ x hx=>?_) (λ o=>⟨λ h=>?_,λ h=>.inr ⟨Z,h⟩⟩) (λ i y j x hy hx=>?_) hty
  ·grind
  ·exact Mq
  ·have U4:=o9 (w:=w.drew) (T:=λ o=>o<(es++ys).length*ie.size) (ob:=.cells c e) hs.drew.lt
   have hcl:y.cells.length=ie.size:=by
    grind
   have hjl:j<ie.size:=by grind
   have hil:i<(es++ys).length:=(List.getElem?_eq_some_iff.1 hy).1;simp only [n8] at hil;have hm1:(i+1)*ie.size<=(es.length+ys.length)*ie.size:=Nat.mul_le_mul_right _ O;rw [Nat.add_mul] at hm1;rw [List.getElem?_append] at hy;split at hy
   ·rename_i hlt;obtain ⟨k1,u,hu,hr⟩:=hoc i y j x hy hx;have hm2:(i+1)*ie.size<=es.length*ie.size:=Nat.mul_le_mul_right _ O;rw [Nat.add_mul] at hm2;exact KR
   ·rename_i hge;obtain ⟨k1,u,hu,hr⟩:=hnews _ y j x hy hx;have hm2:es.length*ie.size<=i*ie.size:=Nat.mul_le_mul_right _ O;refine ⟨k1,u,?_,(PRep.mono (w:=w) (w':=w.drew) (st:=g.st) (st':=g.st) (λ b o h=>⟨h,rfl⟩) hr).mono U4⟩;rw [hget _ O,if_neg O]
    grind [Nat.sub_mul]
 have hp:=hf.put (d:=some d) (λ t ht=>by simp_all) hv;simp only [n8] at hp;exact ⟨_,_,_,hrun,hp⟩
theorem JJ {ty e:Nat}(h:(Nat.beq ty 0||Nat.beq ty (e+1))=true):ty=0\/ty=e+1:=by
 simp_all
theorem Cy (ty:Nat){t tx e:TypeId}{x y:Operand}{ys:List PV}{i ie:TI}(ho:o.op=.call { callee:=.builtin .append,args:=#[x,y],argTypes:=#[t,tx] })(hd:o.dst=some d)(hn:Nat.blt d C.n=true)
  (hi:look C.tt t=some i) (U7:i.k=.slice e) (hie:look C.tt e=some ie) (hx:evo sl x=some (.p (.val (.slice none 0 0))))
  (hS:xB C sl ob tx y ie.size ys) (U0:∀ y∈ys,y.cells.length=ie.size) (h0:Nat.blt 0 ie.size=true) (hzl:Nat.beq ie.zero.length ie.size=true)
  (Pn:ys.length*ie.bytes<=140737488355328) (hlen':ys.length<=9223372036854775807) (hty:(Nat.beq ty 0||Nat.beq ty (e+1))=true)
  (hK:K ⟨(d,.vec d ie.size ty ys)::(cW (λ i=>Nat.beq i d) ⟨sl,ob⟩).sl,(cW (λ i=>Nat.beq i d) ⟨sl,ob⟩).ob⟩):bu C o K ⟨sl,ob⟩:=by
 have h0':0<ie.size:=by simp_all
 have hzl':=cl hzl;have hdl:d<M1:=by have h1:=Nat.le_of_ble_eq_true C.nl; grind [Nat.blt_eq]
 have hty':=JJ hty;intro g a w hs;have hx':=cm hs hx;have hex:execOp a.eval o=execOp a.eval o:=rfl
 have hrun0:∀ v w',(Builtin.append_ #[t,tx] o.type #[.slice none 0 0,a.eval y]).run C.P w=.ok v w'->(execOp a.eval o).run C.P w=.ok (.value v) w':=by
  intro v w' h;rw [nT ho];simp [builtin,hx',h]
 by_cases hys:ys=[]
 ·subst hys;obtain ⟨u,h1,h2⟩:=bU C.good hi;have h3:=cu (h2.trans U7);subst h3;obtain ⟨info,hf1,hf2,hf3,z,hf4,hf5⟩:=kg C.good hie;obtain ⟨news,hsrc,hnews⟩:=hS g a w hs;have hnl:news=[]:=by have:=hsrc.newsLen; simp_all
  subst hnl;have hr:=run_append_nothing w t tx o.type e info h1 hf1 none 0 0 (bt _) (a.eval y) (by grind);unfold Oper.wp;rw [hrun0 _ _ hr];simp only [Oper.upon,hd]
  have hs':=hs.evolve (λ i=>Nat.beq i d) (λ i hi=>by simp_all) (g':=⟨g.st,λ i=>if Nat.beq i d then none else g.ow i⟩) (Ev.refl _ _) (λ id b hD h=>⟨by grind,Z,λ o h=>h⟩)
   (λ i j b h1 h2=>by
    dsimp only at h1 h2;split at h1
    ·cases h1
    ·split at h2
     ·cases h2
     ·exact hs.inj i j b h1 h2) (λ i b h=>by
    dsimp only at h;split at h
    ·cases h
    ·exact hs.own i b h) hs.lt (λ b h=>rfl) Z Z Z (bt _) (λ b _ o=>Iff.rfl) (λ i hi=>by
     grind [Nat.eq_of_beq_eq_true])
  exact NZ
 ·have hpos:0<ys.length:=List.length_pos_iff.2 hys
  obtain ⟨v,w',g',hr,Va⟩:=om ty (o:=o) (es:=[]) (λ i=>Nat.beq i d) (λ i hi=>by simp_all) G hi U7 hie hS U0 h0' hzl' (by grind) (by grind) hs none 0 []
   (run_firstCells_none w.drew ie.size 0 0 0) G G G (by grind) o.type hd hn hty'
  grind [Oper.wp,Oper.upon]
theorem wg {t tx e:TypeId}{x y:Operand}{k sz ty:Nat}{es:List PV}{ys:List PV}{i ie:TI}(ho:o.op=.call { callee:=.builtin .append,args:=#[x,y],argTypes:=#[t,tx] })(hd:o.dst=some d)(hn:Nat.blt d C.n=true)
  (hi:look C.tt t=some i) (U7:i.k=.slice e) (hie:look C.tt e=some ie) (hx:evo sl x=some (.vec k sz ty es)) (hk:Nat.blt k M1=true) (hiz:ie.size=sz)
  (hS:xB C sl ob tx y ie.size ys) (U0:∀ y∈ys,y.cells.length=ie.size) (h0:Nat.blt 0 ie.size=true) (hzl:Nat.beq ie.zero.length ie.size=true)
  (Pn:(es.length+ys.length)*ie.bytes<=140737488355328) (hlen':es.length+ys.length<=9223372036854775807) (hty:(Nat.beq ty 0||Nat.beq ty (e+1))=true)
  (hK:K ⟨(d,.vec d sz ty (es++ys))::(cW (λ i=>Nat.beq i k||Nat.beq i d) ⟨sl,ob⟩).sl,(cW (λ i=>Nat.beq i k||Nat.beq i d) ⟨sl,ob⟩).ob⟩):bu C o K ⟨sl,ob⟩:=by
 subst hiz;have h0':0<ie.size:=by simp_all
 have hzl':=cl hzl;have hk':k<M1:=Nat.blt_eq ▸ hk;have hdl:d<M1:=by have h1:=Nat.le_of_ble_eq_true C.nl; grind [Nat.blt_eq]
 have hty':=JJ hty
 have hDl:∀ i,(Nat.beq i k||Nat.beq i d)=true->i<M1:=by
  simp_all
 intro g a w hs;have hxr:=bN hs hx;generalize hxv:a.eval x=xv at hxr
 have hrun0:∀ v w',(Builtin.append_ #[t,tx] o.type #[xv,a.eval y]).run C.P w=.ok v w'->(execOp a.eval o).run C.P w=.ok (.value v) w':=by
  exact EL
 cases hxr with
 | vecn=>
  by_cases hys:ys=[]
  ·subst hys;obtain ⟨u,h1,h2⟩:=bU C.good hi;have h3:=cu (h2.trans U7);subst h3;obtain ⟨info,hf1,hf2,hf3,z,hf4,hf5⟩:=kg C.good hie;obtain ⟨news,hsrc,hnews⟩:=hS g a w hs;have hnl:news=[]:=by have:=hsrc.newsLen; simp_all
   subst hnl;have hr:=run_append_nothing w t tx o.type e info h1 hf1 none 0 0 (bt _) (a.eval y) (by grind);unfold Oper.wp;rw [hrun0 _ _ hr];simp only [Oper.upon,hd]
   have hs':=hs.evolve (λ i=>Nat.beq i k||Nat.beq i d) hDl (g':=⟨g.st,λ i=>if (Nat.beq i k||Nat.beq i d) then none else g.ow i⟩) (Ev.refl _ _) (λ id b hD h=>⟨by grind,Z,λ o h=>h⟩)
    (λ i j b h1 h2=>by
     dsimp only at h1 h2;split at h1
     ·cases h1
     ·split at h2
      ·cases h2
      ·exact hs.inj i j b h1 h2) (λ i b h=>by
     dsimp only at h;split at h
     ·cases h
     ·exact hs.own i b h) hs.lt (λ b h=>rfl) Z Z Z (bt _) (λ b _ o=>Iff.rfl) (λ i hi=>by
      grind)
   exact NZ
  ·have hpos:0<ys.length:=List.length_pos_iff.2 hys
   obtain ⟨v,w',g',hr,Va⟩:=om ty (o:=o) (es:=[]) (λ i=>Nat.beq i k||Nat.beq i d) hDl G hi U7 hie hS U0 h0' hzl' (by grind) (by grind) hs none 0 []
    (run_firstCells_none w.drew ie.size 0 0 0) G G G (by grind) o.type hd hn hty'
   grind [Oper.wp,Oper.upon]
 | vece tok sz a0=>
  by_cases hys:ys=[]
  ·subst hys;obtain ⟨u,h1,h2⟩:=bU C.good hi;have h3:=cu (h2.trans U7);subst h3;obtain ⟨info,hf1,hf2,hf3,z,hf4,hf5⟩:=kg C.good hie;obtain ⟨news,hsrc,hnews⟩:=hS g a w hs;have hnl:news=[]:=by have:=hsrc.newsLen; simp_all
   subst hnl;have hr:=run_append_nothing w t tx o.type e info h1 hf1 (some a0) 0 0 (bt _) (a.eval y) (by grind);unfold Oper.wp;rw [hrun0 _ _ hr];simp only [Oper.upon,hd]
   have hs':=hs.evolve (λ i=>Nat.beq i k||Nat.beq i d) hDl (g':=⟨g.st,λ i=>if (Nat.beq i k||Nat.beq i d) then none else g.ow i⟩) (Ev.refl _ _) (λ id b hD h=>⟨by grind,Z,λ o h=>h⟩)
    (λ i j b h1 h2=>by
     dsimp only at h1 h2;split at h1
     ·cases h1
     ·split at h2
      ·cases h2
      ·exact hs.inj i j b h1 h2) (λ i b h=>by
     dsimp only at h;split at h
     ·cases h
     ·exact hs.own i b h) hs.lt (λ b h=>rfl) Z Z Z (bt _) (λ b _ o=>Iff.rfl) (λ i hi=>by
      grind)
   exact ⟨_,_,hs'.put (d:=some d) (λ t ht=>by simp_all) (.vece d ie.size a0),hK⟩
  ·have hpos:0<ys.length:=List.length_pos_iff.2 hys
   obtain ⟨v,w',g',hr,Va⟩:=om 0 (o:=o) (es:=[]) (λ i=>Nat.beq i k||Nat.beq i d) hDl G hi U7 hie hS U0 h0' hzl' (by grind) (by grind) hs (some a0) 0 []
    (run_firstCells_some w.drew ie.size 0 a0 0 0 [] G G) G G G (by grind) o.type hd hn hty'
   grind [Oper.wp,Oper.upon]
 | vec how hb U9 hsz' Va hr hty0=>
  rename_i b off cap c e0;have hinv:=uj hsz' hb hr;have hcapE:es.length<=cap:=by cases hr with|nile _=>grind|slice _ _ hcap=>exact hcap
  by_cases hroom:es.length+ys.length<=cap
  ·obtain ⟨u,h1,h2⟩:=bU C.good hi;have h3:=cu (h2.trans U7);subst h3;obtain ⟨info,hf1,hf2,hf3,z,hf4,hf5⟩:=kg C.good hie;obtain ⟨news,hsrc,hnews⟩:=hS g a w hs
   have hfit:(off+es.length*ie.size)+news.length<=c.size:=by
    exact Kl
   have hstc:=run_storeCells_at C.P b (off+es.length*ie.size) e0 news 0 c w hb (by grind) hsrc.one;simp only [Nat.add_zero] at hstc;obtain ⟨c',hc'⟩:∃ c',c'=(c.toList.take (off+es.length*ie.size)++news++c.toList.drop (off+es.length*ie.size+news.length)).toArray:=⟨_,rfl⟩
   rw [<- hc'] at hstc;have hrr:=qv t tx o.type e info h1 hf1 b off es.length cap (a.eval y) ys.length news (by rw [hf2]; exact hsrc) hroom (by rw [hf2]; exact hstc)
   have U6:∀ j,c'[j]? = if off+es.length*ie.size<=j/\j<off+es.length*ie.size+news.length then news[j-(off+es.length*ie.size)]? else c[j]?:=by
    exact K4
   have hcs':c'.size=off+cap*ie.size:=by grind
   have hin:=hs.inplace (λ i=>Nat.beq i k||Nat.beq i d) hDl (k:=k) (d:=d) how G G  hb (c':=c') (hcs'.trans U9.symm) (λ o h=>by
    grind) (λ o=>o<off+(es++ys).length*ie.size) (λ o h=>by
    have:=(Va o).1 h
    simp only [n8,Nat.add_mul]; omega)
   have hEv:Ev w g.st (w.setRow b c') (λ b' o=>(b'=b/\o<off+(es++ys).length*ie.size)\/(b'≠b/\g.st b' o)):=by
    intro b' o h;by_cases e:b'=b
    ·subst e;have h5:=(Va o).1 h;refine ⟨.inl ⟨rfl,by simp only [n8,Nat.add_mul]; omega⟩,?_⟩;exact Fb
    grind [World.cell?,setRow_other]
   have hv:ARep (w.setRow b c') ⟨λ b' o=>(b'=b/\o<off+(es++ys).length*ie.size)\/(b'≠b/\g.st b' o),λ i=>if i=d then some b else if (Nat.beq i k||Nat.beq i d) then none else g.ow i⟩
     (.vec d ie.size ty (es++ys)) (.slice (some ⟨b,off,none⟩) (es++ys).length cap):=by
    refine wI G (setRow_heap w b c c' e0 (0,0) hb) hcs' (by grind) (λ x hx=>?_) (λ o=>⟨λ h=>?_,λ h=>.inl ⟨Z,h⟩⟩) (λ i y j x hy hx=>?_) hty0
    ·grind
    ·grind
    ·have hcl:y.cells.length=ie.size:=by
      grind
     have hjl:j<ie.size:=by grind
     have hil:i<(es++ys).length:=(List.getElem?_eq_some_iff.1 hy).1;simp only [n8] at hil;rw [List.getElem?_append] at hy;split at hy
     ·rename_i hlt;exact Mz
     ·rename_i hge;obtain ⟨k1,u,hu,hr⟩:=hnews _ y j x hy hx;have hm2:es.length*ie.size<=i*ie.size:=Nat.mul_le_mul_right _ O;have hm3:(i-es.length+1)*ie.size<=ys.length*ie.size:=Nat.mul_le_mul_right _ O;have hm4:(i-es.length)*ie.size=i*ie.size-es.length*ie.size:=Nat.sub_mul _ _ _;rw [Nat.add_mul] at hm3;refine ⟨k1,u,?_,hr.mono hEv⟩;rw [U6,if_pos ⟨by omega,by grind⟩];rw [show off+i*ie.size+j-(off+es.length*ie.size)=(i-es.length)*ie.size+j by omega];exact hu
   have hp:=hin.put (d:=some d) (λ t ht=>by simp_all) hv;simp only [n8] at hp;exact NW
  ·obtain ⟨olds,hol,hocell⟩:∃ olds:List Value,olds.length=es.length*ie.size/\∀ m,m<es.length*ie.size->olds[m]? = c[off+m]? :=
    ⟨((c.toList.drop off).take (es.length*ie.size)),by
     simp_all,λ m hm=>by grind⟩
   have hold:(Builtin.firstCells ie.size es.length (.slice (some ⟨b,off,none⟩) es.length cap)).run C.P w.drew=.ok olds.toArray w.drew:=by
    grind [run_firstCells_some,add_lit,World.cell?_drew,World.cell?]
   obtain ⟨v,w',g',hr',hst'⟩:=om ty (o:=o) (es:=es) (λ i=>Nat.beq i k||Nat.beq i d) hDl G hi U7 hie hS U0 h0' hzl' Pn hlen' hs (some ⟨b,off,none⟩) cap olds
    hold hol hsz' (λ i y j x hy hx=>by
     obtain ⟨k1,u,hu,hr⟩:=hinv i y j x hy hx;have hi:i<es.length:=(List.getElem?_eq_some_iff.1 hy).1;have hj:j<ie.size:=by grind
     have hm2:(i+1)*ie.size<=es.length*ie.size:=Nat.mul_le_mul_right _ O
     grind) O o.type hd hn hty'
   grind [Oper.wp,Oper.upon]
theorem Eb (ty:Nat){t tx e e':TypeId}{x y:Operand}{Y0z:AV}{ys:List PV}{i ie j:TI}(ho:o.op=.call { callee:=.builtin .append,args:=#[x,y],argTypes:=#[t,tx] })(hd:o.dst=some d)(hn:Nat.blt d C.n=true)
  (hi:look C.tt t=some i) (U7:i.k=.slice e) (hie:look C.tt e=some ie) (hj:look C.tt tx=some j) (hjk:j.k=.slice e') (hx:evo sl x=some (.p (.val (.slice none 0 0))))
  (hy:evo sl y=some Y0z) (hY:Y0z.elems? = some ys) (U0:∀ y∈ys,y.cells.length=ie.size) (h0:Nat.blt 0 ie.size=true) (hzl:Nat.beq ie.zero.length ie.size=true)
  (Pn:ys.length*ie.bytes<=140737488355328) (hlen':ys.length<=9223372036854775807) (hty:(Nat.beq ty 0||Nat.beq ty (e+1))=true)
  (hK:K ⟨(d,.vec d ie.size ty ys)::(cW (λ i=>Nat.beq i d) ⟨sl,ob⟩).sl,(cW (λ i=>Nat.beq i d) ⟨sl,ob⟩).ob⟩):bu C o K ⟨sl,ob⟩ :=
 Cy ty ho hd hn hi U7 hie hx (rS hj hjk hy hY U0 (by simp_all)) U0 h0 hzl Pn hlen' hty hK
theorem DW {t tx e e':TypeId}{x y:Operand}{k sz ty:Nat}{es:List PV}{Y0z:AV}{ys:List PV}{i ie j:TI}(ho:o.op=.call { callee:=.builtin .append,args:=#[x,y],argTypes:=#[t,tx] })(hd:o.dst=some d)(hn:Nat.blt d C.n=true)
  (hi:look C.tt t=some i) (U7:i.k=.slice e) (hie:look C.tt e=some ie) (hj:look C.tt tx=some j) (hjk:j.k=.slice e') (hx:evo sl x=some (.vec k sz ty es)) (hk:Nat.blt k M1=true) (hiz:ie.size=sz)
  (hy:evo sl y=some Y0z) (hY:Y0z.elems? = some ys) (U0:∀ y∈ys,y.cells.length=ie.size) (h0:Nat.blt 0 ie.size=true) (hzl:Nat.beq ie.zero.length ie.size=true)
  (Pn:(es.length+ys.length)*ie.bytes<=140737488355328) (hlen':es.length+ys.length<=9223372036854775807) (hty:(Nat.beq ty 0||Nat.beq ty (e+1))=true)
  (hK:K ⟨(d,.vec d sz ty (es++ys))::(cW (λ i=>Nat.beq i k||Nat.beq i d) ⟨sl,ob⟩).sl,(cW (λ i=>Nat.beq i k||Nat.beq i d) ⟨sl,ob⟩).ob⟩):bu C o K ⟨sl,ob⟩ :=
 wg ho hd hn hi U7 hie hx hk hiz (rS hj hjk hy hY U0 (by simp_all)) U0 h0 hzl Pn hlen' hty hK
theorem Iq {tx:TypeId}{y:Operand}{s:List UInt8}{j:TI}(hj:look C.tt tx=some j)(hjk:j.k=.string)
  (hy:evo sl y=some (.p (.val (.string (str s))))):xB C sl ob tx y 1 (s.map λ b=>.val (.int .u8 (b.toNat:Int))):=by
 intro g a w hs;obtain ⟨u',h1',h2'⟩:=bU C.good hj;have h3':=jk (h2'.trans hjk);subst h3';rw [cm hs hy];refine ⟨byteCells (str s),by have:=Src.ofString w h1' (str s); grind [str,ByteArray.size],λ i y j c hy hc=>?_⟩;simp only [List.getElem?_map,ro] at hy;obtain ⟨b,hb,rfl⟩:=hy
 cases j with
 | succ j=>simp [PV.cells] at hc
 | zero=>
  simp only [PV.cells,List.getElem?_cons_zero,bx] at hc;subst hc;exact ⟨rfl,_,by simp [byteCells,str,hb],.val _⟩
end
theorem Fa (h:p:=by
 subst e;have:=hs.inj i k b' hi k1
 simp_all):p:=h
theorem D6 (h:p:=by
 rw [Array.getD_eq_getD_getElem?,hu]
 cases hr with|p hr=>exact hr.mono U4):p:=h
theorem St.addOb {n:Nat}{w0:Base}{w:World}{F:Nat->Prop}{g:Gh}{sl:List (Nat×AV)}{ob:List (Nat×List AV)}{a:Act}(hs:St n w0 F g ⟨sl,ob⟩ a w){d:Nat}{cs:List AV}(h:jJ w g d cs) :
  St n w0 F g ⟨sl,(d,cs)::ob⟩ a w:=by
 refine { hs with ob:=λ id ds hd=>?_,sl:=hs.sl };simp only [aZ] at hd;by_cases e:d=id
 ·grind
 ·rw [if_neg e] at hd; exact hs.ob id ds hd
theorem St.freeze {n:Nat}{w0:Base}{w:World}{F:Nat->Prop}{g:Gh}{sl:List (Nat×AV)}{ob:List (Nat×List AV)}{a:Act}(hs:St n w0 F g ⟨sl,ob⟩ a w){k:Nat}{es:List PV}{j:Nat}
  (hk:k<M1) (hob:look ob k=some (es.map .p)) (hj:look sl j=some (.arr k 1 0 es.length)) (Vh:∀ x∈es,x.cells=[x]) (hone':∀ x∈es,x.one=true) :
  ∃ g',St n w0 F g' ⟨(j,.p (.slice es))::(cW (λ i=>Nat.beq i k) ⟨sl,ob⟩).sl,(cW (λ i=>Nat.beq i k) ⟨sl,ob⟩).ob⟩ a w:=by
 obtain ⟨b,c,e,k1,k2,k3,k4,k5⟩:=hs.ob k _ hob;have hlt:b<w.heap.size:=(hs.own k b k1).1
 have keyD:∀ i b',Nat.beq i k=false->g.ow i=some b'->b'≠b:=λ i b' hD hi e=>by
  exact Fa
 have U4:Ev w g.st w (λ b' o=>g.st b' o\/(b'=b/\o<es.length)):=λ b' o h=>⟨.inl h,Z⟩
 have hs':=hs.evolve (λ i=>Nat.beq i k) (λ i hi=>by simp_all) (g':=⟨λ b' o=>g.st b' o\/(b'=b/\o<es.length),λ i=>if Nat.beq i k then none else g.ow i⟩) U4 (λ id b' hD h=>⟨by grind,Z,(by grind)⟩)
  (λ i j b h1 h2=>by
   dsimp only at h1 h2;split at h1
   ·cases h1
   ·split at h2
    ·cases h2
    ·exact hs.inj i j b h1 h2) (λ i b h=>by
   dsimp only at h;split at h
   ·cases h
   ·exact hs.own i b h) (λ b' o h=>by
   rcases h with h|⟨rfl,_⟩
   ·exact hs.lt b' o h
   grind) (λ b h=>rfl) Z Z Z (bt _) (λ b' hb' o=>⟨λ h=>h.resolve_right λ h'=>(hs.own k b k1).2 (h'.1 ▸ hb'),.inl⟩) (λ i hi=>by
    grind [Nat.eq_of_beq_eq_true])
 refine ⟨_,{ hs' with sl:=λ i=>?_,ob:=hs'.ob }⟩;simp only [AS.get,aZ];by_cases e1:j=i
 ·subst e1;simp only [if_true,Option.getD_some];have h0:=hs.sl j;simp only [AS.get,hj,Option.getD_some] at h0;generalize a.tmps.getD j Go.undef=v at h0
  cases h0 with
  | arr how hb U9 hn=>
   rw [k1] at how; cases how;rw [k2] at hb; cases hb;refine .p (.slice 1 (λ i _=>c.getD i Go.undef) hn (λ y hy=>by grind) (λ x hx y hy=>?_) (λ i x j y hx hy=>?_) (λ i x j y hx hy=>?_))
   ·grind
   ·rw [Vh x (List.mem_of_getElem? hx)] at hy
    cases j with
    | succ j=>simp at hy
    | zero=>
     have hi:i<es.length:=(List.getElem?_eq_some_iff.1 hx).1;have hci:i<c.size:=by grind
     simp_all [World.cell?]
   ·rw [Vh x (List.mem_of_getElem? hx)] at hy
    cases j with
    | succ j=>simp at hy
    | zero=>
     simp only [List.getElem?_cons_zero,bx] at hy;subst hy;obtain ⟨u,hu,hr⟩:=k5 i (.p x) (by simp [hx]);exact D6
 ·rw [if_neg e1];exact hs'.sl i
def JZ (m:Nat->Option Nat):List Nat->Option (List Nat)
 | []=>some []
 | t::r=>match m t,JZ m r with
  | some u,some l=>some (u::l)
  | _,_=>none
theorem Gy {m:Nat->Option Nat}:∀ {ts l:List Nat},JZ m ts=some l->(∀ t,t∈ts->∃ u,m t=some u/\u∈l)
 | [],_,_,t,ht=>by simp at ht
 | x::r,l,h,t,ht=>by
  simp only [JZ] at h;split at h
  ·rename_i u q hu hq
   cases h
   rcases qr.1 ht with rfl|ht
   ·grind
   ·obtain ⟨u',h1,h2⟩:=Gy hq t ht
    grind
  ·cases h
def renR (m:Nat->Option Nat)(ts:List Nat)(R:World->Gh->Value->Prop):World->Gh->Value->Prop :=λ w g v=>R w ⟨g.st,λ t=>if t∈ts then (m t).bind g.ow else none⟩ v
def AV.mapA (m:Nat->Option Nat):AV->Option AV
 | .undef=>some .undef
 | .p x=>some (.p x)
 | .vec tok sz ty es=>match m tok with
  | some t=>some (.vec t sz ty es)
  | none=>some (.p (.slice es))
 | .arr id sz off n=>match m id with
  | some t=>some (.arr t sz off n)
  | none=>none
 | .ptr id off=>match m id with
  | some t=>some (.ptr t off)
  | none=>none
 | .bptr T sz id=>match m id with
  | some t=>some (.bptr T sz t)
  | none=>none
 | .rptr cs=>some (.rptr cs)
 | .agg cs=>match go m cs with
  | some l=>some (.agg l)
  | none=>none
 | .tuple cs=>match go m cs with
  | some l=>some (.tuple l)
  | none=>none
 | .func f cs=>match go m cs with
  | some l=>some (.func f l)
  | none=>none
 | .mp tok kvs=>match m tok with
  | some t=>some (.mp t kvs)
  | none=>none
 | .mpr ..=>none
 | .stk tok sz es=>match m tok with
  | some t=>some (.stk t sz es)
  | none=>none
 | .sem ts R=>match JZ m ts with
  | some l=>some (.sem l (renR m ts R))
  | none=>none
 | .it ..=>none
 | .vecp tok sz ty es=>match m tok with
  | some t=>some (.vecp t sz ty es)
  | none=>none
 | .elp ..=>none where
 go (m:Nat->Option Nat):List AV->Option (List AV)
 | []=>some []
 | x::r=>match x.mapA m,go m r with
  | some y,some l=>some (y::l)
  | _,_=>none
theorem sf {m:Nat->Option Nat}:∀ {l l':List AV},AV.mapA.go m l=some l'->l.length=l'.length/\∀ (i:Nat) x y,l[i]? = some x->l'[i]? = some y->x.mapA m=some y
 | [],l',h=>by grind [AV.mapA.go]
 | x::r,l',h=>by
  simp only [AV.mapA.go] at h;split at h
  ·rename_i y l0 hy hl
   cases h
   obtain ⟨h1,h2⟩:=sf hl
   grind
  ·cases h
theorem nD {m:Nat->Option Nat}{w:World}{g g':Gh}(Va:g'.st=g.st)(hm:∀ i j b,m i=some j->g.ow i=some b->g'.ow j=some b){x:AV}{v:Value}(h:ARep w g x v):∀ {y:AV},x.mapA m=some y->ARep w g' y v:=by
 have lst:∀ {cs:List AV} {vs:Array Value} {l:List AV},vs.size=cs.length->(∀ (i:Nat) c v,cs[i]? = some c->vs[i]? = some v->∀ {y:AV},c.mapA m=some y->ARep w g' y v) ->
   AV.mapA.go m cs=some l->vs.size=l.length/\∀ (i:Nat) c v,l[i]? = some c->vs[i]? = some v->ARep w g' c v:=by
  intro cs vs l hl ih hgo;obtain ⟨h1,h2⟩:=sf hgo;refine ⟨by omega,λ i c v hc hv=>?_⟩;have hi:i<cs.length:=by grind
  exact ih i cs[i] v (List.getElem?_eq_getElem hi) hv (by grind)
 induction h with
 | undef v=>intro y hy; simp only [AV.mapA,bx] at hy; subst hy; exact .undef _
 | p h=>intro y hy; simp only [AV.mapA,bx] at hy; subst hy; exact .p (Va ▸ h)
 | vecn tok sz ty=>
  intro y hy;simp only [AV.mapA] at hy;split at hy <;> cases hy
  ·exact .vecn _ _ _
  ·exact .p .nils
 | vece tok sz a=>
  intro y hy;simp only [AV.mapA] at hy;split at hy <;> cases hy
  ·exact .vece _ _ _
  ·exact .p (.nile a)
 | vec how hb U9 U0 hst' hr hty=>
  intro y hy;simp only [AV.mapA] at hy;split at hy <;> cases hy
  ·rename_i t ht;exact .vec (hm _ _ _ ht how) hb U9 U0 (by simp_all) (by grind) hty
  ·exact .p (by grind)
 | arr how hb U9 hn=>
  intro y hy;simp only [AV.mapA] at hy;split at hy <;> cases hy;rename_i t ht;exact .arr (hm _ _ _ ht how) hb U9 hn
 | ptr how=>
  intro y hy;simp only [AV.mapA] at hy;split at hy <;> cases hy;rename_i t ht;exact .ptr (hm _ _ _ ht how)
 | bptrn how hb U9=>
  intro y hy;simp only [AV.mapA] at hy;split at hy <;> cases hy;rename_i t ht;exact .bptrn (hm _ _ _ ht how) hb U9
 | bptr how hb U9=>
  intro y hy;simp only [AV.mapA] at hy;split at hy <;> cases hy;rename_i t ht;exact .bptr (hm _ _ _ ht how) hb U9
 | rptr cf hc hr=>intro y hy; simp only [AV.mapA,bx] at hy; subst hy; exact .rptr cf (by grind) (by grind)
 | agg hl h ih=>
  intro y hy;simp only [AV.mapA] at hy;split at hy <;> cases hy;rename_i l hgo;obtain ⟨k1,k2⟩:=lst hl ih hgo;exact .agg k1 k2
 | tuple hl h ih=>
  intro y hy;simp only [AV.mapA] at hy;split at hy <;> cases hy;rename_i l hgo;obtain ⟨k1,k2⟩:=lst hl ih hgo;exact .tuple k1 k2
 | func hl h ih=>
  intro y hy;simp only [AV.mapA] at hy;split at hy <;> cases hy;rename_i l hgo;obtain ⟨k1,k2⟩:=lst hl ih hgo;exact .func k1 k2
 | mp how hb hn hd hk hv=>
  intro y hy;simp only [AV.mapA] at hy;split at hy <;> cases hy;rename_i t ht;exact .mp (hm _ _ _ ht how) hb hn hd hk (by grind)
 | mpr=>grind [AV.mapA]
 | stkn tok sz=>
  intro y hy;simp only [AV.mapA] at hy;split at hy <;> cases hy;exact .stkn _ _
 | stke tok sz a=>
  intro y hy;simp only [AV.mapA] at hy;split at hy <;> cases hy;exact .stke _ _ _
 | stk how hb U9 Pn U0 Vh hst' hr=>
  intro y hy;simp only [AV.mapA] at hy;split at hy <;> cases hy;rename_i t ht;exact .stk (hm _ _ _ ht how) hb U9 Pn U0 Vh (by simp_all) (by grind)
 | sem h1 h=>
  rename_i ts R v;intro y hy;simp only [AV.mapA] at hy;split at hy <;> cases hy;rename_i l hl;refine .sem h1 λ w2 g2 U4=>h w2 _ ?_
  have key:∀ id b,id∈ts->g.ow id=some b->∃ u,m id=some u/\u∈l/\g'.ow u=some b:=λ id b hi hb=>by
   grind [Gy]
  refine ⟨by rw [<- Va]; exact U4.ev,λ id b hi hb=>?_,λ id b c e hi hb hc=>?_,λ id b o hi hb ho=>?_,λ id b o hi hb ho=>?_⟩
  ·obtain ⟨u,h3,h4,h5⟩:=key id b hi hb;simp only [if_pos hi,h3,rg];exact U4.ow u b h4 h5
  ·obtain ⟨u,h3,h4,h5⟩:=key id b hi hb;exact U4.shape u b c e h4 h5 hc
  ·obtain ⟨u,h3,h4,h5⟩:=key id b hi hb;rw [<- Va];exact U4.tip u b o h4 h5 ho
  ·obtain ⟨u,h3,h4,h5⟩:=key id b hi hb;exact U4.stab u b o h4 h5 (by grind)
 | it=>grind [AV.mapA]
 | vecp how hb U9 hcap U0 hst' hr hty=>
  intro y hy;simp only [AV.mapA] at hy;split at hy <;> cases hy;rename_i t ht;exact .vecp (hm _ _ _ ht how) hb U9 hcap U0 (by simp_all) (by grind) hty
 | elp=>grind [AV.mapA]
def iT (m:Nat->Option Nat):List (Nat×List AV)->Option (List (Nat×List AV))
 | []=>some []
 | (i,cs)::r=>match m i,AV.mapA.go m cs,iT m r with
  | some j,some l,some q=>some ((j,l)::q)
  | _,_,_=>none
theorem rF {m:Nat->Option Nat}{w:World}{g g':Gh}(Va:g'.st=g.st)(hm:∀ i j b,m i=some j->g.ow i=some b->g'.ow j=some b) :
  ∀ {l l':List (Nat×List AV)},iT m l=some l'->(∀ p∈l,jJ w g p.1 p.2)->∀ p∈l',jJ w g' p.1 p.2
 | [],l',h,_,p,hc=>by grind [iT]
 | (i,ds)::r,l',h,hl,p,hc=>by
  simp only [iT] at h;split at h
  ·rename_i j l q hj hgo hq
   cases h
   rcases qr.1 hc with rfl|hc
   ·obtain ⟨b,c,e,k1,k2,k3,k4,k5⟩:=hl (i,ds) G;obtain ⟨m1,m2⟩:=sf hgo;refine ⟨b,c,e,hm _ _ _ hj k1,k2,by grind,by simp_all,λ n x hx=>?_⟩;have hn:n<ds.length:=by grind
    obtain ⟨v,hv,hr⟩:=k5 n ds[n] (List.getElem?_eq_getElem hn);exact ⟨v,hv,nD Va hm hr (by grind)⟩
   ·exact rF Va hm hq (λ p hp=>hl p (by simp [hp])) p hc
  ·cases h
theorem iX {α:Type}:∀ {l:List (Nat×α)} {i:Nat} {x:α},look l i=some x->(i,x)∈l
 | [],i,x,h=>by simp [look] at h
 | (j,y)::r,i,x,h=>by
  rw [aZ] at h;split at h
  ·grind
  ·simp [iX h]
theorem jV {α:Type}:∀ (l q:List (Nat×α)) (i:Nat),look (l++q) i=match look l i with|some x=>some x|none=>look q i
 | [],q,i=>by simp [look]
 | (j,y)::r,q,i=>by
  simp only [mv,aZ,jV r q i]
  grind
structure pV (w:World)(g:Gh)(w':World)(g':Gh):Prop where
 os:w'.os=w.os
 out:w'.output=w.output
 tape:w'.tape=w.tape
 size:w.heap.size<=w'.heap.size
 fr:∀ b,b<w.heap.size->(∀ i,g.ow i≠some b)->w'.heap[b]? = w.heap[b]?
 own:∀ i b,g'.ow i=some b->b<w'.heap.size/\(w.heap.size<=b\/∃ j,g.ow j=some b)
 inj:∀ i j b,g'.ow i=some b->g'.ow j=some b->i=j
 lt:∀ b o,g'.st b o->b<w'.heap.size
 stf:∀ b,b<w.heap.size->(∀ i,g.ow i≠some b)->∀ o,g'.st b o↔g.st b o
 owf:∀ i,M1<=i->i<2*M1->g'.ow i=g.ow i
 sh:kS g.ow w w'
 nst:∀ i b,M1<=i->g.ow i=some b->∀ o,¬ g'.st b o
 ev:Ev w g.st w' g'.st
def cj (P:Program)(f:FuncId)(args:List AV)(Ve:List (Nat×List AV))(R:AV->List (Nat×List AV)->Prop):Prop :=∀ (w:World) (g:Gh) (vs:Array Value),Ok0 w g.st->(∀ i b,g.ow i=some b->b<w.heap.size/\i<2*M1) -> (∀ i j b,g.ow i=some b->g.ow j=some b->i=j)->(∀ i b,M1<=i->g.ow i=some b->∀ o,¬ g.st b o)->vs.size=args.length -> (∀ (i:Nat) c v,args[i]? = some c->vs[i]? = some v->ARep w g c v)->(∀ id cs,look Ve id=some cs->jJ w g id cs) -> Calls P f vs w λ e w'=>∃ v r obs' g',e=.returned v/\R r obs'/\ARep w' g' r v/\(∀ p∈obs',jJ w' g' p.1 p.2)/\pV w g w' g'
def gR (args:List AV):List (Nat×AV):=(args.zipIdx).map λ (x,i)=>(i,x)
theorem rk (args:List AV):∀ (k i:Nat),look ((args.zipIdx k).map λ (x,i)=>(i,x)) i=if k<=i then args[i-k]? else none:=by
 induction args with
 | nil=>simp_all [look]
 | cons x r ih=>
  grind [List.zipIdx_cons,aZ]
def pD (ts:List Nat)(i:Nat):Option Nat:=bif Nat.ble M1 i then (bif Nat.blt i MZ then some i else none) else match ts.findIdx? (Nat.beq i) with
 | some k=>some (2*M1+k)
 | none=>none
def jm (ob:List (Nat×List AV)):List Nat->Option (List (Nat×List AV))
 | []=>some []
 | i::r=>match look ob i,jm ob r with
  | some cs,some l=>some ((i,cs)::l)
  | _,_=>none
theorem vH {ob:List (Nat×List AV)}:∀ {ids:List Nat} {l:List (Nat×List AV)},jm ob ids=some l->∀ p∈l,look ob p.1=some p.2
 | [],l,h,p,hp=>by grind [jm]
 | i::r,l,h,p,hp=>by
  simp only [jm] at h;split at h
  ·rename_i cs l' U9 hl'
   cases h
   rcases qr.1 hp with rfl|hp
   ·exact U9
   ·exact vH hl' p hp
  ·cases h
def nodupB:List Nat->Bool|[]=>true|x::r=>!(r.any (Nat.beq x))&&nodupB r
theorem nJ:∀ {l:List Nat},nodupB l=true->∀ (i j x:Nat),l[i]? = some x->l[j]? = some x->i=j
 | [],_,i,j,x,h,_=>by simp at h
 | y::r,h,i,j,x,hi,hj=>by
  simp only [nodupB,py,Bool.not_eq_true',List.any_eq_false] at h
  cases i with
  | zero=>
   cases j with
   | zero=>rfl
   | succ j=>
    simp only [List.getElem?_cons_zero,bx,List.getElem?_cons_succ] at hi hj;subst hi;exact absurd G (h.1 y (List.mem_of_getElem? hj))
  | succ i=>
   cases j with
   | zero=>
    simp only [List.getElem?_cons_zero,bx,List.getElem?_cons_succ] at hi hj;subst hj;exact absurd G (h.1 y (List.mem_of_getElem? hi))
   | succ j=>
    simp only [List.getElem?_cons_succ] at hi hj;rw [nJ h.2 i j x hi hj]
theorem mb:∀ {ts:List Nat} {i k:Nat},ts.findIdx? (Nat.beq i)=some k->ts[k]? = some i:=by
 grind [List.findIdx?_eq_some_iff_getElem,Nat.eq_of_beq_eq_true]
def qB:List AV->List AV->Prop|[],[]=>True|x::r,y::q=>x.sub y/\qB r q|_,_=>False
theorem oU:∀ {l q:List AV},qB l q->l.length=q.length/\∀ (j:Nat) x y,l[j]? = some x->q[j]? = some y->x.sub y
 | [],[],_=>⟨Z,by simp⟩
 | [],_::_,h=>h.elim
 | _::_,[],h=>h.elim
 | x::r,y::q,h=>by
  obtain ⟨h1,h2⟩:=oU h.2;exact Lh
def md (ids:List Nat)(NB NE:Nat)(j:Nat):Option Nat:=bif Nat.ble (2*M1) j then (bif Nat.blt (NB+(j-2*M1)) NE then some (NB+(j-2*M1)) else none) else bif Nat.ble M1 j then ids[j-M1]? else none
theorem EE {ids:List Nat}{NB NE j i:Nat}(h:md ids NB NE j=some i):(∃ k,j=2*M1+k/\i=NB+k/\i<NE)\/(M1<=j/\j<2*M1/\ids[j-M1]? = some i):=by
 generalize hm:2*M1=m at *;unfold md at h;rw [hm] at h
 grind [Nat.le_of_ble_eq_true,Nat.ble_eq_true_of_le,Nat.blt_eq]
def noGoto (Q:Exit->AS->Prop):Exit->AS->Prop|.goto _,_=>False|e,s=>Q e s
theorem H0 {C:Cx}{c:Code}{Q:Exit->AS->Prop}{s:AS}(h:awp C c (noGoto Q) s):awp C (.scope c) Q s:=by
 intro g a w hs;refine wp_scope_straight (wp_mono (h g a w hs) ?_);rintro e a' w' ⟨g',s',h1,h2⟩
 cases e with
 | goto l=>exact h2.elim
 | normal=>exact ⟨g',s',h1,h2⟩
 | exit id=>exact ⟨g',s',h1,h2⟩
 | ret=>exact ⟨g',s',h1,h2⟩
 | panic ch=>exact ⟨g',s',h1,h2⟩
 | outgrown=>exact ⟨g',s',h1,h2⟩
theorem lM {K:AS->Prop}{Q:Exit->AS->Prop}{s:AS}(h:Q .ret s):uE K Q .ret s:=h
theorem jZ {K:AS->Prop}{Q:Exit->AS->Prop}{s:AS}{id:Nat}(h:Q (.exit id) s):uE K Q (.exit id) s:=h
theorem jX {id:Nat}{Q:Exit->AS->Prop}{s:AS}(h:Q .ret s):lY id Q .ret s:=h
theorem gN {id:Nat}{Q:Exit->AS->Prop}{s:AS}(h:Q .normal s):lY id Q .normal s:=h
theorem iK {id:Nat}{Q:Exit->AS->Prop}{s:AS}(h:Q .normal s):lY id Q (.exit id) s:=by
 grind [lY]
theorem gu {id id':Nat}{Q:Exit->AS->Prop}{s:AS}(Vs:Nat.beq id' id=false)(h:Q (.exit id') s):lY id Q (.exit id') s:=by
 have:¬ id'=id:=λ e=>by simp_all
 grind [lY]
theorem noGoto_ret {Q:Exit->AS->Prop}{s:AS}(h:Q .ret s):noGoto Q .ret s:=h
theorem noGoto_exit {id:Nat}{Q:Exit->AS->Prop}{s:AS}(h:Q (.exit id) s):noGoto Q (.exit id) s:=h
theorem noGoto_normal {Q:Exit->AS->Prop}{s:AS}(h:Q .normal s):noGoto Q .normal s:=h
section
variable {C:Cx} {o:Oper} {K:AS->Prop} {sl:List (Nat×AV)} {ob:List (Nat×List AV)} {d:Nat}
theorem O0 {α:Type}{t e:TypeId}{x:Operand}{y:AV}{f:α->PV}{l:List α}{i:TI}(ho:o.op=.call { callee:=.builtin .len,args:=#[x],argTypes:=#[t] })(hd:o.dst=some d)(hn:Nat.blt d C.n=true)
  (hi:look C.tt t=some i) (U7:i.k=.slice e) (hx:evo sl x=some y) (hy:y.elems? = some (l.map f))
  (hK:K ⟨(d,.p (.val (.int .i64 (l.length:Int))))::sl,ob⟩):bu C o K ⟨sl,ob⟩ :=
 Rc ho hd hn hi U7 hx hy (by grind)
theorem Lc {α:Type}(dflt:α){t:TypeId}{x:Operand}{i:TI}{id k:Nat}{f:α->PV}{l:List α}(ho:o.op=.load t x)(hd:o.dst=some d)(hn:Nat.blt d C.n=true)
  (hi:look C.tt t=some i) (hia:i.k.isAgg=false) (hx:evo sl x=some (.ptr id k)) (hob:look ob id=some ((l.map f).map .p)) (hk:k<l.length) (hK:K ⟨(d,.p (f (l.getD k dflt)))::sl,ob⟩):bu C o K ⟨sl,ob⟩ :=
 sy ho hd hn hi hia hx hob (by grind) hK
theorem iW {α:Type}{t:TypeId}{x v:Operand}{i:TI}{id k:Nat}{f:α->PV}{l:List α}{b:α}(ho:o.op=.store t x v)(hd:o.dst=none)
  (hi:look C.tt t=some i) (his:i.size=1) (hx:evo sl x=some (.ptr id k)) (hob:look ob id=some ((l.map f).map .p)) (hv:evo sl v=some (.p (f b))) (hc:AV.cellsA (.p (f b))=some [.p (f b)]) (hk:k<l.length)
  (hK:K ⟨sl,(id,((l.set k b).map f).map .p)::ob⟩):bu C o K ⟨sl,ob⟩:=by
 grind [qw,qu,List.map_set]
end
theorem bA.of_sub {P:Program}{f:FuncId}{args:List PV}{r:AV}(h:bA P f args (λ x=>x.sub r)):bA P f args (·=r) :=
 λ w st vs h0 h1 h2=>(h w st vs h0 h1 h2).mono λ e w' ⟨v,x,g',h3,h4,h5,h6⟩=>⟨v,r,g',h3,Z,h4 _ _ _ h5,h6⟩
theorem aF {m:Nat->Option Nat}:∀ (l:List PV),AV.mapA.go m (l.map .p)=some (l.map .p)
 | []=>rfl
 | x::r=>by simp only [n7,AV.mapA.go,AV.mapA,aF r]
theorem AZ (D:Nat->Bool):∀ (l:List PV),pJ D (l.map .p)=l.map .p
 | []=>rfl
 | x::r=>by simp only [n7,pJ,AV.dem,AZ D r]
def nO (D:Nat->Bool)(ob:List (Nat×List AV)):List (Nat×List AV):=(ob.filter λ p=>!D p.1).map λ p=>(p.1,pJ D p.2)
theorem IC (D:Nat->Bool):nO D []=[]:=rfl
theorem xX {D:Nat->Bool}{i:Nat}{cs cs':List AV}{r r':List (Nat×List AV)}(h:D i=false)(hc:pJ D cs=cs')(hr:nO D r=r'):nO D ((i,cs)::r)=(i,cs')::r':=by
 grind [nO]
theorem ES {D:Nat->Bool}{i:Nat}{cs:List AV}{r r':List (Nat×List AV)}(h:D i=true)(hr:nO D r=r'):nO D ((i,cs)::r)=r':=by
 grind [nO]
theorem aD {m:Nat->Option Nat}{i j:Nat}{cs l:List AV}{r q:List (Nat×List AV)}(h1:m i=some j)(h2:AV.mapA.go m cs=some l)(h3:iT m r=some q):iT m ((i,cs)::r)=some ((j,l)::q):=by
 grind [iT]
theorem bf:∀ (l:List AV),EV l l
 | []=>trivial
 | x::r=>⟨AV.sub_refl x,bf r⟩
end Go.Ab
namespace Go.Ab
def RZ:BinOp->Bool->Bool->Option Bool|.eql,a,b=>some (a==b)|.neq,a,b=>some (!(a==b))|_,_,_=>none
theorem run_equalIn_bool {P:Program}(w:World)(d:Nat)(t:TypeId)(a b:Bool)(h:P.underlying t=some .bool):(Op.equalIn (d+1) t (.bool a) (.bool b)).run P w=.ok (a==b) w:=by
 simp [Op.equalIn,run_underlying h]
theorem run_equal_bool {P:Program}(w:World)(t:TypeId)(a b:Bool)(h:P.underlying t=some .bool):(Op.equal t (.bool a) (.bool b)).run P w=.ok (a==b) w:=run_equalIn_bool w 9999 t a b h
theorem AQ {P:Program}{w:World}(op:BinOp)(t:TypeId)(x y:Operand)(a b:Bool) :
  (eqGuard op t x y (.bool a) (.bool b)).run P w=.ok () w:=by
 simp_all [eqGuard]
section
variable {C:Cx} {o:Oper} {K:AS->Prop} {sl:List (Nat×AV)} {ob:List (Nat×List AV)} {d:Nat}
theorem Qk {op:BinOp}{t t':TypeId}{x y:Operand}{i:TI}{a b c:Bool}(ho:o.op=.binOp op t x y t')(hd:o.dst=some d)(hn:Nat.blt d C.n=true)
  (hi:look C.tt t=some i) (U7:i.k=.bool)
  (hx:evo sl x=some (.p (.val (.bool a)))) (hy:evo sl y=some (.p (.val (.bool b)))) (hc:RZ op a b=some c)
  (hK:K ⟨(d,.p (.val (.bool c)))::sl,ob⟩):bu C o K ⟨sl,ob⟩:=by
 obtain ⟨u,h1,h2⟩:=bU C.good hi;have h3:=sG (h2.trans U7);subst h3;refine ok_one hd hn (λ g w' w hs=>⟨_,?_,.p (.val _)⟩) hK
 cases op <;> simp only [RZ,bx,reduceCtorEq] at hc <;> subst hc <;>
  simp [execOp,ho,cm hs hx,cm hs hy,AQ,binOp,run_equal_bool _ _ _ _ h1]
end
structure Kept (W w':World):Prop where
 frame:∀ may:MemPlace->Prop,W.keptBut w' may
 frozen:∀ a:Addr,a.block<W.heap.size->w'.frozen? a=W.frozen? a
 size:W.heap.size<=w'.heap.size
 block:∀ b,b<W.heap.size->w'.heap[b]? = W.heap[b]?
theorem After.kept {w w':World}{st:Nat->Nat->Prop}{g':Gh}(h:After w st w' g'):Kept w w':=by
 refine ⟨λ may=>⟨h.os,h.out,λ i hi=>?_⟩,λ a hb=>?_,h.size,h.fr⟩
 ·rw [h.fr i hi]
  grind
 ·simp only [World.frozen?,h.fr _ hb]
theorem RI (a:ByteArray):str a.data.toList=a:=by
 cases a; rfl
theorem grown_of {P:Program}{f:FuncId}{args:List PV}{vs:Array Value}{b:Bool}(h:bA P f args (·=.p (.val (.bool b))))(w:World)(hgl:mN w (λ b _=>b<w.heap.size))(U0:vs.size=args.length)
  (ha:∀ (i:Nat) c v,args[i]? = some c->vs[i]? = some v->PRep w (λ b _=>b<w.heap.size) c v) :
  Calls P f vs w λ e w'=>e=.returned (.bool b)/\Kept w w':=by
 refine (h w (λ b _=>b<w.heap.size) vs ⟨λ b o h=>h,hgl⟩ U0 ha).mono ?_;rintro e w' ⟨v,r,g',rfl,rfl,hr,hA⟩
 cases hr with|p h=>cases h; exact ⟨rfl,hA.kept⟩
end Go.Ab
namespace Go.Ab
theorem Jk {w:World}{st:Nat->Nat->Prop}(a:ByteArray):PRep w st (.val (.string (str a.data.toList))) (.string a):=by
 have h:PRep w st (.val (.string (str a.data.toList))) (.string (str a.data.toList)):=.val _
 rwa [RI a] at h
variable {p:Prop}
theorem JM (h:p:=by
 intro j o ho e he hbe
 have h1:=sm.1 hord (o,j) (by
  grind)
 grind [Nat.blt_eq]):p:=h
theorem MO (h:p:=by
 intro j
 induction j using Nat.strongRecOn with
 | ind j ih=>
  intro hj
  cases hv:listed.getD j false with
  | true=>rfl
  | false=>
   have hjl:j<listed.size:=by omega
   have:j∈Region.ready .any ops listed:=by
    rw [mem_ready];refine ⟨?_,ops[j],Array.getElem?_eq_getElem hj,λ e he hb=>?_⟩
    ·grind
    grind
   grind):p:=h
theorem Ad (h:p:=by exact ⟨by omega,by omega⟩):p:=h
theorem JG (h:p:=by exact ⟨cs,hc,(oN (bf cs)).1,(oN (bf cs)).2⟩):p:=h
def One (C:Cx)(ops:Array Oper)(o:Oper)(K:AS->Prop)(s:AS):Prop:=∀ i,ops[i]? = some o->rwp C ops [i] K s
section
variable {C:Cx} {ops:Array Oper} {K:AS->Prop} {sl:List (Nat×AV)} {ob:List (Nat×List AV)} {o:Oper} {j t d:Nat}
theorem al {s:AS}(hg:o.guard=none)(h:bu C o K s):One C ops o K s :=
 λ i ho=>LM ho hg (h.mono λ _ h=>qF h)
theorem T0 {want b:Bool}(hg:o.guard=some (j,want))(hj:(ops.toList[j]?).bind (·.dst)=some t)(hv:look sl t=some (.p (.val (.bool b))))
  (hd:o.dst=some d) (hn:Nat.blt d C.n=true) (h1:b=want->bu C o K ⟨sl,ob⟩) (h2:b=!want->K ⟨(d,.p (.val Go.undef))::sl,ob⟩):One C ops o K ⟨sl,ob⟩:=by
 intro i ho;refine vj ho hg (t:=t) (by grind) tK (λ t ht=>by simp_all) (λ e=>(h1 e).mono λ _ h=>qF h) (λ e=>qF ?_);rw [hd]; exact h2 e
theorem cO {want b:Bool}(h1:bu C o K ⟨sl,ob⟩)(hg:o.guard=some (j,want))(hj:(ops.toList[j]?).bind (·.dst)=some t)(hv:look sl t=some (.p (.val (.bool b))))(hb:b=want):One C ops o K ⟨sl,ob⟩:=by
 intro i ho;exact sY ho hg (t:=t) (by grind) tK hb (h1.mono λ _ h=>qF h)
theorem Lj {want b:Bool}(hg:o.guard=some (j,want))(hj:(ops.toList[j]?).bind (·.dst)=some t)(hv:look sl t=some (.p (.val (.bool b))))(hb:b=!want)
  (hd:o.dst=some d) (hn:Nat.blt d C.n=true) (h2:K ⟨(d,.p (.val Go.undef))::sl,ob⟩):One C ops o K ⟨sl,ob⟩:=by
 intro i ho;refine Ai ho hg (t:=t) (by grind) tK hb (λ t ht=>by simp_all) (qF ?_);rw [hd]; exact h2
theorem Cz {want:Bool}(hg:o.guard=some (j,want))(hj:(ops.toList[j]?).bind (·.dst)=some t)(hv:look sl t=some (.p (.val Go.undef)))
  (hd:o.dst=some d) (hn:Nat.blt d C.n=true) (h2:K ⟨(d,.p (.val Go.undef))::sl,ob⟩):One C ops o K ⟨sl,ob⟩:=by
 intro i ho;refine rO ho hg (t:=t) (by grind) tK (λ t ht=>by simp_all) (qF ?_);rw [hd]; exact h2
end
def tZ (base:List (Nat×AV))(o:Oper)(rs:List (Nat×AV)):List (Nat×AV) :=(o.after.toList.filterMap λ e=>if Region.binds .any e then rs[e.on]? else none)++base
def Step (C:Cx)(ops:Array Oper)(base:List (Nat×AV))(ob:List (Nat×List AV))(o:Oper)(rs:List (Nat×AV))(d:Nat)(r:AV):Prop :=∀ sl,(∀ i x,look (tZ base o rs) i=some x->look sl i=some x)->∀ K:AS->Prop,K ⟨(d,r)::sl,ob⟩->One C ops o K ⟨sl,ob⟩
def DR (C:Cx)(ops:Array Oper)(base:List (Nat×AV))(ob:List (Nat×List AV))(K:AS->Prop):List Oper->List (Nat×AV)->Prop|[],rs=>K ⟨rs.reverse++base,ob⟩|o::rest,rs=>∃ d r,o.dst=some d/\look (rs.reverse++base) d=none/\Step C ops base ob o rs d r/\DR C ops base ob K rest (rs++[(d,r)])
def fu (sl:List (Nat×AV)):List (Nat×AV)->Prop|[]=>True|(i,x)::r=>look sl i=some x/\fu sl r
theorem pS {sl:List (Nat×AV)}:∀ {base:List (Nat×AV)},fu sl base->∀ i x,look base i=some x->look sl i=some x
 | [],_,i,x,h=>by simp [look] at h
 | (j,y)::r,hb,i,x,h=>by
  rw [aZ] at h;by_cases e:j=i
  ·rw [if_pos e] at h; cases h; subst e; exact hb.1
  ·rw [if_neg e] at h; exact pS hb.2 i x h
theorem zk {l:List (Nat×AV)}{i:Nat}(h:look l i=none):∀ p∈l,p.1≠i:=by
 induction l with
 | nil=>simp
 | cons q l ih=>
  grind [aZ]
theorem G9 {C:Cx}{ops:Array Oper}{base:List (Nat×AV)}{ob:List (Nat×List AV)}{K:AS->Prop}:∀ {l:List Oper} {pre:List (Nat×AV)},DR C ops base ob K l pre ->
  ∃ tail:List (Nat×AV),tail.length=l.length/\K ⟨(pre++tail).reverse++base,ob⟩ /\
   ∀ (i:Nat) o,l[i]? = some o->∃ d r,tail[i]? = some (d,r)/\o.dst=some d/\Step C ops base ob o (pre++tail.take i) d r /\
    (∀ p∈pre++tail.take i,p.1≠d)/\(∀ p∈base,p.1≠d)
 | [],pre,h=>⟨[],Z,by rw [List.append_nil]; exact h,λ i o h=>by simp at h⟩
 | o::rest,pre,⟨d,r,hd,hf,hs,h⟩=>by
  obtain ⟨tail,h1,h2,h3⟩:=G9 h;have Vs:=zk hf;refine ⟨(d,r)::tail,by simp [h1],by grind,λ i o' ho=>?_⟩
  cases i with
  | zero=>
   simp only [List.getElem?_cons_zero,bx] at ho;subst ho;refine ⟨d,r,rfl,hd,by grind,λ p hp=>Vs p ?_,λ p hp=>Vs p (List.mem_append.2 (.inr hp))⟩
   grind
  | succ i=>
   simp_all
theorem Ey {P:Program}{o:Oper}{a:Act}{next next':Act->World->Prop}{Q Q':Exit->Act->World->Prop}{r:Result Next}
  (hn:∀ a w,next a w->next' a w) (hq:∀ e a w,e≠.normal->Q e a w->Q' e a w) (h:o.upon P a next Q r):o.upon P a next' Q' r:=by
 cases r with
 | halt x w=>
  cases x <;> simp only [Oper.upon] at h ⊢
  grind
 | ok x w=>
  cases x <;> simp only [Oper.upon] at h ⊢
  case value v=>grind
  case skip=>grind
  case defer d=>grind
  case enter f args=>
   refine h.mono λ e w' h=>?_
   cases e with
   | returned v=>grind
   | panicked c=>grind
   | outgrown=>obtain ⟨a0,w1,h⟩:=h; exact ⟨a0,w1,hq _ _ _ G h⟩
  case row r args=>exact h.mono λ v w' h=>hn _ _ h
theorem wL {P:Program}{ops:Array Oper}{i:Nat}{R:Act->World->Prop}{K:Act->World->Prop}{Q:Exit->Act->World->Prop}{a:Act}{w:World}
  (h:wpOps P ops (λ e a' w'=>e=.normal/\R a' w') [i] a w) (hk:∀ a' w',R a' w'->K a' w'):wpOp P ops Q i K a w:=by
 rw [wpOps_cons] at h;unfold wpOp at h ⊢
 cases ho:ops[i]? with
 | none=>grind [wpOps]
 | some o=>
  simp only [ho] at h ⊢;split
  ·rename_i hw;rw [if_pos hw] at h;rcases h with h|⟨_,a0,w1,hq,_⟩
   ·exact .inl (Ey (λ a w h=>hk _ _ (by grind [wpOps])) (λ e a w Vs h=>absurd h.1 Vs) h)
   ·cases hq
  grind [wpOps]
def unl (n:Nat)(listed:Array Bool):Nat:=((List.range n).filter λ j=>!listed.getD j false).length
theorem wH {n i:Nat}{listed:Array Bool}(hs:listed.size=n)(hi:i<n)(h:listed.getD i true=false):unl n (listed.setIfInBounds i true)+1=unl n listed:=by
 unfold unl
 have hf:listed.getD i false=false:=by
  grind
 have key:∀ l:List Nat,l.Nodup->i∈l->((l.filter λ j=>!(listed.setIfInBounds i true).getD j false).length+1=(l.filter λ j=>!listed.getD j false).length):=by
  intro l
  induction l with
  | nil=>grind
  | cons k l ih=>
   intro hn hm;obtain ⟨hk,hn'⟩:=List.nodup_cons.1 hn;by_cases e:k=i
   ·subst e
    have h1:(listed.setIfInBounds k true).getD k false=true:=by
     simp_all
    have h2:(l.filter λ j=>!(listed.setIfInBounds k true).getD j false)=l.filter λ j=>!listed.getD j false:=by
     refine List.filter_congr λ j hj=>?_;rw [getD_set_ne false (λ e=>hk (by grind))]
    grind
   ·have hm':i∈l:=(by grind)
    have:=ih hn' hm';have h1:(listed.setIfInBounds i true).getD k false=listed.getD k false:=getD_set_ne false (λ h=>e h.symm)
    grind
 grind
theorem B4 {n:Nat}{listed:Array Bool}(h:unl n listed=0):∀ j,j<n->listed.getD j false=true:=by
 intro j hj;have h1:=List.length_eq_zero_iff.1 h
 simp_all
theorem Er {ops:Array Oper}{listed:Array Bool}(hs:listed.size=ops.size)(hord:∀ (j:Nat) o,ops[j]? = some o->∀ e∈o.after,Region.binds .any e=true->e.on<j)(h:Region.ready .any ops listed=[]) :
  ∀ j,j<ops.size->listed.getD j false=true:=by
 exact MO
theorem NI {sl sl':List (Nat×AV)}{ob:List (Nat×List AV)}(key:∀ i x,look sl i=some x->look sl' i=some x):(⟨sl',ob⟩:AS).le ⟨sl,ob⟩:=by
 refine ⟨λ j x hx=>?_,λ id cs hc=>?_⟩
 ·grind [AS.get,AV.sub_refl]
 ·exact JG
theorem NK {C:Cx}{id:Nat}{ops:Array Oper}{Q:Exit->AS->Prop}{sl:List (Nat×AV)}{ob:List (Nat×List AV)}(base:List (Nat×AV))(hm:C.P.follows .mixedOrders=true)(hb:fu sl base)
  (hord:(ops.toList.zipIdx.all λ p=>p.1.after.toList.all λ e=>!(Region.binds .any e)||Nat.blt e.on p.2)=true) (h:DR C ops base ob (Q .normal) ops.toList []):awp C (.region id ops true) Q ⟨sl,ob⟩:=by
 intro g a w hs;obtain ⟨rs,Pn,hfin,hstep⟩:=G9 h;simp only [rd,Array.length_toList] at Pn hfin hstep
 have hord':∀ (j:Nat) o,ops[j]? = some o->∀ e∈o.after,Region.binds .any e=true->e.on<j:=by
  exact JM
 -- slots are apart
 have hap:∀ (i j:Nat) p q,rs[i]? = some p->rs[j]? = some q->i<j->p.1≠q.1:=by
  intro i j p q h1 h2 hij;have hj:j<ops.size:=by grind
  obtain ⟨d,r,h3,_,_,h4,_⟩:=hstep j ops[j] (by grind);rw [h2] at h3; cases h3;refine h4 p ?_;rw [List.mem_iff_getElem?];exact ⟨i,by grind⟩
 have main:∀ (fuel:Nat) (listed:Array Bool) (g:Gh) (a:Act) (w:World) (sl':List (Nat×AV)),listed.size=ops.size->unl ops.size listed=fuel->St C.n C.w0 C.F g ⟨sl',ob⟩ a w ->
   (∀ i x,look base i=some x->look sl' i=some x)->(∀ (j:Nat) p,listed.getD j false=true->rs[j]? = some p->look sl' p.1=some p.2) ->
   wpAny C.P .any ops (λ e a' w'=>∃ g' s',St C.n C.w0 C.F g' s' a' w'/\Q e s') fuel listed a w:=by
  have fin:∀ (listed:Array Bool) (g:Gh) (a:Act) (w:World) (sl':List (Nat×AV)),(∀ j,j<ops.size->listed.getD j false=true)->St C.n C.w0 C.F g ⟨sl',ob⟩ a w ->
    (∀ i x,look base i=some x->look sl' i=some x)->(∀ (j:Nat) p,listed.getD j false=true->rs[j]? = some p->look sl' p.1=some p.2) ->
    ∃ g' s',St C.n C.w0 C.F g' s' a w/\Q .normal s':=by
   intro listed g a w sl' hall hs hbase hres;refine ⟨g,_,hs.weaken ?_,hfin⟩
   have key:∀ i x,look (rs.reverse++base) i=some x->look sl' i=some x:=by
    intro i x hx;rcases List.mem_append.1 (iX hx) with hx'|hx'
    ·obtain ⟨j,hj⟩:=List.mem_iff_getElem?.1 (List.mem_reverse.1 hx')
     grind
    ·have:look rs.reverse i=none:=by
      cases hr:look rs.reverse i with
      | none=>rfl
      | some y=>
       obtain ⟨j,hj⟩:=List.mem_iff_getElem?.1 (List.mem_reverse.1 (iX hr));have hjl:j<ops.size:=by grind
       obtain ⟨d,r,h3,_,_,_,h4⟩:=hstep j ops[j] (by grind)
       grind
     grind [jV]
   exact NI key
  intro fuel
  induction fuel with
  | zero=>
   intro listed g a w sl' U0 hu hs hbase hres;have hall:=B4 hu;refine ⟨?_,fin listed g a w sl' hall hs hbase hres⟩;rw [List.eq_nil_iff_forall_not_mem]
   grind [mem_ready]
  | succ fuel ih=>
   intro listed g a w sl' U0 hu hs hbase hres;refine ⟨λ hr=>fin listed g a w sl' (Er U0 hord' hr) hs hbase hres,λ i hi=>?_⟩;obtain ⟨h1,o,ho,hafter⟩:=mem_ready.1 hi;have hil:i<ops.size:=(Array.getElem?_eq_some_iff.1 ho).1;obtain ⟨d,r,h3,h4,h5,h6,h7⟩:=hstep i o (by grind)
   have hkn:∀ k x,look (tZ base o (rs.take i)) k=some x->look sl' k=some x:=by
    intro k x hx;unfold tZ at hx;rw [jV] at hx
    cases hq:look (o.after.toList.filterMap λ e=>if Region.binds .any e then (rs.take i)[e.on]? else none) k with
    | none=>grind
    | some y=>
     rw [hq] at hx;simp only [Option.some_or,bx] at hx;subst hx;obtain ⟨e,he,hex⟩:=List.mem_filterMap.1 (iX hq);by_cases hbn:Region.binds .any e=true
     ·grind
     grind
   have Vh:=h5 sl' hkn (λ s=>s=⟨(d,r)::sl',ob⟩) rfl i ho;refine wL (Vh g a w hs) ?_;rintro a' w' ⟨g',s',hs',rfl⟩;refine ih _ g' a' w' ((d,r)::sl') (by grind) ?_ hs' (λ k x hx=>?_) (λ j p hj hp=>?_)
   ·grind [wH]
   ·rw [aZ,if_neg]
    ·grind
    ·intro e; subst e;exact h7 _ (iX hx) rfl
   ·rw [aZ];by_cases e:j=i
    ·grind
    ·have hjl:j<ops.size:=by grind
     rw [if_neg]
     ·refine hres j p ?_ hp;rw [getD_set_ne false (λ h=>e h.symm)] at hj;exact hj
     grind
 refine wp_region_any hm ?_;refine main ops.size _ g a _ sl G ?_ hs.drew (λ i x hx=>pS hb i x hx) (λ j p hj _=>?_)
 ·unfold unl;rw [List.filter_eq_self.2,List.length_range];intro j hj;have:=List.mem_range.1 hj;simp [this]
 ·exfalso;rw [Array.getD_eq_getD_getElem?,Array.getElem?_replicate] at hj
  grind
theorem bp {sl:List (Nat×AV)}:kM sl []=some []:=rfl
theorem aG {sl:List (Nat×AV)}{x:Operand}{r:List Operand}{a:AV}{q:List AV}(h1:evo sl x=some a)(h2:kM sl r=some q):kM sl (x::r)=some (a::q):=by
 grind [kM]
theorem FM {sl:List (Nat×AV)}{x:Operand}{k:IntKind}{n:Int}(h:evo sl x=some (.p (.val (.int k n)))):loI sl (some x)=some n:=by
 grind [loI]
end Go.Ab
namespace Go.Ab
abbrev Bk:=List UInt8
def eI (n:Int):PV:=.val (.int .i64 n)
def eK (k:IntKind)(n:Int):PV:=.val (.int k n)
def eS (l:Bk):PV:=.val (.string (str l))
def eB (b:Bool):PV:=.val (.bool b)
def eL {α:Type}(f:α->PV)(l:List α):PV:=.slice (l.map f)
def byt (l:Bk)(i:Int):Int:=((l.getD i.toNat 0).toNat:Int)
def lat {α:Type} [Inhabited α] (l:List α)(i:Int):α:=l.getD i.toNat default
def sub {α:Type}(l:List α)(i j:Int):List α:=(l.take j.toNat).drop i.toNat
def ck {α:Type}(p:Prop) [Decidable p] (k:Option α):Option α:=if p then k else none
def inR (c:Int):Prop:=-9223372036854775808<=c/\c<=9223372036854775807
instance (c:Int):Decidable (inR c):=inferInstanceAs (Decidable (_/\_))
def jn {α β:Type}(o:Option (α⊕β))(k:α->Option β):Option β:=match o with
 | none=>none
 | some (.inl v)=>k v
 | some (.inr x)=>some x
theorem cM {α:Type}{p:Prop} [Decidable p] {k:Option α}(h:p):ck p k=k:=if_pos h
theorem kZ {α:Type}{p:Prop} [Decidable p] {k:Option α}{r:α}(h:ck p k=some r):p/\k=some r:=by
 grind [ck]
theorem MV {α β:Type}{o:Option α}{f:α->Option β}{r:β}(h:o.bind f=some r):∃ x,o=some x/\f x=some r:=by
 cases o with
 | none=>cases h
 | some x=>grind
theorem bJ {α β:Type}{o:Option (α⊕β)}{k:α->Option β}{r:β}(h:jn o k=some r):∃ v,o=some v/\(∀ x,v=.inl x->k x=some r)/\(∀ x,v=.inr x->x=r):=by
 cases o with
 | none=>cases h
 | some v=>
  refine ⟨v,Z,λ x e=>?_,λ x e=>?_⟩
  ·subst e; exact h
  ·subst e; exact Option.some.inj h
theorem TE {α:Type}{c:Prop} [Decidable c] {a b:Option α}{r:α}(hc:c)(h:(if c then a else b)=some r):a=some r:=by grind
theorem if_f {α:Type}{c:Prop} [Decidable c] {a b:Option α}{r:α}(hc:¬c)(h:(if c then a else b)=some r):b=some r:=by grind
theorem UD {α:Type}{c:Bool}{a b:Option α}{r:α}(hc:c=false)(h:(if c=true then a else b)=some r):b=some r:=by grind
def exQ (id:Nat)(P:AS->Prop)(Q:Exit->AS->Prop):Exit->AS->Prop|.exit id',s=>if id'=id then P s else Q (.exit id') s|e,s=>Q e s
theorem M9 {C:Cx}{x:Code}{Q:Exit->AS->Prop}{s:AS}(P:AS->Prop)(hP:∀ s',P s'->Q .normal s')(h:awp C x (uE P Q) s):awp C x Q s :=
 ru (λ e s' h=>by cases e <;> first|exact hP _ h|exact h) h
theorem KD {C:Cx}{x:Code}{Q:Exit->AS->Prop}{s:AS}(id:Nat)(P:AS->Prop)(hP:∀ s',P s'->Q (.exit id) s')(h:awp C x (exQ id P Q) s):awp C x Q s :=
 ru (λ e s' k=>by
  cases e with
  | exit id'=>
   grind [exQ]
  | normal=>exact k
  | goto l=>exact k
  | ret=>exact k
  | panic ch=>exact k
  | outgrown=>exact k) h
theorem pK {id:Nat}{P:AS->Prop}{Q:Exit->AS->Prop}{s:AS}(h:P s):exQ id P Q (.exit id) s:=by grind [exQ]
theorem kc {id id':Nat}{P:AS->Prop}{Q:Exit->AS->Prop}{s:AS}(Vs:Nat.beq id' id=false)(h:Q (.exit id') s):exQ id P Q (.exit id') s:=by
 simp only [exQ,if_neg (show ¬ id'=id from λ e=>by simp_all)]; exact h
theorem ol {id:Nat}{P:AS->Prop}{Q:Exit->AS->Prop}{s:AS}(h:Q .ret s):exQ id P Q .ret s:=h
theorem jy {id:Nat}{P:AS->Prop}{Q:Exit->AS->Prop}{s:AS}(h:Q .normal s):exQ id P Q .normal s:=h
def cN (C:Cx)(s t:AS):Prop:=∀ g a w,St C.n C.w0 C.F g s a w->∃ g',St C.n C.w0 C.F g' t a w
theorem uY {C:Cx}{c:Code}{Q:Exit->AS->Prop}{s t:AS}(hg:cN C s t)(h:awp C c Q t):awp C c Q s:=λ g a w hs=>by
 obtain ⟨g',hs'⟩:=hg g a w hs;exact h g' a w hs'
theorem Fh {C:Cx}{ops:Array Oper}{r:List Oper}{K:AS->Prop}{s t:AS}(hg:cN C s t)(h:iH C ops r K t):iH C ops r K s:=λ k hk g a w hs=>by
 obtain ⟨g',hs'⟩:=hg g a w hs;exact h k hk g' a w hs'
theorem dZ {C:Cx}{s t:AS}(h:s.le t):cN C s t:=λ g _ _ hs=>⟨g,hs.weaken h⟩
theorem fI:∀ {l q:List AV},qB l q->(AV.tuple l).sub (.tuple q):=by
 intro l q hs w g v h;obtain ⟨h1,h2⟩:=oU hs
 cases h with
 | tuple hl h=>
  refine .tuple (hl.trans h1) λ i c v hc hv=>?_;have hi:i<l.length:=by grind
  exact h2 i l[i] c (List.getElem?_eq_getElem hi) hc _ _ _ (by grind)
theorem nM {α:Type}(f:α->PV):(AV.p (.val (.slice none 0 0))).sub (.p (eL f [])):=AV.sub_nilv
theorem AS.le_trans {s t u:AS}(h:s.le t)(k:t.le u):s.le u:=by
 refine ⟨λ j x hx w g v hv=>?_,λ id cs hc=>?_⟩
 ·have h2:=k.sl j x hx
  cases ht:look t.sl j with
  | none=>
   have:t.get j=.undef:=by simp [AS.get,ht]
   rw [this] at h2;exact h2 w g v (.undef _)
  | some y=>
   have e:t.get j=y:=by simp [AS.get,ht]
   rw [e] at h2;exact h2 w g v (h.sl j y ht w g v hv)
 ·obtain ⟨ds,h1,h2,h3⟩:=k.ob id cs hc;obtain ⟨es,h4,h5,h6⟩:=h.ob id ds h1;refine ⟨es,h4,by omega,λ i c d hc hd w g v hv=>?_⟩;have hi:i<ds.length:=by grind
  exact h3 i c ds[i] hc (List.getElem?_eq_getElem hi) w g v (h6 i ds[i] d (List.getElem?_eq_getElem hi) hd w g v hv)
section
variable {C:Cx} {o:Oper} {K:AS->Prop} {sl:List (Nat×AV)} {ob:List (Nat×List AV)} {d:Nat}
theorem iA {t:TypeId}{x y:Operand}{a:Bk}{k:IntKind}{j:Int}{i:TI}(ho:o.op=.index t x y)(hd:o.dst=some d)(hn:Nat.blt d C.n=true)
  (hi:look C.tt t=some i) (U7:i.k=.string) (hx:evo sl x=some (.p (.val (.string (str a))))) (hy:evo sl y=some (.p (.val (.int k j))))
  (hj:0<=j/\j<(a.length:Int)) (hK:K ⟨(d,.p (eK .u8 (byt a j)))::sl,ob⟩):bu C o K ⟨sl,ob⟩:=Is ho hd hn hi U7 hx hy hj hK
theorem gV {t:TypeId}{x:Operand}{lo hi:Option Operand}{a:Bk}{l h:Int}{i:TI}(ho:o.op=.slice t x lo hi none)(hd:o.dst=some d)(hn:Nat.blt d C.n=true)
  (hi':look C.tt t=some i) (U7:i.k=.string) (hx:evo sl x=some (.p (.val (.string (str a))))) (hlo:loI sl lo=some l) (hhi:hiI sl (a.length:Int) hi=some h)
  (hb:0<=l/\l<=h/\h<=(a.length:Int)) (hK:K ⟨(d,.p (eS (sub a l h)))::sl,ob⟩):bu C o K ⟨sl,ob⟩:=Ik ho hd hn hi' U7 hx hlo hhi hb hK
theorem pN {α:Type}{t e:TypeId}{x:Operand}{y:AV}{f:α->PV}{l:List α}{i:TI}(ho:o.op=.call { callee:=.builtin .len,args:=#[x],argTypes:=#[t] })(hd:o.dst=some d)(hn:Nat.blt d C.n=true)
  (hi:look C.tt t=some i) (U7:i.k=.slice e) (hx:evo sl x=some y) (hy:y.elems? = some (l.map f)) (hK:K ⟨(d,.p (eI (l.length:Int)))::sl,ob⟩):bu C o K ⟨sl,ob⟩ :=
 O0 ho hd hn hi U7 hx hy hK
theorem dh {α:Type} [Inhabited α] {t e:TypeId}{x y:Operand}{z:AV}{f:α->PV}{l:List α}{i ie:TI}{k:IntKind}{n:Int}(cs:α->List PV)(ho:o.op=.indexAddr t x y)(hd:o.dst=some d)(hn:Nat.blt d C.n=true)
  (hi:look C.tt t=some i) (U7:i.k=.slice e) (hie:look C.tt e=some ie) (hx:evo sl x=some z) (hz:z.elems? = some (l.map f))
  (hy:evo sl y=some (.p (.val (.int k n)))) (hb:0<=n/\n<(l.length:Int)) (U9:∀ x,(f x).cells=cs x) (U0:∀ x,(cs x).length=ie.size)
  (hK:K ⟨(d,.rptr (cs (lat l n)))::sl,ob⟩):bu C o K ⟨sl,ob⟩:=by
 refine yB (el:=f (lat l n)) ho hd hn hi U7 hie hx hz hy hb.1 ?_ (by grind) (by grind)
 grind [lat]
theorem yD {x:Operand}(ho:o.op=.assign x)(hd:o.dst=some d)(hn:Nat.blt d C.n=true)
  (hK:K ⟨(d,.undef)::sl,ob⟩):bu C o K ⟨sl,ob⟩ :=
 ok_one hd hn (λ g a w hs=>⟨a.eval x,by simp [execOp,ho],.undef _⟩) hK
theorem sc {α:Type}{t e:TypeId}{x:Operand}{lo hi:Option Operand}{z:AV}{f:α->PV}{l:List α}{a h:Int}{i ie:TI}(ho:o.op=.slice t x lo hi none)(hd:o.dst=some d)(hn:Nat.blt d C.n=true)
  (hi':look C.tt t=some i) (U7:i.k=.slice e) (hie:look C.tt e=some ie) (hx:evo sl x=some z) (hz:z.elems? = some (l.map f)) (hlo:loI sl lo=some a) (hhi:hiI sl (l.length:Int) hi=some h)
  (hb:0<=a/\a<=h/\h<=(l.length:Int)) (U0:∀ x,(f x).cells.length=ie.size)
  (hK:K ⟨(d,.p (eL f (sub l a h)))::sl,ob⟩):bu C o K ⟨sl,ob⟩:=by
 refine H8 ho hd hn hi' U7 hie hx hz hlo (by rw [List.length_map]; exact hhi) (by grind) (λ y hy=>?_) ?_
 ·grind
 ·rw [<- List.map_take,<- List.map_drop]; exact hK
end
theorem Gi {sl:List (Nat×AV)}{x:Operand}{k:IntKind}{n m:Int}(h:evo sl x=some (.p (.val (.int k n)))):hiI sl m (some x)=some n:=by
 grind [hiI]
def GX (sl:List (Nat×AV))(k n:Nat):List Nat->Prop|[]=>True|j::r=>(∃ m,look sl j=some (.arr k 1 0 m)/\m=n)/\GX sl k n r
theorem GX.at {sl:List (Nat×AV)}{k n:Nat}:∀ {js:List Nat},GX sl k n js->∀ j∈js,look sl j=some (.arr k 1 0 n)
 | [],_,j,hj=>by simp at hj
 | i::r,h,j,hj=>by
  obtain ⟨m,h1,rfl⟩:=h.1;rcases qr.1 hj with rfl|hj
  ·exact h1
  ·exact GX.at h.2 j hj
end Go.Ab
namespace Go.Ab
abbrev Rev:=List (Nat×Nat×AV)
def yx:Rev->Nat->Option (Nat×AV)|[],_=>none|(j,p)::r,k=>bif Nat.beq j k then some p else yx r k
def rC:Rev->List (Nat×AV)|[]=>[]|(_,p)::r=>p::rC r
def Ih (base:List (Nat×AV))(o:Oper)(rev:Rev):List (Nat×AV)->Prop|[]=>True|(i,x)::r=>(look base i=some x\/∃ k,(o.after.toList.any λ e=>Nat.beq e.on k&&Region.binds .any e)=true/\yx rev k=some (i,x))/\Ih base o rev r
def rx (C:Cx)(ops:Array Oper)(ob:List (Nat×List AV))(o:Oper)(kn:List (Nat×AV))(d:Nat)(r:AV):Prop :=∀ sl,(∀ i x,look kn i=some x->look sl i=some x)->∀ K:AS->Prop,K ⟨(d,r)::sl,ob⟩->One C ops o K ⟨sl,ob⟩
def DQ (C:Cx)(ops:Array Oper)(base:List (Nat×AV))(ob:List (Nat×List AV))(K:AS->Prop):List Oper->Nat->Rev->Prop|[],_,rev=>K ⟨rC rev++base,ob⟩|o::rest,k,rev=>∃ d r kn,o.dst=some d/\(rev.all λ p=>!(Nat.beq p.2.1 d))=true/\look base d=none/\Ih base o rev kn/\rx C ops ob o kn d r/\DQ C ops base ob K rest (k+1) ((k,d,r)::rev)
theorem Tl {C:Cx}{ops:Array Oper}{base:List (Nat×AV)}{ob:List (Nat×List AV)}{K:AS->Prop}{k:Nat}{rev:Rev}(h:K ⟨rC rev++base,ob⟩):DQ C ops base ob K [] k rev:=h
theorem zT {C:Cx}{ops:Array Oper}{base:List (Nat×AV)}{ob:List (Nat×List AV)}{K:AS->Prop}{o:Oper}{rest:List Oper}{k:Nat}{rev:Rev}{d:Nat}(r:AV)(kn:List (Nat×AV))(hkn:Ih base o rev kn)
  (hs:rx C ops ob o kn d r) (hd:o.dst=some d) (hf:(rev.all λ p=>!(Nat.beq p.2.1 d))=true) (hb:look base d=none) (h:DQ C ops base ob K rest (k+1) ((k,d,r)::rev)):DQ C ops base ob K (o::rest) k rev :=
 ⟨d,r,kn,hd,hf,hb,hkn,hs,h⟩
def RF (rev:Rev)(rs:List (Nat×AV)):Prop:=rC rev=rs.reverse/\∀ k p,yx rev k=some p->rs[k]? = some p
theorem Im {rev:Rev}{i:Nat}{x:AV}:(i,x)∈rC rev->∃ j,(j,i,x)∈rev:=by
 induction rev with
 | nil=>grind [rC]
 | cons q r ih=>
  grind [rC]
theorem uo {l:List (Nat×AV)}{i:Nat}(h:∀ p∈l,p.1≠i):look l i=none:=by
 cases hl:look l i with
 | none=>rfl
 | some x=>exact absurd Z (h _ (iX hl))
theorem zB {base:List (Nat×AV)}{o:Oper}{rev:Rev}{rs sl:List (Nat×AV)}(hr:RF rev rs)
  (hap:∀ (i j:Nat) p q,rs[i]? = some p->rs[j]? = some q->p.1=q.1->i=j) (hbs:∀ p∈rs,look base p.1=none)
  (h:∀ i x,look (tZ base o rs) i=some x->look sl i=some x):∀ {kn:List (Nat×AV)},Ih base o rev kn->∀ i x,look kn i=some x->look sl i=some x
 | [],_,i,x,hx=>by simp [look] at hx
 | (j,y)::r,hk,i,x,hx=>by
  rw [aZ] at hx;by_cases e:j=i
  ·rw [if_pos e] at hx
   cases hx; subst e
   refine h j y ?_;unfold tZ;rw [jV];rcases hk.1 with hb|⟨k,X7,WZ⟩
   ·grind [uo]
   ·have hrk:=hr.2 k _ WZ;obtain ⟨e,he,hbe⟩:=List.any_eq_true.1 X7;simp only [py] at hbe;have hek:=cl hbe.1
    have hmem:(j,y)∈o.after.toList.filterMap λ e=>if Region.binds .any e then rs[e.on]? else none :=
     List.mem_filterMap.2 ⟨e,he,by grind⟩
    cases hq:look (o.after.toList.filterMap λ e=>if Region.binds .any e then rs[e.on]? else none) j with
    | none=>grind [zk]
    | some z=>
     obtain ⟨e',_,hex⟩:=List.mem_filterMap.1 (iX hq)
     grind
  ·rw [if_neg e] at hx;exact zB hr hap hbs h hk.2 i x hx
theorem RG {C:Cx}{ops:Array Oper}{base:List (Nat×AV)}{ob:List (Nat×List AV)}{K:AS->Prop}:∀ {l:List Oper} {k:Nat} {rev:Rev} {rs:List (Nat×AV)},DQ C ops base ob K l k rev->rs.length=k->RF rev rs ->
  (∀ (i j:Nat) p q,rs[i]? = some p->rs[j]? = some q->p.1=q.1->i=j)->(∀ p∈rs,look base p.1=none)->DR C ops base ob K l rs
 | [],k,rev,rs,h,_,hr,_,_=>by
  have h':K ⟨rC rev++base,ob⟩:=h;rw [hr.1] at h';exact h'
 | o::rest,k,rev,rs,⟨d,r,kn,hd,hf,hb,hkn,hs,h⟩,hk,hr,hap,hbs=>by
  have hfr:∀ p∈rs,p.1≠d:=by
   intro p hp e;have h1:(p.1,p.2)∈rC rev:=by rw [hr.1]; grind
   obtain ⟨j,hj⟩:=Im h1;have h2:=sm.1 hf _ hj;simp [e] at h2
  refine ⟨d,r,hd,?_,λ sl UT K hK=>hs sl (zB hr hap hbs UT hkn) K hK,RG h (by simp [hk]) ⟨?_,?_⟩ ?_ ?_⟩
  ·grind [jV,uo]
  ·simp [rC,hr.1]
  ·intro k' p h';simp only [yx] at h'
   cases hkk:Nat.beq k k'
   ·rw [hkk] at h';have h2:=hr.2 k' p h'
    grind
   grind [Nat.eq_of_beq_eq_true]
  ·grind
  grind
theorem HY {C:Cx}{id:Nat}{ops:Array Oper}{Q:Exit->AS->Prop}{sl:List (Nat×AV)}{ob:List (Nat×List AV)}(base:List (Nat×AV))(hm:C.P.follows .mixedOrders=true)(hb:fu sl base)
  (hord:(ops.toList.zipIdx.all λ p=>p.1.after.toList.all λ e=>!(Region.binds .any e)||Nat.blt e.on p.2)=true) (h:DQ C ops base ob (Q .normal) ops.toList 0 []):awp C (.region id ops true) Q ⟨sl,ob⟩ :=
 NK base hm hb hord (RG h Z ⟨Z,λ k p h=>by simp [yx] at h⟩ (λ i j p q h=>by simp at h) (λ p h=>by simp at h))
open Go
variable {p:Prop}
theorem EM (h:p:=by
 simp only [Value.okWide,k1,Cell.okWide] at hv
 cases v <;> simp [Cell.ok,k1] at hv
 exact single (by rw [hl]; rfl) Z (by rw [h1]; rfl)):p:=h
theorem Nw (h:p:=by
 have h2:=mapM_some_get g1 0 0 (List.getElem?_range hszpos);simp only [Addr.add,if_true] at h2;rw [List.getElem?_eq_getElem O] at h2;unfold World.cell? at h2;split at h2
 ·split at h2
  ·cases h2
  ·rename_i hs
   cases a with
   | mk bl o s=>
    cases s with
    | none=>rfl
    | some x=>simp at hs
 ·cases h2):p:=h
theorem Ek (h:p:=by
 cases n with
 | zero=>exact h.elim
 | succ n=>simp only [WTf,hl] at h; exact h):p:=h
theorem Nr (h:p:=by
 simp only [Value.okWide,k1] at hv;obtain ⟨vs,rfl,_⟩:=hv;rw [hl]
 exact .agg (by grind [Value.cells]) λ i c v hc hv=>(h2 i c v hc (by grind [Value.cells])).1):p:=h
def WTs (R:Nat->List PV->Prop):List (Nat×Nat)->List PV->Prop|[],cs=>cs=[]|(_,t)::r,cs=>∃ a b,cs=a++b/\R t a/\WTs R r b
def mkE (isAgg:Bool)(cs:List PV):PV:=bif isAgg then .agg cs else cs.headD (.agg [])
def ei:Nat:=140737488351232
def WTf (tt:List (Nat×TI)):Nat->Nat->List PV->Prop
 | 0,_,_=>False
 | n+1,t,cs=>match look tt t with
  | some ⟨.bool,_,_,_⟩=>∃ b,cs=[.val (.bool b)]
  | some ⟨.int k,_,_,_⟩=>∃ m,cs=[.val (.int k m)]/\(Lit.int k m).wf=true
  | some ⟨.string,_,_,_⟩=>∃ l,cs=[.val (.string (str l))]/\l.length<=ei
  | some ⟨.slice e,_,_,_⟩=>∃ es,cs=[.slice es]/\(es.length<=maxLen/\es.length*(((look tt e).map (·.bytes)).getD 0)<=ei)/\∀ x∈es,WTf tt n e x.cells/\x=mkE (((look tt e).map (·.k.isAgg)).getD false) x.cells
  | some ⟨.struct fs,_,_,_⟩=>WTs (WTf tt n) fs cs
  | some ⟨.array k e,_,_,_⟩=>WTs (WTf tt n) (List.replicate k (0,e)) cs
  | _=>False
def zF (tt:List (Nat×TI)):Nat->List (Nat×Nat)->Bool|_,[]=>true|k,(o,t)::r=>Nat.beq o k&&zF tt (k+((look tt t).map (·.size)).getD 0) r
def p7 (tt:List (Nat×TI))(l:List Nat)(t:Nat):Bool:=match look tt t with
 | some ⟨.bool,s,_,_⟩=>Nat.beq s 1
 | some ⟨.int _,s,_,_⟩=>Nat.beq s 1
 | some ⟨.string,s,_,_⟩=>Nat.beq s 1
 | some ⟨.slice e,s,_,_⟩=>Nat.beq s 1&&l.any (Nat.beq e)&&Nat.blt 0 (((look tt e).map (·.size)).getD 0)
 | some ⟨.struct fs,s,_,_⟩=>fs.all (λ f=>l.any (Nat.beq f.2))&&zF tt 0 fs&&Nat.beq s ((fs.map λ f=>((look tt f.2).map (·.size)).getD 0).foldl (·+·) 0)
 | some ⟨.array k e,s,_,_⟩=>l.any (Nat.beq e)&&Nat.beq s (k*((look tt e).map (·.size)).getD 0)
 | _=>false
theorem vV {u:TypeDesc}{n e:Nat}(h:kindOf u=.array n e):u=.array n e:=by cases u <;> simp [kindOf] at h; grind
section
variable {H:Type} {enc:TypeId×Value->H} {P:Program} {tt:List (Nat×TI)} {W:World}
theorem oX (good:dp P tt){t:Nat}{i:TI}(h:look tt t=some i):P.cellsOf t=i.size:=by
 have:=(good.at h).2
 grind [Option.map_eq_some_iff,Program.cellsOf]
theorem Fq (good:dp P tt){t:Nat}{i:TI}(h:look tt t=some i):P.bytesOf t=i.bytes:=by
 have:=(good.at h).2
 grind [Option.map_eq_some_iff,Program.bytesOf]
theorem pB {e:TypeId}{w:Nat}:∀ {ds:List (DataW H)} {d:DataW H},d∈ds->w∈d.weights P e->w∈DataW.weightsAll P e ds
 | x::r,d,hd,hw=>by
  unfold DataW.weightsAll;rcases qr.1 hd with rfl|hd
  ·grind
  ·exact List.mem_append_right _ (pB hd hw)
theorem nZ {w:Nat}:∀ {ts:List TypeId} {ds:List (DataW H)} {i:Nat} {t:TypeId} {d:DataW H},ts[i]? = some t->ds[i]? = some d->w∈d.weights P t->w∈DataW.weightsEach P ts ds
 | t0::ts,d0::ds,0,t,d,ht,hd,hw=>by
  grind [DataW.weightsEach]
 | t0::ts,d0::ds,i+1,t,d,ht,hd,hw=>by
  simp only [List.getElem?_cons_succ] at ht hd;unfold DataW.weightsEach;exact List.mem_append_right _ (nZ ht hd hw)
 | [],_,i,_,_,ht,_,_=>by simp at ht
 | _::_,[],i,_,_,_,hd,_=>by simp at hd
def stW (W:World):Nat->Nat->Prop:=λ b _=>b<W.heap.size
theorem uJ {a:Addr}{n m:Nat}{cs:List Value}(h:W.cells? 0 (a.add m) n=some cs):cs.length=n/\∀ j v,cs[j]? = some v->W.cell? ⟨a.block,a.off+m+j,none⟩=some v/\a.block<W.heap.size:=by
 unfold World.cells? at h;rw [if_pos (ph _)] at h;have Pn:=mapM_some_length h;refine ⟨by grind,λ j v hv=>?_⟩;have hj:j<n:=by grind
 have h2:=mapM_some_get h j j (List.getElem?_range hj);rw [hv] at h2
 have key:∀ b:Addr,W.cell? b=some v->b=⟨b.block,b.off,none⟩/\b.block<W.heap.size:=by
  intro b hb;unfold World.cell? at hb;split at hb
  ·rename_i c _ _ hc;split at hb
   ·cases hb
   ·rename_i hs;refine ⟨?_,(Array.getElem?_eq_some_iff.1 hc).1⟩
    cases b with
    | mk bl o s=>
     simp_all
  ·cases hb
 grind [Addr.add]
theorem Cb (good:dp P tt){l:List Nat}{e:Nat}(_hp:p7 tt l e=true){n:Nat}{cs:List PV}(h:WTf tt n e cs):(mkE (((look tt e).map (·.k.isAgg)).getD false) cs).cells=cs:=by
 cases n with
 | zero=>exact h.elim
 | succ n=>
  simp only [WTf] at h;split at h
  ·rename_i hl; obtain ⟨b,rfl⟩:=h; rw [hl]; rfl
  ·rename_i hl; obtain ⟨m,rfl,_⟩:=h; rw [hl]; rfl
  ·rename_i hl; obtain ⟨m,rfl,_⟩:=h; rw [hl]; rfl
  ·rename_i hl; obtain ⟨m,rfl,_⟩:=h; rw [hl]; rfl
  ·rename_i hl; rw [hl]; rfl
  ·rename_i hl; rw [hl]; rfl
  grind
theorem E0 (good:dp P tt){l:List Nat}(hp:l.all (p7 tt l)=true):∀ (n t:Nat) (cs:List Value) (x:DataW H×List MemPlace),t∈l->DataW.trod enc P W 0 (λ _=>true) true n t cs=some x->(∀ w∈x.1.weights P t,w<=ei) ->
  ∃ ps:List PV,ps.length=cs.length/\(∀ (i:Nat) p v,ps[i]? = some p->cs[i]? = some v->PRep W (stW W) p v/\p.one=true)/\WTf tt n t ps:=by
 intro n
 induction n with
 | zero=>simp_all [DataW.trod]
 | succ n ih=>
  intro t cs x ht h hwt0;have hpt:=sm.1 hp t ht;have hpt':=hpt;unfold p7 at hpt
  have one:∀ {p:PV} {v:Value},PRep W (stW W) p v->p.one=true->∀ (i:Nat) p' v',[p][i]? = some p'->[v][i]? = some v'->PRep W (stW W) p' v'/\p'.one=true:=by
   grind
  split at hpt
  ·rename_i s b z hl;obtain ⟨u,h1,h2⟩:=bU good hl;have h3:=sG h2; subst h3;obtain ⟨b,rfl,rfl⟩:=DataW.trod_bool h1 h;exact ⟨[.val (.bool b)],rfl,one (.val _) rfl,by grind [WTf]⟩
  ·rename_i k s b z hl;obtain ⟨u,h1,h2⟩:=bU good hl;have h3:=pw h2; subst h3;obtain ⟨m,rfl,rfl,hw⟩:=DataW.trod_int h1 h;exact ⟨[.val (.int k m)],rfl,one (.val _) rfl,by grind [WTf]⟩
  ·rename_i s b z hl;obtain ⟨u,h1,h2⟩:=bU good hl;have h3:=jk h2; subst h3;obtain ⟨a,rfl,rfl,hw⟩:=DataW.trod_string h1 h;refine ⟨[.val (.string (str a.data.toList))],rfl,one (Jk a) rfl,?_⟩;simp only [WTf,hl];refine ⟨a.data.toList,rfl,?_⟩
   simp_all [DataW.weights]
  ·rename_i e s b z hl;obtain ⟨u,h1,h2⟩:=bU good hl;have h3:=cu h2; subst h3;simp only [py] at hpt;obtain ⟨⟨_,he⟩,hsz0⟩:=hpt
   have hel:e∈l:=by
    simp_all
   have hpe:=sm.1 hp e hel;rcases DataW.trod_slice h1 h with ⟨rfl,rfl⟩|⟨a,len,cap,elems,rest,m,hm,rfl,rfl,hb,hlc,hcm,Pn,hget,hsp,_⟩
   ·exact ⟨[.slice []],Z,one .nils Z,by grind [WTf]⟩
   ·obtain rfl:n=m:=by omega
    -- each element
    have each:∀ i,i<len->∃ cs' ps,W.cells? 0 (a.add (i*P.cellsOf e)) (P.cellsOf e)=some cs'/\ps.length=cs'.length/\(∀ (j:Nat) p v,ps[j]? = some p->cs'[j]? = some v->PRep W (stW W) p v/\p.one=true)/\WTf tt n e ps:=by
     intro i hi;have h4:=hget i hi;rw [List.getElem?_eq_getElem O] at h4;obtain ⟨cs',h5,h6⟩:=Option.bind_eq_some_iff.1 h4
     grind [DataW.weights,pB,List.mem_map_of_mem,List.getElem_mem]
    have each':∃ f:Nat->List Value×List PV,∀ i,i<len->W.cells? 0 (a.add (i*P.cellsOf e)) (P.cellsOf e)=some (f i).1/\(f i).2.length=(f i).1.length/\(∀ (j:Nat) p v,(f i).2[j]? = some p->(f i).1[j]? = some v->PRep W (stW W) p v/\p.one=true)/\WTf tt n e (f i).2:=by
     refine ⟨λ i=>if hi:i<len then (Classical.choose (each i hi),Classical.choose (Classical.choose_spec (each i hi))) else ([],[]),λ i hi=>?_⟩
     grind
    obtain ⟨f,hf⟩:=each'
    obtain ⟨ie,hie⟩:∃ ie,look tt e=some ie:=by
     grind [p7]
    have U6:=oX good hie;have hszpos:0<ie.size:=by simp_all
    let es:List PV:=(List.range len).map λ i=>mkE (((look tt e).map (·.k.isAgg)).getD false) (f i).2
    have hesl:es.length=len:=by simp [es]
    have hesg:∀ (i:Nat) y,es[i]? = some y->i<len/\y.cells=(f i).2/\y=mkE (((look tt e).map (·.k.isAgg)).getD false) (f i).2:=by
     grind [Cb]
    have hmem:∀ y∈es,∃ i,i<len/\y.cells=(f i).2/\y=mkE (((look tt e).map (·.k.isAgg)).getD false) (f i).2:=by
     grind
    have hfl:∀ i,i<len->(f i).2.length=ie.size:=by
     grind [uJ]
    have hwt:WTf tt (n+1) t [PV.slice es]:=by
     simp only [WTf,hl]
     grind [DataW.weights,List.mem_cons_self,Fq]
    refine ⟨[.slice es],Z,one ?_ Z,hwt⟩;rw [<- hesl];by_cases hc0:cap=0
    ·have:es=[]:=(by grind)
     rw [this,hc0]; exact .nile a
    · -- some cell is read,so the address is one of a cell
     have hspot:a=⟨a.block,a.off,none⟩:=by
      by_cases hl0:0<len
      ·obtain ⟨g1,g2,_,_⟩:=hf 0 hl0;rw [U6,Nat.zero_mul] at g1;obtain ⟨k1,k2⟩:=uJ g1;unfold World.cells? at g1;rw [if_pos (ph _)] at g1;exact Nw
      ·obtain rfl:len=0:=by omega
       obtain ⟨hr1,hr2⟩:=hsp rfl;have h4:=hr2 0 O;rw [List.getElem?_eq_getElem O] at h4;obtain ⟨cs',g1,_⟩:=Option.bind_eq_some_iff.1 h4;rw [U6,Nat.zero_add,Nat.zero_mul] at g1;have k1:=(uJ g1).1;unfold World.cells? at g1;rw [if_pos (ph _)] at g1;exact Nw
     rw [hspot];refine .slice ie.size (λ i j=>((f i).1[j]?).getD .nilFunc) (by grind) (λ y hy=>?_) (λ y hy c hc=>?_) (λ i y j c hy hc=>?_) (λ i y j c hy hc=>?_)
     ·grind
     ·obtain ⟨i,hi,h5,_⟩:=hmem y hy;rw [h5] at hc;obtain ⟨j,hj⟩:=List.mem_iff_getElem?.1 hc;obtain ⟨g1,g2,g3,_⟩:=hf i hi;have hjl:j<(f i).1.length:=by grind
      exact (g3 j c _ hj (List.getElem?_eq_getElem hjl)).2
     ·obtain ⟨hi,h5,_⟩:=hesg i y hy;rw [h5] at hc;obtain ⟨g1,g2,g3,_⟩:=hf i hi;rw [U6] at g1;have hjl:j<(f i).1.length:=by grind
      have:=(uJ g1).2 j _ (List.getElem?_eq_getElem hjl);rw [List.getElem?_eq_getElem hjl];exact ⟨this.2,this.1⟩
     grind
  ·rename_i fs s b z hl;obtain ⟨u,h1,h2⟩:=bU good hl;obtain ⟨F,rfl,hF⟩:=ji h2;obtain ⟨xs,m,hm,rfl,hcl,hxs,hfld⟩:=DataW.trod_struct h1 h;obtain rfl:n=m:=by omega
   simp only [py] at hpt;obtain ⟨⟨hall,htile⟩,hsum⟩:=hpt;have U6:=oX good hl;rw [U6] at hcl;have hcl:cs.length=s:=hcl;have hs:=cl hsum
   -- field by field
   have go:∀ (gs:List Field) (k:Nat),(∀ f∈gs,f.type∈l/\∃ y,DataW.trod enc P W 0 (λ _=>true) true n f.type ((cs.drop f.offset).take (P.cellsOf f.type))=some y/\∀ w∈y.1.weights P f.type,w<=ei)->zF tt k (gs.map λ f=>(f.offset,f.type))=true ->
     k+((gs.map λ f=>((look tt f.type).map (·.size)).getD 0).foldl (·+·) 0)=cs.length ->
     ∃ ps:List PV,ps.length=(cs.drop k).length/\(∀ (i:Nat) p v,ps[i]? = some p->(cs.drop k)[i]? = some v->PRep W (stW W) p v/\p.one=true)/\WTs (WTf tt n) (gs.map λ f=>(f.offset,f.type)) ps:=by
    intro gs
    induction gs with
    | nil=>
     intro k _ _ hk;simp at hk;refine ⟨[],?_,by simp,rfl⟩;simp; omega
    | cons f gs ihg=>
     intro k hfs htl hk;simp only [n7,zF,py] at htl;obtain ⟨ho,htl⟩:=htl;have ho:=cl ho;obtain ⟨hfl,y,hy,hyw⟩:=hfs f G;obtain ⟨ps1,p1,p2,p3⟩:=ih f.type _ y hfl hy hyw
     obtain ⟨fi,hfi⟩:∃ fi,look tt f.type=some fi:=by
      grind [p7]
     have hfc:=oX good hfi;have U0:((look tt f.type).map (·.size)).getD 0=fi.size:=by grind
     have fold_add:∀ (q:List Nat) (a:Nat),q.foldl (·+·) a=a+q.foldl (·+·) 0:=by
      intro q
      induction q with
      | nil=>grind
      | cons x q ihq=>grind
     simp only [n7,List.foldl_cons] at hk;rw [fold_add] at hk;rw [U0] at hk htl;obtain ⟨ps2,q1,q2,q3⟩:=ihg (k+fi.size) (λ g hg=>hfs g (by simp [hg])) htl O;rw [ho,hfc] at p1 p2;have hl1:ps1.length=fi.size:=by grind
     refine ⟨ps1++ps2,?_,λ i p v hp' hv=>?_,ps1,ps2,Z,p3,q3⟩
     ·grind
     grind
   have hFl:F.toList.map (λ f=>(f.offset,f.type))=fs:=hF
   have hz:(F.toList.map λ f=>((look tt f.type).map (·.size)).getD 0)=fs.map λ f=>((look tt f.2).map (·.size)).getD 0:=by
    rw [<- hFl,List.map_map]; rfl
   obtain ⟨ps,r1,r2,r3⟩:=go F.toList 0 (λ f hf=>by
    obtain ⟨i,hi⟩:=List.mem_iff_getElem?.1 hf;have hi':F[i]? = some f:=by grind
    have h5:=hfld i f hi';have hil:i<xs.length:=by grind
    rw [List.getElem?_eq_getElem hil] at h5
    refine ⟨?_,_,h5,λ w hw=>hwt0 w (by
     simp only [DataW.weights,h1]
     exact nZ (i:=i) (by grind) (by grind) hw)⟩
    have h6:=sm.1 hall (f.offset,f.type) (by grind)
    simp_all) (by grind) (by grind)
   grind [WTf]
  ·rename_i k e s b z hl;obtain ⟨u,h1,h2⟩:=bU good hl;have h3:=vV h2; subst h3;obtain ⟨xs,m,hm,rfl,hcl,hxs,hel⟩:=DataW.trod_array h1 h;obtain rfl:n=m:=by omega
   simp only [py] at hpt;obtain ⟨hany,hsum⟩:=hpt
   have hin:e∈l:=by
    simp_all
   have U6:=oX good hl;rw [U6] at hcl;have hcl:cs.length=s:=hcl;have hs:=cl hsum
   obtain ⟨ie,hie⟩:∃ ie,look tt e=some ie:=by
    grind [p7]
   have hec:=oX good hie;have U0:((look tt e).map (·.size)).getD 0=ie.size:=by grind
   rw [U0] at hs;rw [hec] at hel
   have go:∀ (r j:Nat),j+r=k->∃ ps:List PV,ps.length=(cs.drop (j*ie.size)).length/\(∀ (i:Nat) p v,ps[i]? = some p->(cs.drop (j*ie.size))[i]? = some v->PRep W (stW W) p v/\p.one=true)/\WTs (WTf tt n) (List.replicate r (0,e)) ps:=by
    intro r
    induction r with
    | zero=>
     intro j hj;have hjk:j=k:=by omega
     refine ⟨[],?_,by simp,Z⟩
     grind
    | succ r ihr=>
     intro j hj;have hjk:j<k:=by omega
     have h5:=hel j hjk;rw [List.getElem?_eq_getElem O] at h5
     obtain ⟨ps1,p1,p2,p3⟩:=ih e _ _ hin h5 (λ w hw=>hwt0 w (by
      grind [DataW.weights,pB,List.mem_map_of_mem,List.getElem_mem]))
     obtain ⟨ps2,q1,q2,q3⟩:=ihr (j+1) O;have hmul:(j+1)*ie.size=j*ie.size+ie.size:=Nat.succ_mul ..;have hle:(j+1)*ie.size<=k*ie.size:=Nat.mul_le_mul_right _ hjk;have hl1:ps1.length=ie.size:=by grind
     rw [hmul] at q1 q2;refine ⟨ps1++ps2,?_,λ i p v hp' hv=>?_,ps1,ps2,rfl,p3,q3⟩
     ·grind
     ·rcases Nat.lt_or_ge i ie.size with hi|hi
      ·grind
      ·rw [List.getElem?_append_right O] at hp';refine q2 (i-ps1.length) p v hp' ?_;rw [List.getElem?_drop] at hv ⊢
       grind
   obtain ⟨ps,r1,r2,r3⟩:=go k 0 O
   grind [WTf]
  grind
def WTv (tt:List (Nat×TI))(t:Nat)(p:PV):Prop:=∃ n,WTf tt n t p.cells/\p=mkE (((look tt t).map (·.k.isAgg)).getD false) p.cells
def WTa (tt:List (Nat×TI)):List Nat->List PV->Prop|[],[]=>True|t::ts,p::ps=>WTv tt t p/\WTa tt ts ps|_,_=>False
theorem My (good:dp P tt){l:List Nat}(hp:l.all (p7 tt l)=true){t base:Nat}(ht:t∈l){v:Value}{d:DataW H}{ps:List MemPlace}(hv:Value.okWide P W .any base t v)(h:DataW.Trod enc P W 0 (λ _=>true) true t v d ps)(hw:∀ w∈d.weights P t,w<=ei) :
  ∃ p,PRep W (stW W) p v/\WTv tt t p:=by
 obtain ⟨n,hn⟩:=h;obtain ⟨qs,h1,h2,h3⟩:=E0 good hp n t _ _ ht hn hw;have hpt:=sm.1 hp t ht;have U9:=Cb good hpt h3;refine ⟨mkE (((look tt t).map (·.k.isAgg)).getD false) qs,?_,n,by grind,by rw [U9]⟩
 have single:((look tt t).map (·.k.isAgg)).getD false=false->v.cells=#[v]->qs.length=1->PRep W (stW W) (mkE (((look tt t).map (·.k.isAgg)).getD false) qs) v:=by
  intro h4 h5 h6;rw [h4];obtain ⟨q,rfl⟩:=List.length_eq_one_iff.1 h6;exact (h2 0 q v rfl (by grind)).1
 unfold p7 at hpt;split at hpt
 ·rename_i s b z hl;obtain ⟨u,k1,k2⟩:=bU good hl;have k3:=sG k2; subst k3;exact EM
 ·rename_i k s b z hl;obtain ⟨u,k1,k2⟩:=bU good hl;have k3:=pw k2; subst k3;exact EM
 ·rename_i s b z hl;obtain ⟨u,k1,k2⟩:=bU good hl;have k3:=jk k2; subst k3;exact EM
 ·rename_i e s b z hl;obtain ⟨u,k1,k2⟩:=bU good hl;have k3:=cu k2; subst k3;simp only [Value.okWide,k1,Cell.okWide] at hv
  cases v <;> simp [Cell.ok,k1] at hv
  all_goals exact single (by rw [hl]; rfl) Z (by rw [h1]; rfl)
 ·rename_i fs s b z hl;obtain ⟨u,k1,k2⟩:=bU good hl;obtain ⟨F,rfl,_⟩:=ji k2;exact Nr
 ·rename_i k e s b z hl;obtain ⟨u,k1,k2⟩:=bU good hl;have k3:=vV k2; subst k3;exact Nr
 grind
theorem zg {base:Nat}(good:dp P tt){l:List Nat}(hp:l.all (p7 tt l)=true):∀ {ts:List Nat} {vs:List Value} {ds:List (DataW H)} {ps:List MemPlace},(∀ t∈ts,t∈l)->(∀ (j:Nat) t v,ts[j]? = some t->vs[j]? = some v->Value.okWide P W .any base t v) ->
  DataW.TrodAll enc P W 0 (λ _=>true) true ts vs ds ps->(∀ w∈DataW.weightsEach P ts ds,w<=ei)->∃ qs,qs.length=vs.length/\(∀ (i:Nat) c v,qs[i]? = some c->vs[i]? = some v->PRep W (stW W) c v)/\WTa tt ts qs
 | [],[],[],_,_,_,_,_=>⟨[],Z,by simp,trivial⟩
 | t::ts,v::vs,d::ds,ps,hts,hok,⟨p,q,h1,h2,_⟩,hw=>by
  obtain ⟨c,k1,k2⟩:=My good hp (hts t G) (hok 0 t v Z Z) h1 (λ w hw0=>hw w (nZ (i:=0) Z Z hw0));obtain ⟨qs,m1,m2,m3⟩:=zg good hp (λ t ht=>hts t (by simp [ht])) (λ j t v hj hv=>hok (j+1) t v hj hv) h2 (λ w hw0=>hw w (by grind [DataW.weightsEach]));refine ⟨c::qs,by simp [m1],λ i c' v' hc hv=>?_,k2,m3⟩
  grind
 | [],_::_,_,_,_,_,h,_=>h.elim
 | [],[],_::_,_,_,_,h,_=>h.elim
 | _::_,[],_,_,_,_,h,_=>h.elim
 | _::_,_::_,[],_,_,_,h,_=>h.elim
theorem Fv {W':World}(hg:Kept W W'){p:MemPlace}(hp:p.block<W.heap.size):W.sameAt W' p:=by
 cases p with
 | cell b o=>
  simp only [MemPlace.block] at hp;simp only [World.sameAt,World.cell?,hg.block b hp]
 | map b=>exact hg.block b hp
theorem w9 {W':World}(hg:Kept W W'):∀ {ts:List Nat} {vs:List Value} {ds:List (DataW H)} {ps:List MemPlace},(∀ p∈ps,p.block<W.heap.size)->DataW.TrodAll enc P W 0 (λ _=>true) true ts vs ds ps->DataW.TrodAll enc P W' 0 (λ _=>true) true ts vs ds ps
 | [],[],[],_,_,h=>h
 | _::_,_::_,_::_,_,hlt,⟨p,q,⟨n,h1⟩,h2,e⟩=>
  ⟨p,q,⟨n,DataW.trod_carry n _ _ _ h1 (λ x hx=>Fv hg (hlt x (by grind)))⟩,w9 hg (λ x hx=>hlt x (by grind)) h2,e⟩
 | [],_::_,_,_,_,h=>h.elim
 | [],[],_::_,_,_,h=>h.elim
 | _::_,[],_,_,_,h=>h.elim
 | _::_,_::_,[],_,_,h=>h.elim
theorem Hu (hl:laidOutB P=true)(hm:mapsRowed P=true)(hz:((List.range P.types.size).all λ t=>match P.underlying t with|some (.slice e)=>decide (0<P.cellsOf e)|_=>true)=true)
  {W':World} (hg:Kept W W') {ts:List Nat} {vs:List Value} {ds:List (DataW H)} {ps:List MemPlace} (hts:(ts.all λ t=>decide (t<P.types.size))=true) (hlt:∀ p∈ps,p.block<W.heap.size)
  (h:DataW.TrodAll enc P W 0 (λ _=>true) true ts vs ds ps) (sp:Nat->Bool) (hsp:∀ p∈ps,sp p.block=true):DataW.TrodAll enc P W' 0 sp true ts vs ds ps :=
 DataW.TrodAll.respare (kids_rows hl hm) (slices_full_of P hz) (λ t ht=>by grind) (w9 hg hlt h) hsp
end
open Go.ChangeShapes Go.WideShapes in
theorem Iy {H:Type}{enc:TypeId×Value->H}{P:Program}{f:Func}{s:ChangeSpec}{apart fresh handsOn again:Bool}{W W':World}{args:Array Value}{v:Value}{ds gs:List (DataW H)}{before pa pv:List MemPlace}
  (hW:DataW.Whole enc P f.params.toList s.vars apart W args.toList ds gs before)
  (hres:∀ (b:Nat) (sp:Nat->Bool) (hd:Bool),DataW.TrodAll enc P W' b sp hd f.resultTypes.toList (v.resultList f.resultTypes.size) (s.fn H (ds++gs)).results [])
  (hargs:∀ sp:Nat->Bool,(∀ p∈before,sp p.block=true)->DataW.TrodAll enc P W' 0 sp true f.params.toList args.toList (s.fn H (ds++gs)).args pa)
  (hvars:∀ sp:Nat->Bool,(∀ p∈before,sp p.block=true)->DataW.TrodVars enc P W' sp s.vars (s.fn H (ds++gs)).vars pv)
  (hps:before=pa++pv) (hk:Kept W W')
  (hok:∀ (j:Nat) (t:TypeId) (r:Value),f.resultTypes[j]? = some t->(v.resultList f.resultTypes.size)[j]? = some r->Value.okWide P W' .any 0 t r) :
  s.post enc P f apart fresh handsOn again W args v W':=by
 have hold:∀ p∈before,(λ b=>decide (b<W.heap.size)) p.block=true:=λ p hp=>by simpa using hW.lt p hp
 have hlt:∀ p∈before,p.block<W.heap.size:=λ p hp=>hW.lt p hp;refine ⟨ds,gs,before,[],pa,pv,hW,hres _ _ _,hargs _ hold,hvars _ hold,hk.frame _,λ _=>?_⟩;obtain ⟨_,_,_,_,_,hz,hn⟩:=hW;refine ⟨hok,_,_,([]++pa)++pv,⟨[]++pa,pv,trodAll_append (hargs _ (λ _ _=>rfl)) (hres _ _ _),hvars _ (λ _ _=>rfl),rfl,?_,?_⟩,?_⟩
 ·intro b off hp;have hp':MemPlace.cell b off∈before:=by grind
  rw [hk.frozen ⟨b,off,none⟩ (hlt _ hp')];exact hz b off hp'
 ·grind
 grind
section
variable {tt:List (Nat×TI)} {n t:Nat} {cs:List PV} {s b:Nat} {z:List Value}
theorem Ng (hl:look tt t=some ⟨.bool,s,b,z⟩)(h:WTf tt n t cs):∃ x,cs=[eB x]:=by
 exact Ek
theorem P9 {k:IntKind}(hl:look tt t=some ⟨.int k,s,b,z⟩)(h:WTf tt n t cs):∃ x,cs=[eK k x]/\(Lit.int k x).wf=true:=by
 exact Ek
theorem wf_i64 {x:Int}(h:(Lit.int .i64 x).wf=true):inR x:=by
 simp [Lit.wf,IntKind.min,IntKind.max,IntKind.bits,IntKind.signed] at h;exact Ad
theorem gx (hl:look tt t=some ⟨.int .i64,s,b,z⟩)(h:WTf tt n t cs):∃ x,cs=[eI x]/\inR x:=by
 obtain ⟨x,h1,h2⟩:=P9 hl h;exact ⟨x,h1,wf_i64 h2⟩
theorem jt (hl:look tt t=some ⟨.string,s,b,z⟩)(h:WTf tt n t cs):∃ x,cs=[eS x]/\x.length<=ei:=by
 exact Ek
theorem Jw {α:Type}(f:α->PV)(Q:α->Prop){e:Nat}(hl:look tt t=some ⟨.slice e,s,b,z⟩)(h:WTf tt (n+1) t cs)
  (he:∀ x,WTf tt n e x.cells->x=mkE (((look tt e).map (·.k.isAgg)).getD false) x.cells->∃ y,x=f y/\Q y):∃ l:List α,cs=[eL f l]/\(l.length<=maxLen/\l.length*(((look tt e).map (·.bytes)).getD 0)<=ei)/\∀ y∈l,Q y:=by
 simp only [WTf,hl] at h;obtain ⟨es,rfl,h2,h3⟩:=h
 have key:∀ es:List PV,(∀ x∈es,∃ y,x=f y/\Q y)->∃ l:List α,es=l.map f/\∀ y∈l,Q y:=by
  intro es
  induction es with
  | nil=>simp
  | cons x r ih=>
   intro h;obtain ⟨y,h1,h2⟩:=h x G;obtain ⟨l,h3,h4⟩:=ih λ z hz=>h z (by simp [hz]);refine ⟨y::l,by grind,λ z hz=>?_⟩
   grind
 obtain ⟨l,rfl,h5⟩:=key es (by grind);exact ⟨l,rfl,by grind,h5⟩
theorem Nz {x c:PV}(h1:x.cells=[c])(h2:x=mkE false x.cells):x=c:=by rw [h1] at h2; exact h2
theorem qZ {x:PV}{l:List PV}(h1:x.cells=l)(h2:x=mkE true x.cells):x=.agg l:=by rw [h1] at h2; exact h2
theorem bI {R:Nat->List PV->Prop}{o u:Nat}{r:List (Nat×Nat)}(h:WTs R ((o,u)::r) cs):∃ a q,cs=a++q/\R u a/\WTs R r q:=h
theorem iq {fs:List (Nat×Nat)}(hl:look tt t=some ⟨.struct fs,s,b,z⟩)(h:WTf tt (n+1) t cs):WTs (WTf tt n) fs cs:=by
 grind [WTf]
end
end Go.Ab
end
section
namespace Go.Ab
def GC.val:GC->Value|.int k n=>.int k n|.ifc=>.nilIface|.some k=>.int k 0
def LN (P:Program):Nat->TypeId->DataW Unit->List GC->Bool
 | 0,_,_,_=>false
 | n+1,t,d,l=>match P.underlying t,d with
  | some (.int k),.lit (.int k' z)=>match l with
   | [.int k'' z']=>decide (k=k'/\k'=k''/\z=z')
   | _=>false
  | some (.interface _),.iface _ _=>match l with
   | [.ifc]=>true
   | _=>false
  | some (.array m e),.agg ps=>decide (l.length=P.cellsOf t)&&decide (P.cellsOf t=m*P.cellsOf e)&&decide (ps.length=m)&&(List.range m).all λ i=>match ps[i]? with
   | some x=>LN P n e x ((l.drop (i*P.cellsOf e)).take (P.cellsOf e))
   | none=>false
  | some (.struct fs),.agg ps=>decide (l.length=P.cellsOf t)&&decide (ps.length=fs.size)&&((List.range fs.size).all λ i=>match fs[i]?,ps[i]? with
   | some f,some x=>LN P n f.type x ((l.drop f.offset).take (P.cellsOf f.type))
   | _,_=>false)&&(List.range l.length).all λ j=>(List.range fs.size).any λ i=>match fs[i]? with
   | some f=>decide (f.offset<=j)&&decide (j<f.offset+P.cellsOf f.type)
   | none=>false
  | _,_=>false
def GC.has:GC->Value->Prop|.int k n,v=>v=.int k n|.ifc,v=>∃ t u,v=.iface t u|.some k,v=>∃ m,v=.int k m
theorem GC.rep {c:GC}{v:Value}(h:c.has v)(w:World)(st:Nat->Nat->Prop):PRep w st c.pv v:=by
 cases c with
 | int k n=>cases h; exact .val _
 | ifc=>obtain ⟨t,u,rfl⟩:=h; exact .ifc t u
 | some k=>obtain ⟨m,rfl⟩:=h; exact .aint k m
theorem ww {α:Type}{l:List α}{a s r:Nat}(hr:r<s):((l.drop a).take s)[r]? = l[a+r]?:=by
 rw [List.getElem?_take_of_lt hr,List.getElem?_drop]
theorem Qi {P:Program}{w:World}{base:Nat}{sp:Nat->Bool}:∀ (n fuel:Nat) (t:TypeId) (d:DataW Unit) (l:List GC) (cs:List Value) (p:List MemPlace),LN P n t d l=true ->
  DataW.trod (λ _=>()) P w base sp false fuel t cs=some (d,p)->cs.length=l.length/\∀ (j:Nat) c v,l[j]? = some c->cs[j]? = some v->c.has v:=by
 intro n
 induction n with
 | zero=>intro _ _ _ _ _ _ h; cases h
 | succ n ih=>
  intro fuel t d l cs p h ht;unfold LN at h;split at h
  ·rename_i k k' z hu;split at h
   ·obtain ⟨rfl,rfl,rfl⟩:=of_decide_eq_true h;obtain ⟨m,rfl,hx,_⟩:=DataW.trod_int hu ht;simp only [Prod.mk.injEq,DataW.lit.injEq,Lit.int.injEq] at hx;obtain ⟨⟨_,rfl⟩,_⟩:=hx;refine ⟨rfl,λ j c v h1 h2=>?_⟩
    cases j with
    | zero=>cases h1; cases h2; rfl
    | succ j=>cases h1
   ·cases h
  ·rename_i ms nm x hu;split at h
   ·cases fuel with
    | zero=>simp [DataW.trod] at ht
    | succ m=>
     unfold DataW.trod at ht;rw [hu] at ht;split at ht <;> simp_all;refine λ j c v h1 h2=>?_
     cases j with
     | zero=>simp at h1 h2; subst h1 h2; exact ⟨_,_,rfl⟩
     | succ j=>simp at h1
   ·cases h
  ·rename_i m e ps hu;simp only [py,decide_eq_true_eq] at h;obtain ⟨⟨⟨h1,h2⟩,h3⟩,h4⟩:=h;obtain ⟨xs,f,rfl,hx,hl,hxl,hall⟩:=DataW.trod_array hu ht;simp only [Prod.mk.injEq,DataW.agg.injEq] at hx;obtain ⟨rfl,_⟩:=hx;refine ⟨hl.trans h1.symm,λ j c v hc hv=>?_⟩
   have hj:j<m*P.cellsOf e:=by
    rw [<- h2,<- h1]; exact (List.getElem?_eq_some_iff.1 hc).1
   have hs:0<P.cellsOf e:=Nat.pos_of_ne_zero λ e0=>by rw [e0] at hj; omega
   have hi:j / P.cellsOf e<m:=Nat.div_lt_of_lt_mul (by rwa [Nat.mul_comm]);have hr:j%P.cellsOf e<P.cellsOf e:=Nat.mod_lt _ hs;have ej:j / P.cellsOf e*P.cellsOf e+j%P.cellsOf e=j:=by rw [Nat.mul_comm]; exact Nat.div_add_mod _ _
   have hk:=sm.1 h4 (j / P.cellsOf e) (List.mem_range.2 hi);split at hk
   ·rename_i x hx;rw [List.getElem?_map] at hx;obtain ⟨y,hy,rfl⟩:=ro.1 hx;have hy':=hall _ hi;rw [hy] at hy';have:=(ih f e y.1 _ _ y.2 hk (by rw [hy'])).2 (j%P.cellsOf e) c v (by rw [ww hr,ej]; exact hc) (by rw [ww hr,ej]; exact hv);exact this
   ·cases hk
  ·rename_i fs ps hu;simp only [py,decide_eq_true_eq] at h;obtain ⟨⟨⟨h1,h3⟩,h4⟩,h5⟩:=h;obtain ⟨xs,f,rfl,hx,hl,hxl,hall⟩:=DataW.trod_struct hu ht;simp only [Prod.mk.injEq,DataW.agg.injEq] at hx;obtain ⟨rfl,_⟩:=hx;refine ⟨hl.trans h1.symm,λ j c v hc hv=>?_⟩;have hj:j<l.length:=(List.getElem?_eq_some_iff.1 hc).1;obtain ⟨i,hi,hin⟩:=List.any_eq_true.1 (sm.1 h5 j (List.mem_range.2 hj));have hk:=sm.1 h4 i hi;split at hin
   ·rename_i fd hfd;simp only [py,decide_eq_true_eq] at hin;rw [hfd] at hk;split at hk
    ·rename_i f' x e1 hx
     cases e1
     rw [List.getElem?_map] at hx;obtain ⟨y,hy,rfl⟩:=ro.1 hx;have hy':=hall _ _ hfd;rw [hy] at hy';have ej:fd.offset+(j-fd.offset)=j:=by omega
     exact (ih f fd.type y.1 _ _ y.2 hk (by rw [hy'])).2 (j-fd.offset) c v (by rw [ww O,ej]; exact hc) (by rw [ww O,ej]; exact hv)
    ·cases hk
   ·cases hin
  ·cases h
theorem yp {P:Program}{w:World}:∀ {l:List (String×DataW Unit)} {ps:List MemPlace},DataW.LaidVars P w l ps->∀ n d,(n,d)∈l ->
  ∃ g t cs fuel p,P.globalNamed n=some g/\(P.globals[g]?).map (·.type)=some t/\w.var? P n=some cs/\DataW.trod (λ _=>()) P w 0 (λ _=>true) false fuel t cs.toList=some (d,p)
 | [],_,_,_,_,hm=>by cases hm
 | (n',d')::r,ps,h,n,d,hm=>by
  obtain ⟨g,t,cs,fuel,p,q,h1,h2,h3,h4,h5,_⟩:=h;rcases qr.1 hm with e|e
  ·cases e
   exact ⟨g,t,cs,fuel,p,h1,h2,h3,h4⟩
  ·exact yp h5 n d e
def zN (P:Program)(g:Nat)(l:List GC):Bool:=match l with
 | [.some k]=>decide (g<P.globals.size)&&match ((begin P (λ _ _=>0) default).world.heap[g]?).bind Obj.row? with
  | some (zero,t)=>decide (zero.size=1)&&P.buildable t&&decide (P.cellTypes P.depth t=some [t])&&(match P.underlying t with
   | some (.int k')=>decide (k'=k)
   | _=>false)
  | none=>false
 | _=>false
theorem El {P:Program}{w:World}{g:Nat}{l:List GC}(h:zN P g l=true)(hsh:w.ShapedOpen P):∃ k cs t,l=[.some k]/\w.heap[g]? = some (.cells cs t)/\cs.size=1/\∃ m,w.cell? ⟨g,0,none⟩=some (.int k m):=by
 unfold zN at h;split at h
 ·rename_i k;simp only [py,decide_eq_true_eq] at h;obtain ⟨hg,h⟩:=h;split at h
  ·rename_i zero t h0;simp only [py,decide_eq_true_eq] at h;obtain ⟨⟨⟨h1,h2⟩,h3⟩,h4⟩:=h;split at h4
   ·rename_i k' hu;obtain rfl:=of_decide_eq_true h4;obtain ⟨cs,hh,hs,_⟩:=hsh.1 g zero t hg h0;exact ⟨k',cs,t,rfl,hh,hs.trans h1,Go.Proofs.cell_of_shapedOpen_int hsh hg h0 h1 h2 h3 hu⟩
   ·cases h4
  ·cases h
 ·cases h
def He (P:Program)(laid:List (String×DataW Unit)):Bool :=
 sM.all λ x=>zN P x.1 x.2||laid.any λ y=>P.globalNamed y.1==some x.1&&match (P.globals[x.1]?).map (·.type) with
  | some t=>LN P 6 t y.2 x.2
  | none=>false
theorem IL {α:Type}{l:List (Nat×α)}{g:Nat}{v:α}(h:look l g=some v):(g,v)∈l:=by
 induction l with
 | nil=>cases h
 | cons x r ih=>
  obtain ⟨j,y⟩:=x;unfold look at h
  cases hb:Nat.beq j g with
  | true=>rw [hb] at h; cases h; rw [cl hb]; exact th
  | false=>rw [hb] at h; exact List.mem_cons_of_mem _ (ih h)
theorem PT {P:Program}{laid:List (String×DataW Unit)}{w:World}(hc:He P laid=true)(h:laidMet P laid w)(hsh:w.ShapedOpen P):mN w (λ b _=>b<w.heap.size):=by
 intro g cs hg;obtain ⟨l,hl,rfl⟩:=ro.1 hg;rcases Bool.or_eq_true_iff.1 (sm.1 hc _ (IL hl)) with hs|hk
 ·obtain ⟨k,cs,t,rfl,hh,U0,m,hm⟩:=El hs hsh;have hlt:g<w.heap.size:=(Array.getElem?_eq_some_iff.1 hh).1;refine ⟨λ j c hj=>⟨hlt,?_⟩,hlt,?_⟩
  ·cases j with
   | zero=>cases hj; exact ⟨_,hm,.aint k m⟩
   | succ j=>simp at hj
  ·show w.cell? ⟨g,1,none⟩=none;simp [World.cell?,hh,U0]
 obtain ⟨y,hy,hk⟩:=List.any_eq_true.1 hk;simp only [py,beq_iff_eq] at hk;obtain ⟨hn,hk⟩:=hk;obtain ⟨ps,hv,_⟩:=h;obtain ⟨g',t,vs,fuel,p,h1,h2,h3,h4⟩:=yp hv y.1 y.2 hy;obtain rfl:=Option.some.inj (hn.symm.trans h1);rw [h2] at hk;obtain ⟨Pn,VD⟩:=Qi 6 fuel t y.2 l vs.toList p hk h4;have U6:=λ j=>World.var?_cell h1 h3 j
 have hlt:g<w.heap.size:=by
  rcases Nat.lt_or_ge g w.heap.size with q|q
  ·exact q
  ·simp [World.var?,h1,Array.getElem?_eq_none q] at h3
 refine ⟨λ j c hj=>⟨hlt,?_⟩,hlt,?_⟩
 ·rw [List.getElem?_map] at hj;obtain ⟨c,hjc,rfl⟩:=ro.1 hj
  have hjl:j<vs.size:=by
   have:=(List.getElem?_eq_some_iff.1 hjc).1;rw [<- Pn] at this; simpa using this
  have hv':vs.toList[j]? = some vs[j]:=by simp [hjl]
  refine ⟨vs[j],by rw [U6]; simp [hjl],GC.rep (VD j c _ hjc hv') _ _⟩
 ·rw [U6,List.length_map,<- Pn];simp
set_option autoImplicit false
inductive ag where
 | mk (Ar:Int) (G':Int) (D':Bk) (Gw:List ag) (F':List Bk)
def ag.Ar:ag->Int|.mk x _ _ _ _=>x
def ag.G':ag->Int|.mk _ x _ _ _=>x
def ag.D':ag->Bk|.mk _ _ x _ _=>x
def ag.Gw:ag->List ag|.mk _ _ _ x _=>x
def ag.F':ag->List Bk|.mk _ _ _ _ x=>x
instance:Inhabited ag:=⟨.mk 0 0 [] [] []⟩
mutual
def ag.ccs:ag->List PV|.mk Ar G' D' Gw F'=>[eI Ar]++[eI G']++[eS D']++[.slice (ag.els Gw)]++[eL eS F']
def ag.els:List ag->List PV|[]=>[]|x::r=>.agg (ag.ccs x)::ag.els r
end
def cn (x:ag):PV:=.agg (ag.ccs x)
theorem ag.els_eq:∀ l,ag.els l=l.map cn
 | []=>by simp only [ag.els,List.map_nil]
 | x::r=>by simp only [ag.els,n7,ag.els_eq r,cn]
def ag.cs (x:ag):List PV:=[eI x.Ar,eI x.G',eS x.D',eL cn x.Gw,eL eS x.F']
theorem ag.OF (x:ag):ag.ccs x=ag.cs x:=by
 cases x
 simp only [ag.ccs,ag.cs,eL,mv,rd,ag.els_eq,ag.Ar,ag.G',ag.D',ag.Gw,ag.F']
theorem ag.E' (x:ag):(cn x).cells=ag.cs x:=ag.OF x
theorem ag.M' (x:ag):cn x=.agg (ag.cs x):=congrArg PV.agg (ag.OF x)
theorem ag.eta (x:ag):ag.mk x.Ar x.G' x.D' x.Gw x.F'=x:=by cases x; rfl
inductive ab where
 | mk (Ar:Int) (fOp:Int) (AT:Bk) (It:Bk) (BY:ag) (A':List ab) (fAt:Int)
def ab.Ar:ab->Int|.mk x _ _ _ _ _ _=>x
def ab.fOp:ab->Int|.mk _ x _ _ _ _ _=>x
def ab.AT:ab->Bk|.mk _ _ x _ _ _ _=>x
def ab.It:ab->Bk|.mk _ _ _ x _ _ _=>x
def ab.BY:ab->ag|.mk _ _ _ _ x _ _=>x
def ab.A':ab->List ab|.mk _ _ _ _ _ x _=>x
def ab.fAt:ab->Int|.mk _ _ _ _ _ _ x=>x
instance:Inhabited ab:=⟨.mk 0 0 [] [] default [] 0⟩
mutual
def ab.ccs:ab->List PV|.mk Ar fOp AT It BY A' fAt=>[eI Ar]++[eI fOp]++[eS AT]++[eS It]++[eI BY.Ar,eI BY.G',eS BY.D',eL cn BY.Gw,eL eS BY.F']++[.slice (ab.els A')]++[eI fAt]
def ab.els:List ab->List PV|[]=>[]|x::r=>.agg (ab.ccs x)::ab.els r
end
def ao (x:ab):PV:=.agg (ab.ccs x)
theorem ab.els_eq:∀ l,ab.els l=l.map ao
 | []=>by simp only [ab.els,List.map_nil]
 | x::r=>by simp only [ab.els,n7,ab.els_eq r,ao]
def ab.cs (x:ab):List PV:=[eI x.Ar,eI x.fOp,eS x.AT,eS x.It,eI x.BY.Ar,eI x.BY.G',eS x.BY.D',eL cn x.BY.Gw,eL eS x.BY.F',eL ao x.A',eI x.fAt]
theorem ab.OF (x:ab):ab.ccs x=ab.cs x:=by
 cases x
 simp only [ab.ccs,ab.cs,eL,mv,rd,ab.els_eq,ab.Ar,ab.fOp,ab.AT,ab.It,ab.BY,ab.A',ab.fAt]
theorem ab.E' (x:ab):(ao x).cells=ab.cs x:=ab.OF x
theorem ab.M' (x:ab):ao x=.agg (ab.cs x):=congrArg PV.agg (ab.OF x)
theorem ab.eta (x:ab):ab.mk x.Ar x.fOp x.AT x.It x.BY x.A' x.fAt=x:=by cases x; rfl
structure ai where
 AT:Bk
 I':ab
 fAt:Int
 deriving Inhabited
def ai.cs (x:ai):List PV:=[eS x.AT,eI x.I'.Ar,eI x.I'.fOp,eS x.I'.AT,eS x.I'.It,eI x.I'.BY.Ar,eI x.I'.BY.G',eS x.I'.BY.D',eL cn x.I'.BY.Gw,eL eS x.I'.BY.F',eL ao x.I'.A',eI x.I'.fAt,eI x.fAt]
def aw (x:ai):PV:=.agg (ai.cs x)
theorem ai.E' (x:ai):(aw x).cells=ai.cs x:=rfl
theorem ai.M' (x:ai):aw x=.agg (ai.cs x):=rfl
mutual
inductive av where
 | mk (B':List ai) (By:List au)
inductive au where
 | mk (Mr:Bk) (J':List Bk) (Mp:av) (fAt:Int)
end
def av.B':av->List ai|.mk x _=>x
def av.By:av->List au|.mk _ x=>x
def au.Mr:au->Bk|.mk x _ _ _=>x
def au.J':au->List Bk|.mk _ x _ _=>x
def au.Mp:au->av|.mk _ _ x _=>x
def au.fAt:au->Int|.mk _ _ _ x=>x
instance:Inhabited av:=⟨.mk [] []⟩
instance:Inhabited au:=⟨.mk [] [] default 0⟩
mutual
def av.ccs:av->List PV|.mk B' By=>[eL aw B']++[.slice (au.els By)]
def au.ccs:au->List PV|.mk Mr J' Mp fAt=>[eS Mr]++[eL eS J']++av.ccs Mp++[eI fAt]
def au.els:List au->List PV|[]=>[]|x::r=>.agg (au.ccs x)::au.els r
end
def tF (x:av):PV:=.agg (av.ccs x)
def aI (x:au):PV:=.agg (au.ccs x)
theorem au.els_eq:∀ l,au.els l=l.map aI
 | []=>by simp only [au.els,List.map_nil]
 | x::r=>by simp only [au.els,n7,au.els_eq r,aI]
def av.cs (x:av):List PV:=[eL aw x.B',eL aI x.By]
theorem av.OF (x:av):av.ccs x=av.cs x:=by
 cases x
 simp only [av.ccs,av.cs,eL,mv,rd,au.els_eq,av.B',av.By]
def au.cs (x:au):List PV:=[eS x.Mr,eL eS x.J',eL aw x.Mp.B',eL aI x.Mp.By,eI x.fAt]
theorem au.OF (x:au):au.ccs x=au.cs x:=by
 cases x
 simp only [au.ccs,au.cs,eL,mv,rd,au.els_eq,av.OF,av.cs,au.Mr,au.J',au.Mp,au.fAt]
theorem av.E' (x:av):(tF x).cells=av.cs x:=av.OF x
theorem av.M' (x:av):tF x=.agg (av.cs x):=congrArg PV.agg (av.OF x)
theorem av.eta (x:av):av.mk x.B' x.By=x:=by cases x; rfl
theorem au.E' (x:au):(aI x).cells=au.cs x:=au.OF x
theorem au.M' (x:au):aI x=.agg (au.cs x):=congrArg PV.agg (au.OF x)
theorem au.eta (x:au):au.mk x.Mr x.J' x.Mp x.fAt=x:=by cases x; rfl
structure az where
 Ar:Int
 fAt:Int
 AT:Bk
 deriving Inhabited,DecidableEq
def az.cs (x:az):List PV:=[eI x.Ar,eI x.fAt,eS x.AT]
def NN (x:az):PV:=.agg (az.cs x)
theorem az.E' (x:az):(NN x).cells=az.cs x:=rfl
theorem az.M' (x:az):NN x=.agg (az.cs x):=rfl
structure af where
 Ar:Int
 C':Bk
 fAt:Int
 deriving Inhabited,DecidableEq
def af.cs (x:af):List PV:=[eI x.Ar,eS x.C',eI x.fAt]
def aE (x:af):PV:=.agg (af.cs x)
theorem af.E' (x:af):(aE x).cells=af.cs x:=rfl
theorem af.M' (x:af):aE x=.agg (af.cs x):=rfl
structure aj where
 fl:List af
 fat:Int
 AI:az
 deriving Inhabited,DecidableEq
def aj.cs (x:aj):List PV:=[eL aE x.fl,eI x.fat,eI x.AI.Ar,eI x.AI.fAt,eS x.AI.AT]
def sT (x:aj):PV:=.agg (aj.cs x)
theorem aj.E' (x:aj):(sT x).cells=aj.cs x:=rfl
theorem aj.M' (x:aj):sT x=.agg (aj.cs x):=rfl
structure ah where
 fl:List af
 fat:Int
 IT:Int
 IS:Int
 AI:az
 deriving Inhabited,DecidableEq
def ah.cs (x:ah):List PV:=[eL aE x.fl,eI x.fat,eI x.IT,eI x.IS,eI x.AI.Ar,eI x.AI.fAt,eS x.AI.AT]
def BM (x:ah):PV:=.agg (ah.cs x)
theorem ah.E' (x:ah):(BM x).cells=ah.cs x:=rfl
theorem ah.M' (x:ah):BM x=.agg (ah.cs x):=rfl
structure bP where
 fcount:Int
 deriving Inhabited,DecidableEq
def bP.cs (x:bP):List PV:=[eI x.fcount]
def yW (x:bP):PV:=.agg (bP.cs x)
theorem bP.E' (x:bP):(yW x).cells=bP.cs x:=rfl
theorem bP.M' (x:bP):yW x=.agg (bP.cs x):=rfl
structure ay where
 fs:Bk
 fat:Int
 fi:Int
 H':Int
 IN:Bk
 Df:List ab
 L':Bool
 deriving Inhabited
def ay.cs (x:ay):List PV:=[eS x.fs,eI x.fat,eI x.fi,eI x.H',eS x.IN,eL ao x.Df,eB x.L']
def yl (x:ay):PV:=.agg (ay.cs x)
theorem ay.E' (x:ay):(yl x).cells=ay.cs x:=rfl
theorem ay.M' (x:ay):yl x=.agg (ay.cs x):=rfl
end Go.Ab
end
section
namespace Go.Ab
variable {p:Prop}
theorem NR (h:p:=by
 refine wp_mono (h ⟨w,st,λ _=>none,h0.gl,(λ _ _ h=>nomatch h),[]⟩ _ _ w hs) ?_;rintro e a' w' ⟨g',s',h3,he,l,hl,hR⟩;obtain ⟨v,hv,hr⟩:=qW good h3 fn l hl
 have fin:∃ v,(results fn a'.tmps).run P w'=.ok v w'/\∃ v1 r1 g',Ending.returned v=.returned v1/\r1.sub r/\ARep w' g' r1 v1/\After w st w' g':=by
  refine ⟨v,hv,v,_,g',Z,hR,hr,⟨h3.os,h3.out,h3.tape,h3.size,λ b hb=>h3.fr b hb,λ i b hi=>?_,h3.inj,h3.lt,h3.stf⟩⟩;have:=h3.own i b hi
  grind
 rcases he with rfl|rfl
 ·exact ⟨h3.nd,fin⟩
 ·exact ⟨h3.nd,fin⟩):p:=h
theorem aQ {C:Cx}(s:AS):cN C s s:=λ g _ _ hs=>⟨g,hs⟩
theorem aJ {C:Cx}{s t u:AS}(h:cN C s t)(k:cN C t u):cN C s u:=λ g a w hs=>by
 obtain ⟨g',hs'⟩:=h g a w hs;exact k g' a w hs'
theorem Ic {C:Cx}{c:Code}{Q:Exit->AS->Prop}{s:AS}{σ O0z:Type}(mk:σ->AS)(lp:Nat->σ->Option O0z)(hz:∀ q,lp 0 q=none){o:O0z}{n:Nat}(q0:σ)(h0:lp n q0=some o)(hle:cN C s (mk q0))
  (round:∀ m q,lp (m+1) q=some o->awp C c (uE (λ s'=>∃ q',lp m q'=some o/\cN C s' (mk q')) Q) (mk q)):awp C (.loop c) Q s:=by
 refine uY hle ?_;intro g a w hs
 let J:Act->World->Nat->Prop:=λ a w m=>∃ g q,St C.n C.w0 C.F g (mk q) a w/\lp m q=some o
 have hJ:∀ a w m,J a w m->∃ m0,J a w m0/\∀ m',J a w m'->m0<=m':=by
  intro a w m
  induction m using Nat.strongRecOn with
  | _ m ih=>
   intro hm;by_cases h:∃ m',m'<m/\J a w m'
   ·obtain ⟨m',h1,h2⟩:=h; grind
   grind
 let M:Act->World->Nat:=λ a w=>by
  classical
  exact if h:∃ m0,J a w m0/\∀ m',J a w m'->m0<=m' then Classical.choose h else 0
 have hM:∀ a w m,J a w m->J a w (M a w)/\M a w<=m:=by
  intro a w m hm;have h:=hJ a w m hm;have e:M a w=Classical.choose h:=by grind
  rw [e];exact ⟨(Classical.choose_spec h).1,(Classical.choose_spec h).2 m hm⟩
 refine wp_loop (λ a w=>∃ m,J a w m) M ⟨n,g,q0,hs,h0⟩ ?_;rintro a w ⟨m,hm⟩;obtain ⟨⟨g1,q1,hs1,hI1⟩,_⟩:=hM a w m hm;generalize hMm:M a w=mm at hI1
 cases mm with
 | zero=>grind
 | succ mm=>
  refine wp_mono (round mm q1 hI1 g1 a w hs1) ?_;rintro e a' w' ⟨g',s',h1,h2⟩
  cases e with
  | normal=>
   obtain ⟨q',hI',hgh⟩:=h2;obtain ⟨g2,hs2⟩:=hgh g' a' w' h1;have hj:J a' w' mm:=⟨g2,q',hs2,hI'⟩
   refine ⟨⟨_,hj⟩,?_⟩;have:=(hM a' w' _ hj).2;omega
  | exit id=>exact ⟨g',s',h1,h2⟩
  | goto l=>exact ⟨g',s',h1,h2⟩
  | ret=>exact ⟨g',s',h1,h2⟩
  | panic ch=>exact ⟨g',s',h1,h2⟩
  | outgrown=>exact ⟨g',s',h1,h2⟩
def po (tt:List (Nat×TI)):List ResultVar->AS->Option (List AV)
 | [],_=>some []
 | .tmp t::r,s=>match look s.sl t,po tt r s with
  | some x,some l=>some (x::l)
  | _,_=>none
 | .cell c t::r,s=>match look s.sl c with
  | some (.ptr id k)=>match look s.ob id,look tt t,po tt r s with
   | some cs,some i,some l=>bif i.k.isAgg then (bif Nat.ble (k+i.size) cs.length then some (pf ((cs.drop k).take i.size)::l) else none) else (match cs[k]? with
    | some y=>some (y::l)
    | none=>none)
   | _,_,_=>none
  | _=>none
def zJ (tt:List (Nat×TI))(fn:Func)(R:AV->Prop)(e:Exit)(s:AS):Prop:=(e=.normal\/e=.ret)/\∃ l,po tt fn.results.toList s=some l/\R (tg l)
theorem Qn {tt:List (Nat×TI)}{fn:Func}{R:AV->Prop}{s:AS}{l:List AV}(h:po tt fn.results.toList s=some l)(hR:R (tg l)):zJ tt fn R .ret s:=⟨.inr Z,l,h,hR⟩
theorem Pm {tt:List (Nat×TI)}{fn:Func}{R:AV->Prop}{s:AS}{l:List AV}(h:po tt fn.results.toList s=some l)(hR:R (tg l)):zJ tt fn R .normal s:=⟨.inl Z,l,h,hR⟩
theorem y4 {P:Program}{tt:List (Nat×TI)}(good:dp P tt){n:Nat}{w0:Base}{w:World}{F:Nat->Prop}{g:Gh}{s:AS}{a:Act}(hs:St n w0 F g s a w){c id k t:Nat}{cs:List AV}{i:TI}{y:AV}
  (hc:look s.sl c=some (.ptr id k)) (hob:look s.ob id=some cs) (hi:look tt t=some i)
  (hy:(i.k.isAgg=true/\k+i.size<=cs.length/\y=pf ((cs.drop k).take i.size))\/(i.k.isAgg=false/\cs[k]? = some y)) :
  ∃ v,(Ap a.tmps (.cell c t)).run P w=.ok v w/\ARep w g y v:=by
 have h5:=hs.sl c;simp only [AS.get,hc,Option.getD_some] at h5;generalize hv:a.tmps.getD c Go.undef=v at h5
 cases h5 with
 | ptr how=>
  rename_i b;obtain ⟨b',cc,e,k1,k2,k3,k4,k5⟩:=hs.ob id cs hob;rw [how] at k1; cases k1;rcases hy with ⟨hia,hl,rfl⟩|⟨hia,hy⟩
  ·have U6:∀ j,j<i.size->w.cell? ⟨b,k+j,none⟩=some (cc.getD (k+j) Go.undef):=by
    intro j hj;rw [qY hs k2];have:k+j<cc.size:=by omega
    simp_all
   have hld:=rJ good hi hia (f:=λ j=>cc.getD (k+j) Go.undef) U6;refine ⟨.agg ((List.range i.size).map λ j=>cc.getD (k+j) Go.undef).toArray,by grind [Ap,asAddr],sd jW λ j y v h1 h2=>?_⟩;exact Ld
  grind [qY,Ap,asAddr,rM]
theorem JE {P:Program}{tt:List (Nat×TI)}(good:dp P tt){n:Nat}{w0:Base}{w:World}{F:Nat->Prop}{g:Gh}{s:AS}{a:Act}(hs:St n w0 F g s a w)(rs:List ResultVar) :
  ∀ l,po tt rs s=some l->∃ vs:List Value,
   (rs.mapM (Ap a.tmps)).run P w=.ok vs w/\vs.length=l.length /\
    ∀ (i:Nat) c v,l[i]? = some c->vs[i]? = some v->ARep w g c v:=by
 induction rs with
 | nil=>simp_all [po]
 | cons r rs ih=>
  intro l h
  have fin:∀ (y:AV) (l':List AV) (v:Value),l=y::l'->po tt rs s=some l'->(Ap a.tmps r).run P w=.ok v w->ARep w g y v->∃ vs:List Value,
    ((r::rs).mapM (Ap a.tmps)).run P w=.ok vs w/\vs.length=l.length/\∀ (i:Nat) c v,l[i]? = some c->vs[i]? = some v->ARep w g c v:=by
   intro y l' v e h1 h2 h3;subst e;obtain ⟨vs,k1,k2,k3⟩:=ih l' h1;refine ⟨v::vs,by simp_all,by simp [k2],λ i c u h5 h6=>?_⟩
   grind
  cases r with
  | tmp t=>
   have ht:=hs.sl t
   grind [po,AS.get,Ap,Sem.run_pure]
  | cell c t=>
   simp only [po] at h;split at h
   case h_2=>cases h
   rename_i id k hc;split at h
   case h_2=>cases h
   rename_i cs i l' hob hi h1
   cases hia:i.k.isAgg
   ·grind [y4]
   ·rw [hia,cond_true] at h
    cases hb:Nat.ble (k+i.size) cs.length
    ·grind
    ·rw [hb,cond_true] at h
     cases h
     obtain ⟨v,h2,h3⟩:=y4 good hs hc hob hi (.inl ⟨hia,Nat.le_of_ble_eq_true hb,rfl⟩)
     grind
theorem qW {P:Program}{tt:List (Nat×TI)}(good:dp P tt){n:Nat}{w0:Base}{w:World}{F:Nat->Prop}{g:Gh}{s:AS}{a:Act}(hs:St n w0 F g s a w)(fn:Func)(l:List AV)(h:po tt fn.results.toList s=some l) :
  ∃ v,(results fn a.tmps).run P w=.ok v w/\ARep w g (tg l) v:=by
 obtain ⟨vs,h2,h3,h4⟩:=JE good hs _ l h;refine ⟨if h:vs.length=1 then vs[0] else .tuple vs.toArray,?_,?_⟩
 ·grind [xj,Array.mapM_eq_mapM_toList,Sem.run_bind,Sem.run_map,Result.andThen_ok,Sem.run_pure]
 ·by_cases e:vs.length=1
  ·rw [dif_pos e];obtain ⟨v,rfl⟩:=List.length_eq_one_iff.1 e;obtain ⟨x,rfl⟩:=List.length_eq_one_iff.1 (h3.symm.trans e);exact h4 0 x v Z Z
  ·rw [dif_neg e]
   have e2:tg l=.tuple l:=by
    match l,h3 with
    | [],_=>rfl
    | [x],h3=>grind
    | x::y::r,_=>rfl
   rw [e2];exact .tuple (by grind) (λ i c v h5 h6=>h4 i c v h5 (by grind))
theorem KS {P:Program}{tt:List (Nat×TI)}(good:dp P tt){f:FuncId}{fn:Func}{c:Code}{args:List PV}{r:AV}(hf:P.funcs[f]? = some fn)(hb:fn.body=some c)(hn:Nat.ble args.length fn.ntmps=true)(hnl:Nat.ble fn.ntmps M1=true)
  (h:∀ w0,awp ⟨P,tt,good,fn.ntmps,hnl,w0,λ b=>b<w0.w.heap.size⟩ c (zJ tt fn (λ x=>x.sub r)) ⟨ut args,[]⟩):bA P f args (·=r):=by
 refine bA.of_sub ?_;intro w st vs h0 h1 h2;refine calls_of_wp hf hb ?_;have hn:=Nat.le_of_ble_eq_true hn
 have hs:St fn.ntmps ⟨w,st,λ _=>none,h0.gl,(λ _ _ h=>nomatch h),[]⟩ (λ b=>b<w.heap.size) ⟨st,λ _=>none⟩ ⟨ut args,[]⟩ { tmps:=vs++Array.replicate (fn.ntmps-vs.size) Go.undef,defers:=[] } w:=by
  refine ⟨rfl,?_,?_,?_,?_,?_,?_,?_,?_,rfl,rfl,rfl,bt _,λ b _ o=>Iff.rfl,λ _ _ _=>rfl,kS.refl _ _,λ i b _ h=>(by cases h),Ev.refl _ _⟩
  ·grind
  ·intro i;have:=yK args 0 i;simp only [AS.get,ut,this,ph,if_true,Nat.sub_zero]
   cases ha:args[i]? with
   | none=>exact .undef _
   | some x=>
    have hi:i<args.length:=(List.getElem?_eq_some_iff.1 ha).1;have hi2:i<vs.size:=by omega
    have e:(vs++Array.replicate (fn.ntmps-vs.size) Go.undef).getD i Go.undef=vs[i]:=by
     simp_all [Array.getElem?_append]
    simp only [Option.map_some,Option.getD_some];rw [e];exact .p (h2 i x _ ha (Array.getElem?_eq_getElem hi2))
  ·grind [look]
  ·grind
  ·grind
  ·intro b o h; exact h0.lt b o h
  ·grind
  grind
 exact NR
def AU (k d i:Nat):Option Nat:=bif Nat.beq i k then some d else bif Nat.beq i d then none else some i
def Kj (k d:Nat):List (Nat×AV)->Option (List (Nat×AV))
 | []=>some []
 | (i,x)::r=>match x.mapA (AU k d),Kj k d r with
  | some y,some q=>some ((i,y)::q)
  | _,_=>none
theorem y6 {k d:Nat}:∀ {sl q:List (Nat×AV)},Kj k d sl=some q->∀ i,match look sl i,look q i with
  | some x,some y=>x.mapA (AU k d)=some y
  | none,none=>True
  | _,_=>False
 | [],q,h,i=>by grind [Kj,look]
 | (j,x)::r,q,h,i=>by
  simp only [Kj] at h;split at h
  ·rename_i y q' hy hq
   cases h
   have ih:=y6 hq i
   grind [aZ]
  ·cases h
theorem J4 {k d:Nat}(Vs:k≠d):∀ i j x,AU k d i=some x->AU k d j=some x->i=j:=by
 intro i j x h1 h2;unfold AU at h1 h2;have hb:∀ {a b:Nat},Nat.beq a b=true->a=b:=cl;have hf:∀ {a b:Nat},Nat.beq a b=false->a≠b:=λ h e=>by simp_all
 grind
theorem y7 {m:Nat->Option Nat}(hinj:∀ i j x,m i=some x->m j=some x->i=j):∀ {l l':List (Nat×List AV)},iT m l=some l'->∀ {j:Nat} {cs':List AV},look l' j=some cs'->∃ i cs,look l i=some cs/\m i=some j/\AV.mapA.go m cs=some cs'
 | [],l',h,j,cs',hc=>by grind [iT,look]
 | (i,ds)::r,l',h,j,cs',hc=>by
  simp only [iT] at h;split at h
  ·rename_i j0 l0 q hj hgo hq
   cases h
   rw [aZ] at hc;by_cases e:j0=j
   ·grind [aZ]
   ·rw [if_neg e] at hc;obtain ⟨i',cs,h1,h2,h3⟩:=y7 hinj hq hc
    grind [aZ]
  ·cases h
theorem aS {C:Cx}{sl sl':List (Nat×AV)}{ob ob':List (Nat×List AV)}(k d:Nat)(hkd:Nat.beq k d=false)(hk:Nat.blt k M1=true)(hd:Nat.blt d M1=true)(hs':Kj k d sl=some sl')(ho':iT (AU k d) ob=some ob'):cN C ⟨sl,ob⟩ ⟨sl',ob'⟩:=by
 intro g a w hs;have hk':k<M1:=Nat.blt_eq ▸ hk;have hd':d<M1:=Nat.blt_eq ▸ hd;have Vs:k≠d:=λ e=>by simp_all
 let g':Gh:=⟨g.st,λ i=>if i=d then g.ow k else if i=k then none else g.ow i⟩
 have hm:∀ i j b,AU k d i=some j->g.ow i=some b->g'.ow j=some b:=by
  intro i j b h hb;unfold AU at h
  cases h1:Nat.beq i k
  ·rw [h1,cond_false] at h
   cases h2:Nat.beq i d
   ·rw [h2,cond_false] at h; cases h;have e1:i≠k:=λ e=>by simp_all
    have e2:i≠d:=λ e=>by simp_all
    grind
   grind
  grind [Nat.eq_of_beq_eq_true]
 refine ⟨g',hs.nd,hs.sz,λ i=>?_,λ id cs hc=>?_,λ i j b h1 h2=>?_,λ i b h=>?_,hs.lt,hs.fl,hs.fr,hs.os,hs.out,hs.tape,hs.size,hs.stf,λ i hi hz=>?_,hs.shf,hs.nst,hs.ev0⟩
 ·have h1:=y6 hs' i;have h2:=hs.sl i;simp only [AS.get] at h2 ⊢
  cases e1:look sl i with
  | none=>
   rw [e1] at h1
   cases e2:look sl' i with
   | none=>exact .undef _
   | some y=>grind
  | some x=>
   grind [nD]
 ·obtain ⟨i,ds,h1,h2,h3⟩:=y7 (J4 Vs) ho' hc
  exact rF (g:=g) (g':=g') Z hm (show iT (AU k d) [(i,ds)]=some [(id,cs)] by grind [iT]) (λ p hp=>by
   simp only [List.mem_singleton] at hp;subst hp
   exact hs.ob i ds h1) (id,cs) G
 ·simp only [g'] at h1 h2;by_cases a1:i=d <;> by_cases b1:j=d
  ·rw [a1,b1]
  ·rw [if_pos a1] at h1;rw [if_neg b1] at h2;split at h2
   ·cases h2
   ·rename_i b2; exact absurd (hs.inj k j b h1 h2).symm b2
  ·rw [if_pos b1] at h2;rw [if_neg a1] at h1;split at h1
   ·cases h1
   ·rename_i b2; exact absurd (hs.inj i k b h1 h2) b2
  ·rw [if_neg a1] at h1; rw [if_neg b1] at h2;split at h1
   ·cases h1
   ·split at h2
    ·cases h2
    ·exact hs.inj i j b h1 h2
 ·simp only [g'] at h;split at h
  ·exact hs.own k b h
  ·split at h
   ·cases h
   ·exact hs.own i b h
 ·simp only [g'];rw [if_neg O,if_neg O]; exact hs.owf i hi hz
theorem qL {C:Cx}{sl:List (Nat×AV)}{ob:List (Nat×List AV)}(j:Nat){x y:AV}(hj:look sl j=some x)(h:x.sub y):cN C ⟨sl,ob⟩ ⟨(j,y)::sl,ob⟩:=by
 refine dZ ⟨λ i z hz=>?_,λ id cs hc=>JG⟩
 grind [aZ,AS.get,AV.sub_refl]
theorem BJ {C:Cx}{sl sl0:List (Nat×AV)}{D:Nat->Bool}{ob ob':List (Nat×List AV)}(h:nO D ob=ob'):cN C ⟨sl,(cW D ⟨sl0,ob⟩).ob⟩ ⟨sl,ob'⟩:=by
 have:(cW D ⟨sl0,ob⟩).ob=ob':=h
 grind [aQ]
theorem oG {C:Cx}{sl sl0:List (Nat×AV)}{D:Nat->Bool}{ob ob':List (Nat×List AV)}{x:Nat×List AV}(h:nO D ob=ob'):cN C ⟨sl,x::(cW D ⟨sl0,ob⟩).ob⟩ ⟨sl,x::ob'⟩:=by
 have:(cW D ⟨sl0,ob⟩).ob=ob':=h
 grind [aQ]
def xO:List PV->List PV->Prop|[],[]=>True|c::cs,d::ds=>(c=d\/(c=.val (.slice none 0 0)/\d=.slice []))/\xO cs ds|_,_=>False
theorem sX {w:World}{st:Nat->Nat->Prop}:∀ {cs ds:List PV},xO cs ds->cs.length=ds.length/\∀ (i:Nat) c d v,cs[i]? = some c->ds[i]? = some d->PRep w st c v->PRep w st d v
 | [],[],_=>⟨Z,by simp⟩
 | [],_::_,h=>h.elim
 | _::_,[],h=>h.elim
 | c::cs,d::ds,h=>by
  obtain ⟨h1,h2⟩:=sX (w:=w) (st:=st) h.2;refine ⟨by simp [h1],λ i c' d' v hc hd hv=>?_⟩
  cases i with
  | zero=>
   simp only [List.getElem?_cons_zero,bx] at hc hd;subst hc hd;rcases h.1 with e|⟨e1,e2⟩
   ·grind
   ·rw [e1] at hv; rw [e2]; cases hv; exact .nils
  | succ i=>grind
theorem iz {cs ds:List PV}(h:xO cs ds):(AV.p (.agg cs)).sub (.p (.agg ds)):=by
 intro w g v hv;obtain ⟨h1,h2⟩:=sX (w:=w) (st:=g.st) h
 cases hv with
 | p hv=>
  cases hv with
  | agg hl hh=>
   refine .p (.agg (hl.trans h1) λ i d u hd hu=>?_)
   grind
theorem BR {cs:List AV}{ds:List PV}(h:qB cs (ds.map .p)):(AV.agg cs).sub (.p (.agg ds)):=by
 intro w g v hv;obtain ⟨h1,h2⟩:=oU h
 cases hv with
 | agg hl hh=>
  refine .p (.agg (by grind) λ i d u hd hu=>?_);have hi:i<cs.length:=by grind
  have:=h2 i cs[i] (.p d) (List.getElem?_eq_getElem hi) (by simp [hd]) w g u (by grind);exact Ao
section
variable {C:Cx} {o:Oper} {K:AS->Prop} {sl:List (Nat×AV)} {ob:List (Nat×List AV)} {d:Nat}
theorem bn {α:Type}(f:α->PV)(l:List α){t e len:Nat}{parts:Array (Nat×Operand)}{i ie:TI}{es:List PV}(ho:o.op=.buildSlice t len parts)(hd:o.dst=some d)(hn:Nat.blt d C.n=true)
  (hi:look C.tt t=some i) (U7:i.k=.slice e) (hie:look C.tt e=some ie) (hes:qf sl 0 parts.toList=some es) (Pn:Nat.beq es.length len=true) (hpos:Nat.blt 0 len=true)
  (hk:Nat.blt 0 ie.size=true) (hsm:Nat.ble (len*ie.size) 16777216=true) (U0:ve ie.size es=true) (hzl:Nat.beq ie.zero.length ie.size=true) (he:es=l.map f)
  (hK:K ⟨(d,.p (eL f l))::sl,ob⟩):bu C o K ⟨sl,ob⟩ :=
 yI ho hd hn hi U7 hie hes Pn hpos hk hsm U0 hzl (by rw [he]; exact hK)
theorem PL {α:Type}(f:α->PV)(l:List α)(ty:Nat){t tx e e':TypeId}{x y:Operand}{Y0z:AV}{i ie j:TI}(ho:o.op=.call { callee:=.builtin .append,args:=#[x,y],argTypes:=#[t,tx] })(hd:o.dst=some d)(hn:Nat.blt d C.n=true)
  (hi:look C.tt t=some i) (U7:i.k=.slice e) (hie:look C.tt e=some ie) (hj:look C.tt tx=some j) (hjk:j.k=.slice e') (hx:evo sl x=some (.p (.val (.slice none 0 0))))
  (hy:evo sl y=some Y0z) (hY:Y0z.elems? = some (l.map f)) (U0:∀ x,(f x).cells.length=ie.size) (h0:Nat.blt 0 ie.size=true) (hzl:Nat.beq ie.zero.length ie.size=true) (hby:Nat.blt 0 ie.bytes=true)
  (hty:(Nat.beq ty 0||Nat.beq ty (e+1))=true) (Pn:l.length*ie.bytes<=140737488355328)
  (hK:K ⟨(d,.vec d ie.size ty (l.map f))::(cW (λ i=>Nat.beq i d) ⟨sl,ob⟩).sl,(cW (λ i=>Nat.beq i d) ⟨sl,ob⟩).ob⟩):bu C o K ⟨sl,ob⟩:=by
 have hby':1<=ie.bytes:=Nat.succ_le_of_lt (by simp_all);have h1:l.length*1<=l.length*ie.bytes:=Nat.mul_le_mul_left _ hby';exact Eb ty ho hd hn hi U7 hie hj hjk hx hy hY (λ y hy=>by grind) h0 hzl (by grind) (by grind) hty hK
theorem fY {α:Type}(f:α->PV)(l0 l:List α){t tx e e':TypeId}{x y:Operand}{k sz ty:Nat}{Y0z:AV}{i ie j:TI}(ho:o.op=.call { callee:=.builtin .append,args:=#[x,y],argTypes:=#[t,tx] })(hd:o.dst=some d)(hn:Nat.blt d C.n=true)
  (hi:look C.tt t=some i) (U7:i.k=.slice e) (hie:look C.tt e=some ie) (hj:look C.tt tx=some j) (hjk:j.k=.slice e') (hx:evo sl x=some (.vec k sz ty (l0.map f))) (hk:Nat.blt k M1=true) (hiz:ie.size=sz)
  (hy:evo sl y=some Y0z) (hY:Y0z.elems? = some (l.map f)) (U0:∀ x,(f x).cells.length=ie.size) (h0:Nat.blt 0 ie.size=true) (hzl:Nat.beq ie.zero.length ie.size=true) (hby:Nat.blt 0 ie.bytes=true)
  (hty:(Nat.beq ty 0||Nat.beq ty (e+1))=true) (Pn:(l0.length+l.length)*ie.bytes<=140737488355328)
  (hK:K ⟨(d,.vec d sz ty ((l0++l).map f))::(cW (λ i=>Nat.beq i k||Nat.beq i d) ⟨sl,ob⟩).sl,(cW (λ i=>Nat.beq i k||Nat.beq i d) ⟨sl,ob⟩).ob⟩):bu C o K ⟨sl,ob⟩:=by
 have hby':1<=ie.bytes:=Nat.succ_le_of_lt (by simp_all);have h1:(l0.length+l.length)*1<=(l0.length+l.length)*ie.bytes:=Nat.mul_le_mul_left _ hby'
 exact DW ho hd hn hi U7 hie hj hjk hx hk hiz hy hY (λ y hy=>by grind) h0 hzl (by grind) (by grind) hty
  (by grind)
end
end Go.Ab
end
