/- Texts of the proof, one behind the other. No statement is proved here. -/
import GoSem.PinnedTables
import GoSem.Core.Value
import Derived.WalkKit
import Derived.Deep.AppendSrc
import Derived.Great.FillDense
import Derived.Great.BuildSlice
import Derived.Deep.Upon
import Derived.Lib.Bytealg
import Derived.Scope
import Derived.RowKit3
import Derived.WideLaws
import Derived.Orders
import Derived.ReadAgain
import Derived.ChangeArms
import Derived.ChangeSame
import Derived.OpenShut
namespace Go
abbrev aq:=@Option.some.injEq
abbrev bt:=@Nat.le_refl
abbrev bx:=@Nat.eq_of_beq_eq_true
abbrev cl:=@List.map_cons
abbrev d4:=@List.length_cons
abbrev ld:=@Option.map_eq_some_iff
abbrev mv:=@Nat.blt_eq
abbrev n6:=@List.length_map
abbrev n7:=@Bool.and_eq_true
abbrev n8:=@List.length_append
abbrev ph:=@Nat.le_of_ble_eq_true
abbrev py:=@List.map_nil
abbrev qr:=@List.all_eq_true
abbrev rd:=@Nat.zero_add
abbrev rg:=@Option.getD_some
abbrev ro:=@List.mem_cons
abbrev sm:=@List.length_take
abbrev th:=@Nat.add_mul
abbrev ur:=@Array.length_toList
end Go
namespace Go
theorem Y.{u,v} {α:Sort u}{β:α->Sort v}{f:(x:α)->β x}(x:α):f x=f x:=rfl
theorem Z.{u} {α:Sort u} {a:α}:a=a:=rfl
theorem O {p:Prop} (h:p:=by omega):p:=h
theorem V {p:Prop} (h:p:=by first|assumption|omega):p:=h
theorem G {p:Prop} (h:p:=by simp):p:=h
end Go
section
namespace Go.Ab
open Go
inductive GC where
 | int (k:IntKind) (n:Int)
 | ifc
 | some (k:IntKind)
def sM:List GC:=Go.Pinned.utf8FirstZ.map λ (n:Nat)=>.int .u8 (n:Int)
def yc:List GC:=[.int .u8 128,.int .u8 191,.int .u8 160,.int .u8 191,.int .u8 128,.int .u8 159,.int .u8 144,.int .u8 191,.int .u8 128,.int .u8 143,.int .u8 0,.int .u8 0,.int .u8 0,.int .u8 0,.int .u8 0,.int .u8 0,.int .u8 0,.int .u8 0,.int .u8 0,.int .u8 0,.int .u8 0,.int .u8 0,.int .u8 0,.int .u8 0,.int .u8 0,.int .u8 0,.int .u8 0,.int .u8 0,.int .u8 0,.int .u8 0,.int .u8 0,.int .u8 0]
def Cp:List GC:=[.some .i64]
def Cn:List GC:=[.int .u64 1,.int .u64 10,.int .u64 100,.int .u64 1000,.int .u64 10000,.int .u64 100000,.int .u64 1000000,.int .u64 10000000,.int .u64 100000000,.int .u64 1000000000,.int .u64 10000000000,.int .u64 100000000000,.int .u64 1000000000000,.int .u64 10000000000000,.int .u64 100000000000000,.int .u64 1000000000000000,.int .u64 10000000000000000,.int .u64 100000000000000000,.int .u64 1000000000000000000,.int .u64 10000000000000000000]
def Ce:List GC:=[.ifc]
def Cm:List GC:=[.ifc]
def Cl:List GC:=[.int .u8 0,.int .u8 1,.int .u8 28,.int .u8 2,.int .u8 29,.int .u8 14,.int .u8 24,.int .u8 3,.int .u8 30,.int .u8 22,.int .u8 20,.int .u8 15,.int .u8 25,.int .u8 17,.int .u8 4,.int .u8 8,.int .u8 31,.int .u8 27,.int .u8 13,.int .u8 23,.int .u8 21,.int .u8 19,.int .u8 16,.int .u8 7,.int .u8 26,.int .u8 12,.int .u8 18,.int .u8 6,.int .u8 11,.int .u8 5,.int .u8 10,.int .u8 9]
def Co:List GC:=[.int .u8 0,.int .u8 1,.int .u8 56,.int .u8 2,.int .u8 57,.int .u8 49,.int .u8 28,.int .u8 3,.int .u8 61,.int .u8 58,.int .u8 42,.int .u8 50,.int .u8 38,.int .u8 29,.int .u8 17,.int .u8 4,.int .u8 62,.int .u8 47,.int .u8 59,.int .u8 36,.int .u8 45,.int .u8 43,.int .u8 51,.int .u8 22,.int .u8 53,.int .u8 39,.int .u8 33,.int .u8 30,.int .u8 24,.int .u8 18,.int .u8 12,.int .u8 5,.int .u8 63,.int .u8 55,.int .u8 48,.int .u8 27,.int .u8 60,.int .u8 41,.int .u8 37,.int .u8 16,.int .u8 46,.int .u8 35,.int .u8 44,.int .u8 21,.int .u8 52,.int .u8 32,.int .u8 23,.int .u8 11,.int .u8 54,.int .u8 26,.int .u8 40,.int .u8 15,.int .u8 34,.int .u8 20,.int .u8 31,.int .u8 10,.int .u8 25,.int .u8 14,.int .u8 19,.int .u8 9,.int .u8 13,.int .u8 8,.int .u8 7,.int .u8 6]
def l9:List (Nat×List GC):=[(0,sM),(1,yc),(2,Cp),(3,Cn),(4,Ce),(5,Cm),(6,Cl),(7,Co)]
end Go.Ab
end
section
namespace Go.Ab
inductive PV where
 | val (v:Value)
 | agg (cs:List PV)
 | slice (es:List PV)
 | ifc
 | aint (k:IntKind)
def PV.cells:PV->List PV|.agg cs=>cs|.val v=>[.val v]|.slice es=>[.slice es]|.ifc=>[.ifc]|.aint k=>[.aint k]
def PV.one:PV->Bool|.val v=>v.oneCell'|.slice _=>true|.ifc=>true|.aint _=>true|.agg _=>false
structure Gh where
 st:Nat->Nat->Prop
 ow:Nat->Option Nat
inductive PRep (w:World)(st:Nat->Nat->Prop):PV->Value->Prop
 | val (v:Value):PRep w st (.val v) v
 | agg {cs:List PV} {vs:Array Value} (hl:vs.size=cs.length)
   (h:∀ (i:Nat) c v,cs[i]? = some c->vs[i]? = some v->PRep w st c v):PRep w st (.agg cs) (.agg vs)
 | ifc (t:TypeId) (v:Value):PRep w st .ifc (.iface t v)
 | aint (k:IntKind) (n:Int):PRep w st (.aint k) (.int k n)
 | nils:PRep w st (.slice []) (.slice none 0 0)
 | nile (a:Addr):PRep w st (.slice []) (.slice (some a) 0 0)
 | slice {es:List PV} {b off cap:Nat} (sz:Nat) (cf:Nat->Nat->Value) (hcap:es.length<=cap)
   (CC:∀ e,e∈es->e.cells.length=sz) (CH:∀ e,e∈es->∀ c,c∈e.cells->c.one=true)
   (hc:∀ (i:Nat) e (j:Nat) c,es[i]? = some e->e.cells[j]? = some c->st b (off+i*sz+j)/\w.cell? ⟨b,off+i*sz+j,none⟩=some (cf i j))
   (hr:∀ (i:Nat) e (j:Nat) c,es[i]? = some e->e.cells[j]? = some c->PRep w st c (cf i j)) :
   PRep w st (.slice es) (.slice (some ⟨b,off,none⟩) es.length cap)
def Ev (w:World)(st:Nat->Nat->Prop)(w':World)(st':Nat->Nat->Prop):Prop :=∀ b o,st b o->st' b o/\w'.cell? ⟨b,o,none⟩=w.cell? ⟨b,o,none⟩
theorem Ev.refl (w:World)(st:Nat->Nat->Prop):Ev w st w st:=λ _ _ h=>⟨h,Z⟩
theorem Ev.trans {w w' w'':World}{st st' st'':Nat->Nat->Prop}(h:Ev w st w' st')(k:Ev w' st' w'' st''):Ev w st w'' st'' :=
 λ b o hs=>⟨(k b o (h b o hs).1).1,(k b o (h b o hs).1).2.trans (h b o hs).2⟩
theorem PRep.mono {w w':World}{st st':Nat->Nat->Prop}(CL:Ev w st w' st'){x:PV}{v:Value}(h:PRep w st x v):PRep w' st' x v:=by
 induction h with
 | val v=>exact .val v
 | agg hl h ih=>exact .agg hl ih
 | ifc t v=>exact .ifc t v
 | aint k n=>exact .aint k n
 | nils=>exact .nils
 | nile a=>exact .nile a
 | slice sz cf hcap CC CH hc hr ih=>
  refine .slice sz cf hcap CC CH (λ i e j c h1 h2=>?_) ih;have h3:=hc i e j c h1 h2;exact ⟨(CL _ _ h3.1).1,(CL _ _ h3.1).2.trans h3.2⟩
def look {α:Type}:List (Nat×α)->Nat->Option α|[],_=>none|(j,v)::r,i=>bif Nat.beq j i then some v else look r i
def GC.pv:GC->PV|.int k n=>.val (.int k n)|.ifc=>.ifc|.some k=>.aint k
def j3 (g:Nat):Option (List PV):=(look l9 g).map λ l=>l.map GC.pv
def iE (w:World)(st:Nat->Nat->Prop):Prop :=∀ g cs,j3 g=some cs->(∀ (j:Nat) c,cs[j]? = some c->st g j/\∃ v,w.cell? ⟨g,j,none⟩=some v/\PRep w st c v)/\(st g cs.length/\w.cell? ⟨g,cs.length,none⟩=none)
theorem iE.mono {w w':World}{st st':Nat->Nat->Prop}(h:iE w st)(CL:Ev w st w' st'):iE w' st':=λ g cs hg=>by
 obtain ⟨h0,h1,h2⟩:=h g cs hg;refine ⟨λ j c hc=>?_,(CL _ _ h1).1,(CL _ _ h1).2.trans h2⟩;obtain ⟨h1,v,h2,h3⟩:=h0 j c hc;exact ⟨(CL _ _ h1).1,v,(CL _ _ h1).2.trans h2,h3.mono CL⟩
structure Ok0 (w:World)(st:Nat->Nat->Prop):Prop where
 lt:∀ b o,st b o->b<w.heap.size
 gl:iE w st
inductive AV where
 | undef
 | p (x:PV)
 | agg (cs:List AV)
 | vec (tok sz ty:Nat) (es:List PV)
 | arr (id sz off n:Nat)
 | ptr (id off:Nat)
 | bptr (T sz id:Nat)
 | rptr (cs:List PV)
 | tuple (vs:List AV)
 | func (f:Fn) (caps:List AV)
 | mp (tok:Nat) (kvs:List (List UInt8×PV))
 | mpr (tok sz ty:Nat) (tk:Option (List UInt8)) (kvs:List (List UInt8×List PV))
 | stk (tok sz:Nat) (es:List PV)
 | sem (ts:List Nat) (R:World->Gh->Value->Prop)
 | it (tok:Nat) (s:List UInt8) (pos:Nat)
 | vecp (tok sz ty:Nat) (es:List PV)
 | elp (tok sz:Nat)
def M1:Nat:=1000000
def MZ:Nat:=10000000
theorem zA:2*M1<=MZ:=by decide
theorem nN {i:Nat}(h:MZ<=i):M1<=i:=Nat.le_trans (by decide) h
def vH (tok sz ty:Nat)(tk:Option (List UInt8))(i:Nat)(kv:List UInt8×List PV):AV:=if tk=some kv.1 then .p (.slice kv.2) else .vec (tok+MZ*(i+1)) sz ty kv.2
structure EvO (D:Nat->Bool)(w:World)(g:Gh)(w':World)(g':Gh):Prop where
 ev:Ev w g.st w' g'.st
 ow:∀ id b,D id=false->g.ow id=some b->g'.ow id=some b
 shape:∀ id b c e,D id=false->g.ow id=some b->w.heap[b]? = some (.cells c e (0,0)) ->
  ∃ c':Array Value,w'.heap[b]? = some (.cells c' e (0,0))/\c'.size=c.size
 tip:∀ id b o,D id=false->g.ow id=some b->g'.st b o->g.st b o
 mp:∀ id b es k,D id=false->g.ow id=some b->w.heap[b]? = some (.map es k)->w'.heap[b]? = some (.map es k)
 lo:∀ i,MZ<=i->D i=false
 stab:∀ id b o,D id=false->g.ow id=some b->g.st b o->w'.heap[b]? = w.heap[b]?
theorem EvO.trans {D E:Nat->Bool}{w w' w'':World}{g g' g'':Gh}(h:EvO D w g w' g')(k:EvO E w' g' w'' g''):EvO (λ i=>D i||E i) w g w'' g'':=by
 have hD:∀ id,(D id||E id)=false->D id=false/\E id=false:=λ id h=>by simpa using h
 refine ⟨h.ev.trans k.ev,λ id b hd hb=>k.ow id b (hD id hd).2 (h.ow id b (hD id hd).1 hb),λ id b c e hd hb hc=>?_,λ id b o hd hb ho=>h.tip id b o (hD id hd).1 hb (k.tip id b o (hD id hd).2 (h.ow id b (hD id hd).1 hb) ho),
  λ id b es n hd hb hc=>k.mp id b es n (hD id hd).2 (h.ow id b (hD id hd).1 hb) (h.mp id b es n (hD id hd).1 hb hc),λ i hi=>by rw [h.lo i hi,k.lo i hi]; rfl,
  λ id b o hd hb ho=>(k.stab id b o (hD id hd).2 (h.ow id b (hD id hd).1 hb) (h.ev _ _ ho).1).trans (h.stab id b o (hD id hd).1 hb ho)⟩
 obtain ⟨c1,h1,h2⟩:=h.shape id b c e (hD id hd).1 hb hc;obtain ⟨c2,h3,h4⟩:=k.shape id b c1 e (hD id hd).2 (h.ow id b (hD id hd).1 hb) h1;exact ⟨c2,h3,h4.trans h2⟩
theorem EvO.refl (w:World)(g:Gh):EvO (λ _=>false) w g w g:=⟨Ev.refl _ _,λ _ _ _ h=>h,λ _ _ c _ _ _ h=>⟨c,h,Z⟩,λ _ _ _ _ _ h=>h,λ _ _ _ _ _ _ h=>h,λ _ _=>rfl,λ _ _ _ _ _ _=>rfl⟩
structure EvT (ts:List Nat)(w:World)(g:Gh)(w':World)(g':Gh):Prop where
 ev:Ev w g.st w' g'.st
 ow:∀ id b,id∈ts->g.ow id=some b->g'.ow id=some b
 shape:∀ id b c e,id∈ts->g.ow id=some b->w.heap[b]? = some (.cells c e (0,0)) ->
  ∃ c':Array Value,w'.heap[b]? = some (.cells c' e (0,0))/\c'.size=c.size
 tip:∀ id b o,id∈ts->g.ow id=some b->g'.st b o->g.st b o
 stab:∀ id b o,id∈ts->g.ow id=some b->g.st b o->w'.heap[b]? = w.heap[b]?
theorem EvT.refl (ts:List Nat)(w:World)(g:Gh):EvT ts w g w g:=⟨Ev.refl _ _,λ _ _ _ h=>h,λ _ _ c _ _ _ h=>⟨c,h,Z⟩,λ _ _ _ _ _ h=>h,λ _ _ _ _ _ _=>rfl⟩
theorem EvT.trans {ts:List Nat}{w w' w'':World}{g g' g'':Gh}(h:EvT ts w g w' g')(k:EvT ts w' g' w'' g''):EvT ts w g w'' g'':=by
 refine ⟨h.ev.trans k.ev,λ id b hd hb=>k.ow id b hd (h.ow id b hd hb),λ id b c e hd hb hc=>?_,λ id b o hd hb ho=>h.tip id b o hd hb (k.tip id b o hd (h.ow id b hd hb) ho),
  λ id b o hd hb ho=>(k.stab id b o hd (h.ow id b hd hb) (h.ev _ _ ho).1).trans (h.stab id b o hd hb ho)⟩
 obtain ⟨c1,h1,h2⟩:=h.shape id b c e hd hb hc;obtain ⟨c2,h3,h4⟩:=k.shape id b c1 e hd (h.ow id b hd hb) h1;exact ⟨c2,h3,h4.trans h2⟩
theorem EvO.evT {D:Nat->Bool}{ts:List Nat}{w w':World}{g g':Gh}(h:EvO D w g w' g')(hd:ts.any D=false):EvT ts w g w' g':=by
 have hd':∀ t,t∈ts->D t=false:=λ t ht=>by simpa using List.any_eq_false.1 hd t ht
 exact ⟨h.ev,λ id b k=>h.ow id b (hd' id k),λ id b c e k=>h.shape id b c e (hd' id k),λ id b o k=>h.tip id b o (hd' id k),λ id b o k=>h.stab id b o (hd' id k)⟩
theorem EvT.sub {ts ts':List Nat}{w w':World}{g g':Gh}(h:EvT ts w g w' g')(hs:∀ t,t∈ts'->t∈ts):EvT ts' w g w' g' :=
 ⟨h.ev,λ id b k=>h.ow id b (hs id k),λ id b c e k=>h.shape id b c e (hs id k),λ id b o k=>h.tip id b o (hs id k),λ id b o k=>h.stab id b o (hs id k)⟩
inductive ARep (w:World)(g:Gh):AV->Value->Prop
 | undef (v:Value):ARep w g .undef v
 | p {x:PV} {v:Value} (h:PRep w g.st x v):ARep w g (.p x) v
 | agg {cs:List AV} {vs:Array Value} (hl:vs.size=cs.length)
   (h:∀ (i:Nat) c v,cs[i]? = some c->vs[i]? = some v->ARep w g c v):ARep w g (.agg cs) (.agg vs)
 | vecn (tok sz ty:Nat):ARep w g (.vec tok sz ty []) (.slice none 0 0)
 | vece (tok sz:Nat) (a:Addr):ARep w g (.vec tok sz 0 []) (.slice (some a) 0 0)
 | vec {tok sz ty:Nat} {es:List PV} {b off cap:Nat} {c:Array Value} {e:TypeId} (how:g.ow tok=some b)
   (hb:w.heap[b]? = some (.cells c e (0,0))) (CJ:c.size=off+cap*sz)
   (CC:∀ e,e∈es->e.cells.length=sz) (CN:∀ o,g.st b o↔o<off+es.length*sz)
   (hr:PRep w g.st (.slice es) (.slice (some ⟨b,off,none⟩) es.length cap)) (hty:ty=0\/ty=e+1/\off=0) :
   ARep w g (.vec tok sz ty es) (.slice (some ⟨b,off,none⟩) es.length cap)
 | arr {id sz off n b cap:Nat} {c:Array Value} {e:TypeId} (how:g.ow id=some b) (hb:w.heap[b]? = some (.cells c e (0,0)))
   (CJ:c.size=off+cap*sz) (hn:n<=cap):ARep w g (.arr id sz off n) (.slice (some ⟨b,off,none⟩) n cap)
 | ptr {id off b:Nat} (how:g.ow id=some b):ARep w g (.ptr id off) (.pointer (some ⟨b,off,none⟩))
 | bptrn {T sz id b:Nat} {c:Array Value} (how:g.ow id=some b) (hb:w.heap[b]? = some (.cells c T (0,0))) (CJ:c.size=sz):ARep w g (.bptr T sz id) (.pointer none)
 | bptr {T sz id b:Nat} {c:Array Value} (how:g.ow id=some b) (hb:w.heap[b]? = some (.cells c T (0,0))) (CJ:c.size=sz):ARep w g (.bptr T sz id) (.pointer (some ⟨b,0,none⟩))
 | rptr {cs:List PV} {b off:Nat} (cf:Nat->Value)
   (hc:∀ (j:Nat) c,cs[j]? = some c->g.st b (off+j)/\w.cell? ⟨b,off+j,none⟩=some (cf j))
   (hr:∀ (j:Nat) c,cs[j]? = some c->PRep w g.st c (cf j)):ARep w g (.rptr cs) (.pointer (some ⟨b,off,none⟩))
 | tuple {cs:List AV} {vs:Array Value} (hl:vs.size=cs.length)
   (h:∀ (i:Nat) c v,cs[i]? = some c->vs[i]? = some v->ARep w g c v):ARep w g (.tuple cs) (.tuple vs)
 | func {f:Fn} {cs:List AV} {vs:Array Value} (hl:vs.size=cs.length)
   (h:∀ (i:Nat) c v,cs[i]? = some c->vs[i]? = some v->ARep w g c v):ARep w g (.func f cs) (.func f #[] vs)
 | mp {tok:Nat} {kvs:List (List UInt8×PV)} {b k:Nat} {es:Array MapEntry} (how:g.ow tok=some b) (hb:w.heap[b]? = some (.map es k)) (hn:es.size=kvs.length) (hd:(kvs.map Prod.fst).Nodup)
   (hk:∀ (i:Nat) e kv,es[i]? = some e->kvs[i]? = some kv->e.key=.string ⟨kv.1.toArray⟩) (hv:∀ (i:Nat) e kv,es[i]? = some e->kvs[i]? = some kv->PRep w g.st kv.2 e.val):ARep w g (.mp tok kvs) (.map (some b))
 | mpr {tok sz ty:Nat} {tk:Option (List UInt8)} {kvs:List (List UInt8×List PV)} {b k:Nat} {es:Array MapEntry} (how:g.ow tok=some b) (hb:w.heap[b]? = some (.map es k)) (hn:es.size=kvs.length) (hd:(kvs.map Prod.fst).Nodup)
   (hk:∀ (i:Nat) e kv,es[i]? = some e->kvs[i]? = some kv->e.key=.string ⟨kv.1.toArray⟩) (hv:∀ (i:Nat) e kv,es[i]? = some e->kvs[i]? = some kv->ARep w g (vH tok sz ty tk i kv) e.val):ARep w g (.mpr tok sz ty tk kvs) (.map (some b))
 | stkn (tok sz:Nat):ARep w g (.stk tok sz []) (.slice none 0 0)
 | stke (tok sz:Nat) (a:Addr):ARep w g (.stk tok sz []) (.slice (some a) 0 0)
 | stk {tok sz:Nat} {es:List PV} {b cap:Nat} {c:Array Value} {e:TypeId} (how:g.ow tok=some b) (hb:w.heap[b]? = some (.cells c e (0,0))) (CJ:c.size=cap*sz) (CE:es.length<=cap)
   (CC:∀ e,e∈es->e.cells.length=sz) (CH:∀ e,e∈es->∀ c,c∈e.cells->c.one=true) (CN:∀ o,g.st b o↔o=cap*sz)
   (hr:∀ (i:Nat) x (j:Nat) p,es[i]? = some x->x.cells[j]? = some p->∃ v,c[i*sz+j]? = some v/\PRep w g.st p v):ARep w g (.stk tok sz es) (.slice (some ⟨b,0,none⟩) es.length cap)
 | sem {ts:List Nat} {R:World->Gh->Value->Prop} {v:Value} (h1:v.oneCell'=true) (h:∀ (w':World) (g':Gh),EvT ts w g w' g'->R w' g' v):ARep w g (.sem ts R) v
 | it {tok:Nat} {s:List UInt8} {pos b:Nat} (how:g.ow tok=some b) (hb:w.heap[b]? = some (.stringIter ⟨s.toArray⟩ pos)) (hm:g.st b 0):ARep w g (.it tok s pos) (.pointer (some ⟨b,0,none⟩))
 | vecp {tok sz ty:Nat} {es:List PV} {b off cap:Nat} {c:Array Value} {e:TypeId} (how:g.ow tok=some b) (hb:w.heap[b]? = some (.cells c e (0,0))) (CJ:c.size=off+cap*sz) (hcap:es.length+1<=cap)
   (CC:∀ e,e∈es->e.cells.length=sz) (CN:∀ o,g.st b o↔o<off+es.length*sz)
   (hr:PRep w g.st (.slice es) (.slice (some ⟨b,off,none⟩) es.length cap)) (hty:ty=0\/ty=e+1/\off=0):ARep w g (.vecp tok sz ty es) (.slice (some ⟨b,off,none⟩) (es.length+1) cap)
 | elp {tok sz b p:Nat} {c:Array Value} {e:TypeId} (how:g.ow tok=some b) (hb:w.heap[b]? = some (.cells c e (0,0))) (hp:p+sz<=c.size) (CN:∀ o,g.st b o↔o<p):ARep w g (.elp tok sz) (.pointer (some ⟨b,p,none⟩))
/- An own identity D is given up: what was known through it is no longer,but for settled contents. -/
mutual
def AV.dem (D:Nat->Bool):AV->AV|.undef=>.undef|.p x=>.p x|.agg cs=>.agg (gW D cs)|.vec tok sz ty es=>bif D tok then .p (.slice es) else .vec tok sz ty es|.arr id sz off n=>bif D id then .undef else .arr id sz off n|.ptr id off=>bif D id then .undef else .ptr id off|.bptr T sz id=>bif D id then .undef else .bptr T sz id|.rptr cs=>.rptr cs|.tuple cs=>.tuple (gW D cs)|.func f cs=>.func f (gW D cs)|.mp tok kvs=>bif D tok then .undef else .mp tok kvs|.mpr tok sz ty tk kvs=>bif D tok then .undef else .mpr tok sz ty tk kvs|.stk tok sz es=>bif D tok then .undef else .stk tok sz es|.sem ts R=>bif ts.any D then .undef else .sem ts R|.it tok s pos=>bif D tok then .undef else .it tok s pos|.vecp tok sz ty es=>bif D tok then .undef else .vecp tok sz ty es|.elp tok sz=>bif D tok then .undef else .elp tok sz
def gW (D:Nat->Bool):List AV->List AV|[]=>[]|x::r=>x.dem D::gW D r
end
theorem eZ (D:Nat->Bool):∀ l,gW D l=l.map (AV.dem D)
 | []=>rfl
 | x::r=>by simp [gW,eZ D r]
theorem xN {D:Nat->Bool}(lo:∀ i,MZ<=i->D i=false)(tok sz ty:Nat)(tk:Option (List UInt8))(i:Nat)(kv:List UInt8×List PV):(vH tok sz ty tk i kv).dem D=vH tok sz ty tk i kv:=by
 unfold vH;split
 ·rfl
 ·simp only [AV.dem];rw [lo (tok+MZ*(i+1)) (by unfold MZ; omega)]
  rfl
theorem ARep.dem {D:Nat->Bool}{w w':World}{g g':Gh}(CL:EvO D w g w' g'){x:AV}{v:Value}(h:ARep w g x v):ARep w' g' (x.dem D) v:=by
 induction h with
 | undef v=>simp only [AV.dem]; exact .undef _
 | p h=>simp only [AV.dem]; exact .p (h.mono CL.ev)
 | agg hl h ih=>
  simp only [AV.dem,eZ];refine .agg (by simpa using hl) λ i c v h1 h2=>?_;simp only [List.getElem?_map,ld] at h1;obtain ⟨c0,h1,rfl⟩:=h1;exact ih i c0 v h1 h2
 | vecn tok sz ty=>
  simp only [AV.dem]
  cases D tok
  ·exact .vecn _ _ _
  ·exact .p .nils
 | vece tok sz a=>
  simp only [AV.dem]
  cases D tok
  ·exact .vece _ _ _
  ·exact .p (.nile a)
 | vec how hb CJ CC CN hr hty=>
  simp only [AV.dem]
  cases hD:D _
  ·obtain ⟨c',hb',hs'⟩:=CL.shape _ _ _ _ hD how hb;refine .vec (CL.ow _ _ hD how) hb' (hs'.trans CJ) CC (λ o=>⟨λ h=>(CN o).1 (CL.tip _ _ o hD how h),λ h=>(CL.ev _ _ ((CN o).2 h)).1⟩) (hr.mono CL.ev) hty
  ·exact .p (hr.mono CL.ev)
 | arr how hb CJ hn=>
  simp only [AV.dem]
  cases hD:D _
  ·obtain ⟨c',hb',hs'⟩:=CL.shape _ _ _ _ hD how hb;exact .arr (CL.ow _ _ hD how) hb' (hs'.trans CJ) hn
  ·exact .undef _
 | ptr how=>
  simp only [AV.dem]
  cases hD:D _
  ·exact .ptr (CL.ow _ _ hD how)
  ·exact .undef _
 | bptrn how hb CJ=>
  simp only [AV.dem]
  cases hD:D _
  ·obtain ⟨c',hb',hs'⟩:=CL.shape _ _ _ _ hD how hb;exact .bptrn (CL.ow _ _ hD how) hb' (hs'.trans CJ)
  ·exact .undef _
 | bptr how hb CJ=>
  simp only [AV.dem]
  cases hD:D _
  ·obtain ⟨c',hb',hs'⟩:=CL.shape _ _ _ _ hD how hb;exact .bptr (CL.ow _ _ hD how) hb' (hs'.trans CJ)
  ·exact .undef _
 | rptr cf hc hr=>
  simp only [AV.dem];exact .rptr cf (λ j c h=>⟨(CL.ev _ _ (hc j c h).1).1,(CL.ev _ _ (hc j c h).1).2.trans (hc j c h).2⟩) (λ j c h=>(hr j c h).mono CL.ev)
 | tuple hl h ih=>
  simp only [AV.dem,eZ];refine .tuple (by simpa using hl) λ i c v h1 h2=>?_;simp only [List.getElem?_map,ld] at h1;obtain ⟨c0,h1,rfl⟩:=h1;exact ih i c0 v h1 h2
 | func hl h ih=>
  simp only [AV.dem,eZ];refine .func (by simpa using hl) λ i c v h1 h2=>?_;simp only [List.getElem?_map,ld] at h1;obtain ⟨c0,h1,rfl⟩:=h1;exact ih i c0 v h1 h2
 | mp how hb hn hd hk hv=>
  simp only [AV.dem]
  cases hD:D _
  ·exact .mp (CL.ow _ _ hD how) (CL.mp _ _ _ _ hD how hb) hn hd hk (λ i e kv h1 h2=>(hv i e kv h1 h2).mono CL.ev)
  ·exact .undef _
 | mpr how hb hn hd hk hv ih=>
  simp only [AV.dem]
  cases hD:D _
  ·exact .mpr (CL.ow _ _ hD how) (CL.mp _ _ _ _ hD how hb) hn hd hk (λ i e kv h1 h2=>by have:=ih i e kv h1 h2; rwa [xN CL.lo] at this)
  ·exact .undef _
 | stkn tok sz=>
  simp only [AV.dem]
  cases D tok
  ·exact .stkn _ _
  ·exact .undef _
 | stke tok sz a=>
  simp only [AV.dem]
  cases D tok
  ·exact .stke _ _ _
  ·exact .undef _
 | stk how hb CJ CE CC CH CN hr=>
  simp only [AV.dem]
  cases hD:D _
  ·exact .stk (CL.ow _ _ hD how) ((CL.stab _ _ _ hD how ((CN _).2 rfl)).trans hb) CJ CE CC CH (λ o=>⟨λ h=>(CN o).1 (CL.tip _ _ o hD how h),λ h=>(CL.ev _ _ ((CN o).2 h)).1⟩) (λ i x j p h1 h2=>by obtain ⟨v,h3,h4⟩:=hr i x j p h1 h2; exact ⟨v,h3,h4.mono CL.ev⟩)
  ·exact .undef _
 | sem h1 h=>
  rename_i ts R v;simp only [AV.dem]
  cases hD:ts.any D
  ·exact .sem h1 (λ w2 g2 hev2=>h _ _ ((CL.evT hD).trans hev2))
  ·exact .undef _
 | it how hb hm=>
  simp only [AV.dem]
  cases hD:D _
  ·exact .it (CL.ow _ _ hD how) ((CL.stab _ _ _ hD how hm).trans hb) (CL.ev _ _ hm).1
  ·exact .undef _
 | vecp how hb CJ hcap CC CN hr hty=>
  simp only [AV.dem]
  cases hD:D _
  ·obtain ⟨c',hb',hs'⟩:=CL.shape _ _ _ _ hD how hb;exact .vecp (CL.ow _ _ hD how) hb' (hs'.trans CJ) hcap CC (λ o=>⟨λ h=>(CN o).1 (CL.tip _ _ o hD how h),λ h=>(CL.ev _ _ ((CN o).2 h)).1⟩) (hr.mono CL.ev) hty
  ·exact .undef _
 | elp how hb hp CN=>
  simp only [AV.dem]
  cases hD:D _
  ·obtain ⟨c',hb',hs'⟩:=CL.shape _ _ _ _ hD how hb;exact .elp (CL.ow _ _ hD how) hb' O (λ o=>⟨λ h=>(CN o).1 (CL.tip _ _ o hD how h),λ h=>(CL.ev _ _ ((CN o).2 h)).1⟩)
  ·exact .undef _
theorem ARep.mono {w w':World}{g g':Gh}(CL:EvO (λ _=>false) w g w' g'){x:AV}{v:Value}(h:ARep w g x v):ARep w' g' x v:=by
 induction h with
 | undef v=>exact .undef _
 | p h=>exact .p (h.mono CL.ev)
 | agg hl h ih=>exact .agg hl ih
 | vecn tok sz ty=>exact .vecn _ _ _
 | vece tok sz a=>exact .vece _ _ _
 | vec how hb CJ CC CN hr hty=>
  obtain ⟨c',hb',hs'⟩:=CL.shape _ _ _ _ rfl how hb;exact .vec (CL.ow _ _ rfl how) hb' (hs'.trans CJ) CC (λ o=>⟨λ h=>(CN o).1 (CL.tip _ _ o rfl how h),λ h=>(CL.ev _ _ ((CN o).2 h)).1⟩) (hr.mono CL.ev) hty
 | arr how hb CJ hn=>
  obtain ⟨c',hb',hs'⟩:=CL.shape _ _ _ _ rfl how hb;exact .arr (CL.ow _ _ rfl how) hb' (hs'.trans CJ) hn
 | ptr how=>exact .ptr (CL.ow _ _ Z how)
 | bptrn how hb CJ=>
  obtain ⟨c',hb',hs'⟩:=CL.shape _ _ _ _ rfl how hb;exact .bptrn (CL.ow _ _ rfl how) hb' (hs'.trans CJ)
 | bptr how hb CJ=>
  obtain ⟨c',hb',hs'⟩:=CL.shape _ _ _ _ rfl how hb;exact .bptr (CL.ow _ _ rfl how) hb' (hs'.trans CJ)
 | rptr cf hc hr=>exact .rptr cf (λ j c h=>⟨(CL.ev _ _ (hc j c h).1).1,(CL.ev _ _ (hc j c h).1).2.trans (hc j c h).2⟩) (λ j c h=>(hr j c h).mono CL.ev)
 | tuple hl h ih=>exact .tuple hl ih
 | func hl h ih=>exact .func hl ih
 | mp how hb hn hd hk hv=>exact .mp (CL.ow _ _ Z how) (CL.mp _ _ _ _ Z how hb) hn hd hk (λ i e kv h1 h2=>(hv i e kv h1 h2).mono CL.ev)
 | mpr how hb hn hd hk hv ih=>exact .mpr (CL.ow _ _ Z how) (CL.mp _ _ _ _ Z how hb) hn hd hk ih
 | stkn tok sz=>exact .stkn _ _
 | stke tok sz a=>exact .stke _ _ _
 | stk how hb CJ CE CC CH CN hr=>
  exact .stk (CL.ow _ _ rfl how) ((CL.stab _ _ _ rfl how ((CN _).2 rfl)).trans hb) CJ CE CC CH (λ o=>⟨λ h=>(CN o).1 (CL.tip _ _ o rfl how h),λ h=>(CL.ev _ _ ((CN o).2 h)).1⟩) (λ i x j p h1 h2=>by obtain ⟨v,h3,h4⟩:=hr i x j p h1 h2; exact ⟨v,h3,h4.mono CL.ev⟩)
 | sem h1 h=>exact .sem h1 (λ w2 g2 hev2=>h _ _ ((CL.evT (List.any_eq_false.2 λ _ _=>by simp)).trans hev2))
 | it how hb hm=>exact .it (CL.ow _ _ Z how) ((CL.stab _ _ _ Z how hm).trans hb) (CL.ev _ _ hm).1
 | vecp how hb CJ hcap CC CN hr hty=>
  obtain ⟨c',hb',hs'⟩:=CL.shape _ _ _ _ rfl how hb;exact .vecp (CL.ow _ _ rfl how) hb' (hs'.trans CJ) hcap CC (λ o=>⟨λ h=>(CN o).1 (CL.tip _ _ o rfl how h),λ h=>(CL.ev _ _ ((CN o).2 h)).1⟩) (hr.mono CL.ev) hty
 | elp how hb hp CN=>
  obtain ⟨c',hb',hs'⟩:=CL.shape _ _ _ _ rfl how hb;exact .elp (CL.ow _ _ rfl how) hb' O (λ o=>⟨λ h=>(CN o).1 (CL.tip _ _ o rfl how h),λ h=>(CL.ev _ _ ((CN o).2 h)).1⟩)
structure AS where
 sl:List (Nat×AV)
 ob:List (Nat×List AV)
def AS.get (s:AS)(i:Nat):AV:=(look s.sl i).getD .undef
def AS.put (s:AS)(dst:Option Nat)(x:AV):AS :=
 match dst with
 | some d=>{ s with sl:=(d,x)::s.sl }
 | none=>s
def gu (w:World)(g:Gh)(id:Nat)(cs:List AV):Prop :=∃ b c e,g.ow id=some b/\w.heap[b]? = some (.cells c e (0,0))/\cs.length<=c.size/\(∀ o,¬ g.st b o) /\ ∀ (i:Nat) x,cs[i]? = some x->∃ v,c[i]? = some v/\ARep w g x v
structure Base where
 w:World
 st:Nat->Nat->Prop
 ow:Nat->Option Nat
 gl:iE w st
 lo:∀ i b,ow i=some b->i<MZ
 df:List Deferred
def ic (ow:Nat->Option Nat)(w w':World):Prop:=∀ (i b:Nat) (c:Array Value) (e:TypeId),M1<=i->ow i=some b->w.heap[b]? = some (.cells c e (0,0))->∃ c':Array Value,w'.heap[b]? = some (.cells c' e (0,0))/\c'.size=c.size
theorem ic.refl (ow:Nat->Option Nat)(w:World):ic ow w w:=λ _ _ c _ _ _ h=>⟨c,h,Z⟩
theorem ic.next {ow:Nat->Option Nat}{w w' w'':World}(h:ic ow w w')
  (k:∀ (i b:Nat) (c:Array Value) (e:TypeId),M1<=i->ow i=some b->w'.heap[b]? = some (.cells c e (0,0))->∃ c':Array Value,w''.heap[b]? = some (.cells c' e (0,0))/\c'.size=c.size):ic ow w w'':=by
 intro i b c e h1 h2 h3;obtain ⟨c1,h4,h5⟩:=h i b c e h1 h2 h3;obtain ⟨c2,h6,h7⟩:=k i b c1 e h1 h2 h4;exact ⟨c2,h6,h7.trans h5⟩
def lS (w w':World):Prop:=(∀ (b:Nat) (c:Array Value) (e:TypeId),w.heap[b]? = some (.cells c e (0,0))->∃ c':Array Value,w'.heap[b]? = some (.cells c' e (0,0))/\c'.size=c.size) /\ ∀ (b:Nat) (o:Obj),w.heap.size<=b->w'.heap[b]? = some o->∃ c e,o=.cells c e (0,0)
theorem lS.refl (w:World):lS w w:=⟨λ _ c _ h=>⟨c,h,Z⟩,λ b o h1 h2=>absurd (Array.getElem?_eq_some_iff.1 h2).1 (Nat.not_lt.2 h1)⟩
theorem lS.trans {w w' w'':World}(h:lS w w')(k:lS w' w''):lS w w'':=by
 refine ⟨λ b c e hb=>?_,λ b o h1 h2=>?_⟩
 ·obtain ⟨c1,h1,h2⟩:=h.1 b c e hb;obtain ⟨c2,h3,h4⟩:=k.1 b c1 e h1;exact ⟨c2,h3,h4.trans h2⟩
 ·by_cases h3:b<w'.heap.size
  ·obtain ⟨c,e,h4⟩:=h.2 b w'.heap[b] h1 (Array.getElem?_eq_getElem h3);obtain ⟨c2,h5,_⟩:=k.1 b c e (by rw [Array.getElem?_eq_getElem h3,h4]);rw [h2] at h5
   cases h5
   exact ⟨_,_,Z⟩
  ·exact k.2 b o (Nat.le_of_not_lt h3) h2
structure St (n:Nat)(w0:Base)(F:Nat->Prop)(g:Gh)(s:AS)(a:Act)(w:World):Prop where
 nd:a.defers=w0.df
 sz:a.tmps.size=n
 sl:∀ i,ARep w g (s.get i) (a.tmps.getD i Go.undef)
 ob:∀ id cs,look s.ob id=some cs->gu w g id cs
 inj:∀ i j b,g.ow i=some b->g.ow j=some b->i=j
 own:∀ i b,g.ow i=some b->b<w.heap.size/\¬ F b
 lt:∀ b o,g.st b o->b<w.heap.size
 fl:∀ b,F b->b<w0.w.heap.size
 fr:∀ b,F b->w.heap[b]? = w0.w.heap[b]?
 os:w.os=w0.w.os
 out:w.output=w0.w.output
 tape:w.tape=w0.w.tape
 size:w0.w.heap.size<=w.heap.size
 stf:∀ b,F b->∀ o,g.st b o↔w0.st b o
 owf:∀ i,M1<=i->i<MZ->g.ow i=w0.ow i
 shf:ic w0.ow w0.w w
 nst:∀ i b,M1<=i->w0.ow i=some b->∀ o,¬ g.st b o
 ev0:Ev w0.w w0.st w g.st
theorem St.ok0 {n:Nat}{w0:Base}{F:Nat->Prop}{g:Gh}{s:AS}{a:Act}{w:World}(h:St n w0 F g s a w):Ok0 w g.st:=⟨h.lt,w0.gl.mono h.ev0⟩
theorem aJ {α:Type}(j i:Nat)(v:α)(r:List (Nat×α)):look ((j,v)::r) i=if j=i then some v else look r i:=by
 simp only [look]
 cases h:Nat.beq j i
 ·have:j≠i:=λ e=>by subst e; simp at h
  simp [this]
 ·have:j=i:=bx h;simp [this]
theorem St.put {n:Nat}{w0:Base}{w:World}{F:Nat->Prop}{g:Gh}{s:AS}{a:Act}(h:St n w0 F g s a w){d:Option Nat}(hd:∀ t,d=some t->t<n)
  {x:AV} {v:Value} (hx:ARep w g x v):St n w0 F g (s.put d x) (a.put d v) w:=by
 cases d with
 | none=>exact h
 | some t=>
  have ht:=hd t rfl;refine { h with sz:=by simpa [Act.put] using h.sz,sl:=λ i=>?_,nd:=h.nd };simp only [AS.get,AS.put,aJ,Act.put];by_cases e:t=i
  ·subst e;have:t<a.tmps.size:=by rw [h.sz]; exact ht
   simpa [Array.getD,this] using hx
  ·have h2:=h.sl i;simp only [AS.get] at h2;simp only [if_neg e]
   have e3:(a.tmps.setIfInBounds t v).getD i Go.undef=a.tmps.getD i Go.undef:=by
    simp only [Array.getD_eq_getD_getElem?,Array.getElem?_setIfInBounds,if_neg e]
   rw [e3]; exact h2
def AV.sub (x y:AV):Prop:=∀ w g v,ARep w g x v->ARep w g y v
theorem AV.sub_refl (x:AV):x.sub x:=λ _ _ _ h=>h
theorem AV.sub_of_eq {x y:AV}(h:x=y):x.sub y:=h ▸ AV.sub_refl x
theorem PRep.nil_inv {w:World}{st:Nat->Nat->Prop}{v:Value}(h:PRep w st (.slice []) v) :
  v=.slice none 0 0\/∃ a cap,v=.slice (some a) 0 cap:=by
 cases h with
 | nils=>exact .inl Z
 | nile a=>exact .inr ⟨_,_,Z⟩
 | slice sz cf hcap CC CH hc hr=>exact .inr ⟨_,_,Z⟩
theorem AV.sub_vec (tok sz ty:Nat)(es:List PV):(AV.vec tok sz ty es).sub (.p (.slice es)):=by
 intro w g v h
 cases h with
 | vecn=>exact .p .nils
 | vece _ _ a=>exact .p (.nile a)
 | vec how hb CJ CC CN hr hty=>exact .p hr
theorem AV.sub_nilv:(AV.p (.val (.slice none 0 0))).sub (.p (.slice [])):=by
 intro w g v h
 cases h with
 | p h=>cases h; exact .p .nils
theorem AV.sub_nilvec (tok sz ty:Nat):(AV.p (.val (.slice none 0 0))).sub (.vec tok sz ty []):=by
 intro w g v h
 cases h with
 | p h=>cases h; exact .vecn _ _ _
structure AS.le (s t:AS):Prop where
 sl:∀ j x,look t.sl j=some x->(s.get j).sub x
 ob:∀ id cs,look t.ob id=some cs->∃ ds,look s.ob id=some ds/\cs.length<=ds.length/\∀ (i:Nat) c d,cs[i]? = some c->ds[i]? = some d->d.sub c
theorem St.weaken {n:Nat}{w0:Base}{w:World}{F:Nat->Prop}{g:Gh}{s t:AS}{a:Act}(h:St n w0 F g s a w)(hle:s.le t):St n w0 F g t a w:=by
 refine { h with sl:=λ i=>?_,ob:=λ id cs hc=>?_ }
 ·unfold AS.get
  cases ht:look t.sl i with
  | none=>exact .undef _
  | some x=>exact hle.sl i x ht _ _ _ (h.sl i)
 ·obtain ⟨ds,h1,h2,h3⟩:=hle.ob id cs hc;obtain ⟨b,c,e,k1,k2,k3,k4,k5⟩:=h.ob id ds h1;refine ⟨b,c,e,k1,k2,by omega,k4,λ i x hx=>?_⟩
  have hi:i<ds.length:=by
   have:=(List.getElem?_eq_some_iff.1 hx).1; omega
  obtain ⟨v,hv,hr⟩:=k5 i ds[i] (List.getElem?_eq_getElem hi);exact ⟨v,hv,h3 i x _ hx (List.getElem?_eq_getElem hi) _ _ _ hr⟩
inductive TK where
 | bool|int (k:IntKind)|string|ptr (e:Nat)|slice (e:Nat)|array (len e:Nat)|struct (fs:List (Nat×Nat))|iface|map (k e:Nat)|other
def kindOf:TypeDesc->TK|.bool=>.bool|.int k=>.int k|.string=>.string|.pointer e=>.ptr e|.slice e=>.slice e|.array n e=>.array n e|.struct fs=>.struct (fs.toList.map λ f=>(f.offset,f.type))|.interface _=>.iface|.map k e=>.map k e|_=>.other
structure TI where
 k:TK
 size:Nat
 bytes:Nat
 zero:List Value
def tyOk (P:Program)(t:Nat)(i:TI):Prop :=(P.underlying t).map kindOf=some i.k/\(P.info? t).map (λ j=>(j.size,j.bytes,j.zero.map (·.cells.toList)))=some (i.size,i.bytes,some i.zero)
def cj (P:Program):List (Nat×TI)->Prop|[]=>True|(t,i)::r=>tyOk P t i/\cj P r
structure Cx where
 P:Program
 tt:List (Nat×TI)
 good:cj P tt
 n:Nat
 nl:Nat.ble n M1=true
 w0:Base
 F:Nat->Prop
def awp (C:Cx)(c:Code)(Q:Exit->AS->Prop)(s:AS):Prop :=∀ g a w,St C.n C.w0 C.F g s a w->c.wp C.P (λ e a' w'=>∃ g' s',St C.n C.w0 C.F g' s' a' w'/\Q e s') a w
def rwp (C:Cx)(ops:Array Oper)(l:List Nat)(K:AS->Prop)(s:AS):Prop :=∀ g a w,St C.n C.w0 C.F g s a w->wpOps C.P ops (λ e a' w'=>e=.normal/\∃ g' s',St C.n C.w0 C.F g' s' a' w'/\K s') l a w
def aO (C:Cx)(o:Oper)(K:AS->Prop)(s:AS):Prop :=∀ g a w,St C.n C.w0 C.F g s a w->o.wp C.P a w (λ a' w'=>∃ g' s',St C.n C.w0 C.F g' s' a' w'/\K s') (λ _ _ _=>False)
theorem iR {P:Program}{o:Oper}{a:Act}{next next':Act->World->Prop}{Q Q':Exit->Act->World->Prop}{r:Result Next}
  (hn:∀ a w,next a w->next' a w) (hq:∀ e a w,Q e a w->Q' e a w) (h:o.upon P a next Q r):o.upon P a next' Q' r:=by
 cases r with
 | halt x w=>
  cases x <;> simp only [Oper.upon] at h ⊢
  exact hq _ _ _ h
 | ok x w=>
  cases x <;> simp only [Oper.upon] at h ⊢
  case value v=>exact hn _ _ h
  case skip=>exact hn _ _ h
  case defer d=>exact hn _ _ h
  case enter f args=>
   refine h.mono λ e w' h=>?_
   cases e with
   | returned v=>exact hn _ _ h
   | panicked c=>exact hq _ _ _ h
   | outgrown=>obtain ⟨a0,w1,h⟩:=h; exact ⟨a0,w1,hq _ _ _ h⟩
  case row r args=>exact h.mono λ v w' h=>hn _ _ h
theorem aO.mono {C:Cx}{o:Oper}{K K':AS->Prop}{s:AS}(hk:∀ s,K s->K' s)(h:aO C o K s):aO C o K' s :=
 λ g a w hs=>iR (λ _ _ ⟨g',s',h1,h2⟩=>⟨g',s',h1,hk _ h2⟩) (λ _ _ _ h=>h) (h g a w hs)
def mc (K:AS->Prop)(Q:Exit->AS->Prop):Exit->AS->Prop|.normal,s=>K s|e,s=>Q e s
def gB (id:Nat)(Q:Exit->AS->Prop):Exit->AS->Prop|.exit id',s=>if id'=id then Q .normal s else Q (.exit id') s|e,s=>Q e s
theorem kU {C:Cx}{c:Code}{Q Q':Exit->AS->Prop}{s:AS}(hq:∀ e s,Q e s->Q' e s)(h:awp C c Q s):awp C c Q' s :=
 λ g a w hs=>wp_mono (h g a w hs) λ _ _ _ ⟨g',s',h1,h2⟩=>⟨g',s',h1,hq _ _ h2⟩
theorem cp {C:Cx}{x y:Code}{Q:Exit->AS->Prop}{s:AS}(h:awp C x (mc (awp C y Q) Q) s):awp C (.seq x y) Q s:=by
 intro g a w hs;refine wp_seq (wp_mono (h g a w hs) ?_);rintro e a' w' ⟨g',s',h1,h2⟩
 cases e with
 | normal=>exact h2 g' a' w' h1
 | exit id=>exact ⟨g',s',h1,h2⟩
 | goto l=>exact ⟨g',s',h1,h2⟩
 | ret=>exact ⟨g',s',h1,h2⟩
 | panic ch=>exact ⟨g',s',h1,h2⟩
 | outgrown=>exact ⟨g',s',h1,h2⟩
theorem xl {C:Cx}{id:Nat}{c:Code}{Q:Exit->AS->Prop}{s:AS}(h:awp C c (gB id Q) s):awp C (.block id c) Q s:=by
 intro g a w hs;refine wp_block (wp_mono (h g a w hs) ?_);rintro e a' w' ⟨g',s',h1,h2⟩
 cases e with
 | exit id'=>
  simp only [gB] at h2;simp only [Exit.inBlock];split
  ·rename_i e; rw [if_pos e] at h2; exact ⟨g',s',h1,h2⟩
  ·rename_i e; rw [if_neg e] at h2; exact ⟨g',s',h1,h2⟩
 | normal=>exact ⟨g',s',h1,h2⟩
 | goto l=>exact ⟨g',s',h1,h2⟩
 | ret=>exact ⟨g',s',h1,h2⟩
 | panic ch=>exact ⟨g',s',h1,h2⟩
 | outgrown=>exact ⟨g',s',h1,h2⟩
theorem jP {C:Cx}{Q:Exit->AS->Prop}{s:AS}(h:Q .normal s):awp C .skip Q s :=
 λ g a w hs=>wp_skip ⟨g,s,hs,h⟩
theorem wT {C:Cx}{l:Nat}{Q:Exit->AS->Prop}{s:AS}(h:Q .normal s):awp C (.label l) Q s :=
 λ g a w hs=>wp_label ⟨g,s,hs,h⟩
theorem y6 {C:Cx}{id:Nat}{Q:Exit->AS->Prop}{s:AS}(h:Q (.exit id) s):awp C (.exit id) Q s :=
 λ g a w hs=>wp_exit ⟨g,s,hs,h⟩
theorem gR {C:Cx}{Q:Exit->AS->Prop}{s:AS}(h:Q .ret s):awp C .ret Q s :=
 λ g a w hs=>wp_ret ⟨g,s,hs,h⟩
def cst:Value->PV|.agg vs=>.agg (vs.toList.map .val)|v=>.val v
def AS.ev (s:AS):Operand->AV|.tmp t=>s.get t|.const v=>.p (cst v)|.global g=>((j3 g).map .rptr).getD .undef|.func f=>.func (.func f) []
theorem zM (w:World)(st:Nat->Nat->Prop)(v:Value):PRep w st (cst v) v:=by
 unfold cst;split
 ·rename_i vs;refine .agg G λ i c v h1 h2=>?_;simp only [List.getElem?_map,Array.getElem?_toList,h2,Option.map_some,aq] at h1;subst h1;exact .val _
 ·exact .val _
theorem yB {n:Nat}{w0:Base}{w:World}{F:Nat->Prop}{g:Gh}{s:AS}{a:Act}(h:St n w0 F g s a w)(x:Operand):ARep w g (s.ev x) (a.eval x):=by
 cases x with
 | tmp t=>exact h.sl t
 | const v=>exact .p (zM _ _ _)
 | global q=>
  simp only [AS.ev]
  cases h2:j3 q with
  | none=>exact .undef _
  | some cs=>
   have hg:=w0.gl.mono h.ev0;refine .rptr (λ j=>(w.cell? ⟨q,j,none⟩).getD Go.undef) (λ j c hc=>?_) (λ j c hc=>?_)
   ·obtain ⟨k1,v,k2,k3⟩:=(hg q cs h2).1 j c hc;rw [rd,k2]; exact ⟨k1,rfl⟩
   ·obtain ⟨k1,v,k2,k3⟩:=(hg q cs h2).1 j c hc;rw [k2]; exact k3
 | func f=>exact .func Z (λ i c v h=>by simp at h)
theorem oB {w:World}{g:Gh}{x v:Value}(h:ARep w g (.p (.val x)) v):v=x:=by
 cases h with
 | p h=>cases h; rfl
theorem Bg {n:Nat}{w0:Base}{w:World}{F:Nat->Prop}{g:Gh}{s:AS}{a:Act}(h:St n w0 F g s a w){x:Operand}{v:Value}(hx:s.ev x=.p (.val v)):a.eval x=v:=by
 have:=yB h x;rw [hx] at this;exact oB this
theorem p9 {C:Cx}{c:Operand}{x y:Code}{Q:Exit->AS->Prop}{s:AS}{b:Bool}(hc:s.ev c=.p (.val (.bool b)))
  (h1:b=true->awp C x Q s) (h2:b=false->awp C y Q s):awp C (.cond c x y) Q s:=by
 intro g a w hs;have he:=Bg hs hc
 cases b
 ·exact wp_cond_false he (h2 Z g a w hs)
 ·exact wp_cond_true he (h1 Z g a w hs)
theorem xT {C:Cx}{c:Operand}{x y:Code}{Q:Exit->AS->Prop}{s:AS}{b:Bool}(hc:s.ev c=.p (.val (.bool b)))(hb:b=true)
  (h1:awp C x Q s):awp C (.cond c x y) Q s:=p9 hc (λ _=>h1) (λ h=>by rw [hb] at h; cases h)
theorem w7 {C:Cx}{c:Operand}{x y:Code}{Q:Exit->AS->Prop}{s:AS}{b:Bool}(hc:s.ev c=.p (.val (.bool b)))(hb:b=false)
  (h1:awp C y Q s):awp C (.cond c x y) Q s:=p9 hc (λ h=>by rw [hb] at h; cases h) (λ _=>h1)
theorem uC {C:Cx}{id:Nat}{ops:Array Oper}{Q:Exit->AS->Prop}{s:AS}{l:List Nat}(hl:List.range ops.size=l)
  (h:rwp C ops l (Q .normal) s):awp C (.region id ops false) Q s:=by
 intro g a w hs;refine wp_region ?_;rw [hl];have:=h g a w hs
 have mono:∀ (l:List Nat) (a:Act) (w:World) (Q1 Q2:Exit->Act->World->Prop),(∀ e a w,Q1 e a w->Q2 e a w)->wpOps C.P ops Q1 l a w->wpOps C.P ops Q2 l a w:=by
  intro l
  induction l with
  | nil=>intro a w Q1 Q2 h12 h; exact h12 _ _ _ h
  | cons i r ih=>
   intro a w Q1 Q2 h12 h;simp only [wpOps] at h ⊢
   cases ho:ops[i]? with
   | none=>simp only [ho] at h; exact ih _ _ _ _ h12 h
   | some o=>
    simp only [ho] at h;dsimp only;split
    ·rename_i hw;rw [if_pos hw] at h;rcases h with h|⟨h,a0,w1,hq⟩
     ·exact .inl (iR (λ a w h=>ih a w _ _ h12 h) h12 h)
     ·exact .inr ⟨h,a0,w1,h12 _ _ _ hq⟩
    ·rename_i hw;rw [if_neg hw] at h;exact ih _ _ _ _ h12 h
 refine mono _ _ _ _ _ ?_ this;rintro e a' w' ⟨rfl,g',s',h1,h2⟩;exact ⟨g',s',h1,h2⟩
theorem mn {C:Cx}{ops:Array Oper}{K:AS->Prop}{s:AS}(h:K s):rwp C ops [] K s :=
 λ g a w hs=>⟨Z,g,s,hs,h⟩
theorem xX {C:Cx}{ops:Array Oper}{K:AS->Prop}{s:AS}{i:Nat}{r:List Nat}{o:Oper}(ho:ops[i]? = some o)(hg:o.guard=none)
  (h:aO C o (rwp C ops r K) s):rwp C ops (i::r) K s:=by
 intro g a w hs;simp only [wpOps,ho,Region.wanted,hg,if_true];exact .inl (iR (λ a' w' ⟨g',s',h1,h2⟩=>h2 g' a' w' h1) (λ _ _ _ h=>h.elim) (h g a w hs))
theorem pJ {n:Nat}{w0:Base}{w:World}{F:Nat->Prop}{g:Gh}{s:AS}{a:Act}(hs:St n w0 F g s a w){ops:Array Oper}{j t:Nat}(hj:(ops[j]?).bind (·.dst)=some t)
  {b:Bool} (hv:s.get t=.p (.val (.bool b))):yielded ops a.tmps j=some b:=by
 have h1:=hs.sl t;rw [hv] at h1;have h2:=oB h1;simp only [yielded,hj,Option.bind_some];rw [Array.getD_eq_getD_getElem?] at h2
 cases h3:a.tmps[t]? with
 | none=>rw [h3] at h2; simp [Go.undef] at h2
 | some v=>rw [h3] at h2; simp only [rg] at h2; subst h2; rfl
theorem qW {C:Cx}{ops:Array Oper}{K:AS->Prop}{s:AS}{i:Nat}{r:List Nat}{o:Oper}{j:Nat}{want:Bool}{t:Nat}{b:Bool}(ho:ops[i]? = some o)(hg:o.guard=some (j,want))
  (hj:(ops[j]?).bind (·.dst)=some t) (hv:s.get t=.p (.val (.bool b))) (hd:∀ t,o.dst=some t->t<C.n)
  (h1:b=want->aO C o (rwp C ops r K) s) (h2:b=!want->rwp C ops r K (s.put o.dst (.p (.val Go.undef)))):rwp C ops (i::r) K s:=by
 intro g a w hs;have hy:=pJ hs hj hv;simp only [wpOps,ho,Region.wanted,hg,hy];by_cases e:b=want
 ·subst e;simp only [BEq.rfl,if_true];exact .inl (iR (λ a' w' ⟨g',s',h1,h2⟩=>h2 g' a' w' h1) (λ _ _ _ h=>h.elim) (h1 rfl g a w hs))
 ·have e2:b=!want:=by
   cases b <;> cases want <;> first|rfl|exact absurd rfl e
  have e3:(some b==some want)=false:=by
   cases b <;> cases want <;> first|rfl|exact absurd rfl e
  rw [e3];simp only [Bool.false_eq_true,if_false];exact h2 e2 g _ w (hs.put hd (.p (.val _)))
theorem lI {C:Cx}{ops:Array Oper}{K:AS->Prop}{s:AS}{i:Nat}{r:List Nat}{o:Oper}{j:Nat}{want:Bool}{t:Nat}{b:Bool}(ho:ops[i]? = some o)(hg:o.guard=some (j,want))
  (hj:(ops[j]?).bind (·.dst)=some t) (hv:s.get t=.p (.val (.bool b))) (hb:b=want)
  (h1:aO C o (rwp C ops r K) s):rwp C ops (i::r) K s:=by
 intro g a w hs;have hy:=pJ hs hj hv;simp only [wpOps,ho,Region.wanted,hg,hy];subst hb;simp only [BEq.rfl,if_true];exact .inl (iR (λ a' w' ⟨g',s',h1,h2⟩=>h2 g' a' w' h1) (λ _ _ _ h=>h.elim) (h1 g a w hs))
theorem rD {C:Cx}{ops:Array Oper}{K:AS->Prop}{s:AS}{i:Nat}{r:List Nat}{o:Oper}{j:Nat}{want:Bool}{t:Nat}{b:Bool}(ho:ops[i]? = some o)(hg:o.guard=some (j,want))
  (hj:(ops[j]?).bind (·.dst)=some t) (hv:s.get t=.p (.val (.bool b))) (hb:b=!want) (hd:∀ t,o.dst=some t->t<C.n)
  (h2:rwp C ops r K (s.put o.dst (.p (.val Go.undef)))):rwp C ops (i::r) K s :=
 qW ho hg hj hv hd (λ e=>by subst e; cases b <;> simp at hb) (λ _=>h2)
theorem kP {C:Cx}{ops:Array Oper}{K:AS->Prop}{s:AS}{i:Nat}{r:List Nat}{o:Oper}{j:Nat}{want:Bool}{t:Nat}(ho:ops[i]? = some o)(hg:o.guard=some (j,want))
  (hj:(ops[j]?).bind (·.dst)=some t) (hv:s.get t=.p (.val Go.undef)) (hd:∀ t,o.dst=some t->t<C.n)
  (h2:rwp C ops r K (s.put o.dst (.p (.val Go.undef)))):rwp C ops (i::r) K s:=by
 intro g a w hs;have h1:=hs.sl t;rw [hv] at h1;have h3:=oB h1
 have hy:yielded ops a.tmps j=none:=by
  simp only [yielded,hj,Option.bind_some];rw [Array.getD_eq_getD_getElem?] at h3
  cases h4:a.tmps[t]? with
  | none=>rfl
  | some v=>rw [h4] at h3; simp only [rg] at h3; subst h3; rfl
 simp only [wpOps,ho,Region.wanted,hg,hy];rw [if_neg G];exact h2 g _ w (hs.put hd (.p (.val _)))
def ea (C:Cx)(ops:Array Oper)(rest:List Oper)(K:AS->Prop)(s:AS):Prop :=∀ k,ops.toList.drop k=rest->rwp C ops (List.range' k rest.length) K s
theorem dp {C:Cx}{id:Nat}{ops:Array Oper}{Q:Exit->AS->Prop}{s:AS}(h:ea C ops ops.toList (Q .normal) s):awp C (.region id ops false) Q s:=by
 refine uC (l:=List.range' 0 ops.toList.length) ?_ (h 0 Z);rw [List.range_eq_range',ur]
theorem cr {C:Cx}{ops:Array Oper}{K:AS->Prop}{s:AS}(h:K s):ea C ops [] K s :=
 λ _ _=>mn h
theorem drop_at {ops:Array Oper}{k:Nat}{o:Oper}{r:List Oper}(h:ops.toList.drop k=o::r):ops[k]? = some o/\ops.toList.drop (k+1)=r:=by
 constructor
 ·have:=congrArg List.head? h;simpa [List.head?_drop] using this
 ·have:=congrArg List.tail h;simpa [List.tail_drop] using this
theorem bv {C:Cx}{ops:Array Oper}{K:AS->Prop}{s:AS}{r:List Oper}{o:Oper}(hg:o.guard=none)
  (h:aO C o (ea C ops r K) s):ea C ops (o::r) K s:=by
 intro k hk;obtain ⟨h1,h2⟩:=drop_at hk;rw [d4,List.range'_succ];exact xX h1 hg (h.mono λ s h=>h (k+1) h2)
theorem uY {C:Cx}{ops:Array Oper}{K:AS->Prop}{s:AS}{r:List Oper}{o:Oper}{j:Nat}{want:Bool}{t:Nat}{b:Bool}(hg:o.guard=some (j,want))
  (hj:(ops.toList[j]?).bind (·.dst)=some t) (hv:look s.sl t=some (.p (.val (.bool b)))) {d:Nat} (hd:o.dst=some d) (hn:Nat.blt d C.n=true)
  (h1:b=want->aO C o (ea C ops r K) s) (h2:b=!want->ea C ops r K ⟨(d,.p (.val Go.undef))::s.sl,s.ob⟩):ea C ops (o::r) K s:=by
 intro k hk;obtain ⟨h3,h4⟩:=drop_at hk;rw [d4,List.range'_succ];refine qW h3 hg (t:=t) (b:=b) (by simpa using hj) (by simp [AS.get,hv]) (λ t ht=>by rw [hd] at ht; cases ht; exact mv ▸ hn) (λ e=>(h1 e).mono λ s h=>h (k+1) h4) (λ e=>?_);have:=h2 e (k+1) h4;rw [hd];exact this
theorem pG {C:Cx}{ops:Array Oper}{K:AS->Prop}{s:AS}{r:List Oper}{o:Oper}{j:Nat}{want:Bool}{t:Nat}{b:Bool}(hg:o.guard=some (j,want))
  (hj:(ops.toList[j]?).bind (·.dst)=some t) (hv:look s.sl t=some (.p (.val (.bool b)))) (hb:b=want)
  (h1:aO C o (ea C ops r K) s):ea C ops (o::r) K s:=by
 intro k hk;obtain ⟨h3,h4⟩:=drop_at hk;rw [d4,List.range'_succ];exact lI h3 hg (t:=t) (b:=b) (by simpa using hj) (by simp [AS.get,hv]) hb (h1.mono λ s h=>h (k+1) h4)
theorem qe {C:Cx}{ops:Array Oper}{K:AS->Prop}{s:AS}{r:List Oper}{o:Oper}{j:Nat}{want:Bool}{t:Nat}{b:Bool}(hg:o.guard=some (j,want))
  (hj:(ops.toList[j]?).bind (·.dst)=some t) (hv:look s.sl t=some (.p (.val (.bool b)))) (hb:b=!want) {d:Nat} (hd:o.dst=some d) (hn:Nat.blt d C.n=true)
  (h2:ea C ops r K ⟨(d,.p (.val Go.undef))::s.sl,s.ob⟩):ea C ops (o::r) K s :=
 uY hg hj hv hd hn (λ e=>by subst e; cases b <;> simp at hb) (λ _=>h2)
theorem nX {C:Cx}{ops:Array Oper}{K:AS->Prop}{s:AS}{r:List Oper}{o:Oper}{j:Nat}{want:Bool}{t:Nat}(hg:o.guard=some (j,want))
  (hj:(ops.toList[j]?).bind (·.dst)=some t) (hv:look s.sl t=some (.p (.val Go.undef))) {d:Nat} (hd:o.dst=some d) (hn:Nat.blt d C.n=true)
  (h2:ea C ops r K ⟨(d,.p (.val Go.undef))::s.sl,s.ob⟩):ea C ops (o::r) K s:=by
 intro k hk;obtain ⟨h3,h4⟩:=drop_at hk;rw [d4,List.range'_succ];refine kP h3 hg (t:=t) (by simpa using hj) (by simp [AS.get,hv]) (λ t ht=>by rw [hd] at ht; cases ht; exact mv ▸ hn) ?_;have:=h2 (k+1) h4;rw [hd];exact this
structure After (w:World)(st:Nat->Nat->Prop)(w':World)(g':Gh):Prop where
 os:w'.os=w.os
 out:w'.output=w.output
 tape:w'.tape=w.tape
 size:w.heap.size<=w'.heap.size
 fr:∀ b,b<w.heap.size->w'.heap[b]? = w.heap[b]?
 own:∀ i b,g'.ow i=some b->w.heap.size<=b/\b<w'.heap.size
 inj:∀ i j b,g'.ow i=some b->g'.ow j=some b->i=j
 lt:∀ b o,g'.st b o->b<w'.heap.size
 stf:∀ b,b<w.heap.size->∀ o,g'.st b o↔st b o
def au (P:Program)(f:FuncId)(args:List PV)(R:AV->Prop):Prop :=∀ (w:World) (st:Nat->Nat->Prop) (vs:Array Value),Ok0 w st->vs.size=args.length -> (∀ (i:Nat) c v,args[i]? = some c->vs[i]? = some v->PRep w st c v) -> Calls P f vs w λ e w'=>∃ v r g',e=.returned v/\R r/\ARep w' g' r v/\After w st w' g'
theorem au.mono {P:Program}{f:FuncId}{args:List PV}{R R':AV->Prop}(h:au P f args R)(hr:∀ r,R r->R' r):au P f args R' :=
 λ w st vs h0 h1 h2=>(h w st vs h0 h1 h2).mono λ e w' ⟨v,r,g',h3,h4,h5,h6⟩=>⟨v,r,g',h3,hr _ h4,h5,h6⟩
theorem au.sub {P:Program}{f:FuncId}{args:List PV}{r r':AV}(h:au P f args (·=r))(hr:r.sub r'):au P f args (·=r') :=
 λ w st vs h0 h1 h2=>(h w st vs h0 h1 h2).mono λ e w' ⟨v,_,g',h3,h4,h5,h6⟩=>⟨v,r',g',h3,Z,hr _ _ _ (h4 ▸ h5),h6⟩
def si:List AV->AV|[x]=>x|l=>.tuple l
def ue (tmps:Array Value):ResultVar->Sem Value
 | .tmp t=>pure (tmps.getD t Go.undef)
 | .cell c t=>do loadVar t (<- asAddr (tmps.getD c Go.undef))
theorem uA (fn:Func)(tmps:Array Value):results fn tmps=(do let vs <- fn.results.mapM (ue tmps); pure (if h:vs.size=1 then vs[0] else .tuple vs)):=rfl
def pp (args:List PV):List (Nat×AV):=(args.zipIdx).map λ (x,i)=>(i,.p x)
theorem cj.at {P:Program}:∀ {tt:List (Nat×TI)},cj P tt->∀ {t:Nat} {i:TI},look tt t=some i->tyOk P t i
 | [],_,_,_,h=>by simp [look] at h
 | (u,j)::r,hg,t,i,h=>by
  rw [aJ] at h;split at h
  ·rename_i e; subst e; cases h; exact hg.1
  ·exact cj.at hg.2 h
theorem qz (args:List PV):∀ (k i:Nat),look ((args.zipIdx k).map λ (x,i)=>(i,AV.p x)) i=if k<=i then (args[i-k]?).map .p else none:=by
 induction args with
 | nil=>intro k i; simp [look]
 | cons x r ih=>
  intro k i;simp only [List.zipIdx_cons,cl,aJ,ih];by_cases e:k=i
  ·subst e; simp
  ·rw [if_neg e];by_cases h:k<=i
   ·rw [if_pos O,if_pos h];have:i-k=(i-(k+1))+1:=by omega
    rw [this]; simp
   ·rw [if_neg O,if_neg h]
def Bl:Value->Option PV|.slice none 0 0=>some (.val (.slice none 0 0))|.agg vs=>some (cst (.agg vs))|.bool b=>some (.val (.bool b))|.int k n=>some (.val (.int k n))|.string s=>some (.val (.string s))|.pointer none=>some (.val (.pointer none))|.nilFunc=>some (.val .nilFunc)|.nilIface=>some (.val .nilIface)|_=>none
def evo (sl:List (Nat×AV)):Operand->Option AV|.tmp t=>look sl t|.const v=>(Bl v).map .p|.func f=>some (.func (.func f) [])|.global g=>(j3 g).map .rptr
theorem wt {v:Value}{x:PV}(h:Bl v=some x):cst v=x:=by
 unfold Bl at h;split at h <;> first|(cases h; rfl)|(cases h)
theorem bg {n:Nat}{w0:Base}{w:World}{F:Nat->Prop}{g:Gh}{sl:List (Nat×AV)}{ob:List (Nat×List AV)}{a:Act}(h:St n w0 F g ⟨sl,ob⟩ a w){x:Operand}{y:AV}
  (hx:evo sl x=some y):ARep w g y (a.eval x):=by
 have h1:=yB h x
 cases x with
 | tmp t=>
  simp only [evo] at hx;simp only [AS.ev,AS.get,hx,rg] at h1;exact h1
 | const v=>
  simp only [evo,ld] at hx;obtain ⟨z,h2,rfl⟩:=hx;simp only [AS.ev,wt h2] at h1;exact h1
 | func f=>simp only [evo,aq] at hx; subst hx; exact h1
 | global q=>
  simp only [evo,ld] at hx;obtain ⟨cs,h2,rfl⟩:=hx;simp only [AS.ev,h2,Option.map_some,rg] at h1;exact h1
theorem bQ {n:Nat}{w0:Base}{w:World}{F:Nat->Prop}{g:Gh}{sl:List (Nat×AV)}{ob:List (Nat×List AV)}{a:Act}(h:St n w0 F g ⟨sl,ob⟩ a w){x:Operand}{v:Value}
  (hx:evo sl x=some (.p (.val v))):a.eval x=v:=oB (bg h hx)
def str (l:List UInt8):ByteArray:=⟨l.toArray⟩
theorem fk (l:List UInt8):(str l).size=l.length:=by simp [str,ByteArray.size]
theorem vB (l:List UInt8):(str l).toList=l:=ByteArray.toList_mk l
theorem vl (a b:List UInt8):str a++str b=str (a++b):=by
 simp [str,ByteArray.ext_iff]
theorem ug (l:List UInt8)(i j:Nat):(str l).extract i j=str ((l.take j).drop i):=by
 rw [ByteArray.ext_iff];simp only [str,ByteArray.data_extract];rw [List.extract_toArray,List.extract_eq_take_drop,List.take_drop];by_cases h:i<=j
 ·rw [Nat.add_sub_cancel' h]
 ·rw [List.drop_eq_nil_of_le (by simp; omega),List.drop_eq_nil_of_le (by simp; omega)]
theorem Ad (l:List UInt8)(i:Nat):(str l)[i]? = l[i]?:=by
 by_cases h:i<l.length
 ·have h2:i<(str l).size:=by rw [fk]; exact h
  rw [getElem?_pos (str l) i h2,List.getElem?_eq_getElem h]; rfl
 ·rw [getElem?_neg (str l) i (by rw [fk]; exact h),List.getElem?_eq_none O]
section
variable {C:Cx} {o:Oper} {K:AS->Prop} {sl:List (Nat×AV)} {ob:List (Nat×List AV)} {d:Nat}
theorem ok_one {y:AV}(hd:o.dst=some d)(hn:Nat.blt d C.n=true)
  (h:∀ g a w,St C.n C.w0 C.F g ⟨sl,ob⟩ a w->∃ v,(execOp a.eval o).run C.P w=.ok (.value v) w/\ARep w g y v)
  (hK:K ⟨(d,y)::sl,ob⟩):aO C o K ⟨sl,ob⟩:=by
 intro g a w hs;obtain ⟨v,h1,h2⟩:=h g a w hs;unfold Oper.wp;rw [h1];refine ⟨g,⟨(d,y)::sl,ob⟩,?_,hK⟩;have:=hs.put (d:=o.dst) (λ t ht=>by rw [hd] at ht; cases ht; exact mv ▸ hn) h2;rw [hd] at this ⊢;exact this
theorem aA {x:Operand}{y:AV}(ho:o.op=.move x)(hd:o.dst=some d)(hn:Nat.blt d C.n=true)(hx:evo sl x=some y)
  (hK:K ⟨(d,y)::sl,ob⟩):aO C o K ⟨sl,ob⟩ :=
 ok_one hd hn (λ g a w hs=>⟨a.eval x,by simp [execOp,ho],bg hs hx⟩) hK
theorem bq {x:Operand}{y:AV}(ho:o.op=.assign x)(hd:o.dst=some d)(hn:Nat.blt d C.n=true)(hx:evo sl x=some y)
  (hK:K ⟨(d,y)::sl,ob⟩):aO C o K ⟨sl,ob⟩ :=
 ok_one hd hn (λ g a w hs=>⟨a.eval x,by simp [execOp,ho],bg hs hx⟩) hK
theorem tj {x:Operand}(ho:o.op=.move x)(hd:o.dst=some d)(hn:Nat.blt d C.n=true)
  (hK:K ⟨(d,.undef)::sl,ob⟩):aO C o K ⟨sl,ob⟩ :=
 ok_one hd hn (λ g a w hs=>⟨a.eval x,by simp [execOp,ho],.undef _⟩) hK
theorem rM {c x y:Operand}{b:Bool}{z:AV}(ho:o.op=.pick c x y)(hd:o.dst=some d)(hn:Nat.blt d C.n=true)
  (hc:evo sl c=some (.p (.val (.bool b)))) (hb:b=true) (hx:evo sl x=some z) (hK:K ⟨(d,z)::sl,ob⟩):aO C o K ⟨sl,ob⟩ :=
 ok_one hd hn (λ g a w hs=>⟨a.eval x,by simp [execOp,ho,bQ hs hc,asBool,hb],bg hs hx⟩) hK
theorem qt {c x y:Operand}{b:Bool}{z:AV}(ho:o.op=.pick c x y)(hd:o.dst=some d)(hn:Nat.blt d C.n=true)
  (hc:evo sl c=some (.p (.val (.bool b)))) (hb:b=false) (hx:evo sl y=some z) (hK:K ⟨(d,z)::sl,ob⟩):aO C o K ⟨sl,ob⟩ :=
 ok_one hd hn (λ g a w hs=>⟨a.eval y,by simp [execOp,ho,bQ hs hc,asBool,hb],bg hs hx⟩) hK
def Ay:BinOp->Int->Int->Option Bool|.eql,a,b=>some (decide (a=b))|.neq,a,b=>some (!decide (a=b))|.lss,a,b=>some (decide (a<b))|.leq,a,b=>some (decide (a<=b))|.gtr,a,b=>some (decide (b<a))|.geq,a,b=>some (decide (b<=a))|_,_,_=>none
theorem jr {P:Program}{w:World}(op:BinOp)(t:TypeId)(x y:Operand)(k k':IntKind)(a b:Int) :
  (eqGuard op t x y (.int k a) (.int k' b)).run P w=.ok () w:=by
 unfold eqGuard; split <;> rfl
theorem xj {P:Program}{w:World}{op:BinOp}{t:TypeId}{k:IntKind}{a b:Int}{c:Bool}(h:Ay op a b=some c) :
  (binOp op t (.int k a) (.int k b)).run P w=.ok (.bool c) w:=by
 cases op <;> simp only [Ay,aq,reduceCtorEq] at h <;> subst h <;> simp [binOp,Op.intCmp] <;> rfl
theorem Bi {op:BinOp}{t t':TypeId}{x y:Operand}{k:IntKind}{a b:Int}{c:Bool}(ho:o.op=.binOp op t x y t')(hd:o.dst=some d)(hn:Nat.blt d C.n=true)
  (hx:evo sl x=some (.p (.val (.int k a)))) (hy:evo sl y=some (.p (.val (.int k b)))) (hc:Ay op a b=some c)
  (hK:K ⟨(d,.p (.val (.bool c)))::sl,ob⟩):aO C o K ⟨sl,ob⟩ :=
 ok_one hd hn (λ g a w hs=>⟨_,by
  simp only [execOp,ho,bQ hs hx,bQ hs hy,Sem.run_bind,jr,Result.andThen_ok,xj hc,Sem.run_pure],.p (.val _)⟩) hK
def arI:BinOp->Int->Int->Option Int|.add,a,b=>some (a+b)|.sub,a,b=>some (a-b)|.mul,a,b=>some (a*b)|_,_,_=>none
theorem zb {P:Program}{w:World}{op:BinOp}{t:TypeId}{k:IntKind}{a b c:Int}(h:arI op a b=some c) :
  (binOp op t (.int k a) (.int k b)).run P w=.ok (.int k (k.wrap c)) w:=by
 cases op <;> simp only [arI,aq,reduceCtorEq] at h <;> subst h <;> simp [binOp,Op.intArith]
theorem xV {op:BinOp}{t t':TypeId}{x y:Operand}{k:IntKind}{a b c:Int}(ho:o.op=.binOp op t x y t')(hd:o.dst=some d)(hn:Nat.blt d C.n=true)
  (hx:evo sl x=some (.p (.val (.int k a)))) (hy:evo sl y=some (.p (.val (.int k b)))) (hc:arI op a b=some c)
  (hK:K ⟨(d,.p (.val (.int k (k.wrap c))))::sl,ob⟩):aO C o K ⟨sl,ob⟩ :=
 ok_one hd hn (λ g a w hs=>⟨_,by
  simp only [execOp,ho,bQ hs hx,bQ hs hy,Sem.run_bind,jr,Result.andThen_ok,zb hc,Sem.run_pure],.p (.val _)⟩) hK
theorem pi {op:BinOp}{t t':TypeId}{x y:Operand}{a b c:Int}(ho:o.op=.binOp op t x y t')(hd:o.dst=some d)(hn:Nat.blt d C.n=true)
  (hx:evo sl x=some (.p (.val (.int .i64 a)))) (hy:evo sl y=some (.p (.val (.int .i64 b)))) (hc:arI op a b=some c)
  (hw:-9223372036854775808<=c/\c<=9223372036854775807)
  (hK:K ⟨(d,.p (.val (.int .i64 c)))::sl,ob⟩):aO C o K ⟨sl,ob⟩ :=
 xV ho hd hn hx hy hc (by rw [IntWalk.i64_in c hw]; exact hK)
theorem yO {t:TypeId}{x:Operand}{b:Bool}(ho:o.op=.unOp .not t x)(hd:o.dst=some d)(hn:Nat.blt d C.n=true)
  (hx:evo sl x=some (.p (.val (.bool b)))) (hK:K ⟨(d,.p (.val (.bool (!b))))::sl,ob⟩):aO C o K ⟨sl,ob⟩ :=
 ok_one hd hn (λ g a w hs=>⟨_,by simp [execOp,ho,bQ hs hx,Op.unary],.p (.val _)⟩) hK
theorem bc {P:Program}{tt:List (Nat×TI)}(good:cj P tt){t:Nat}{i:TI}(h:look tt t=some i):∃ u,P.underlying t=some u/\kindOf u=i.k:=by
 have:=(good.at h).1;simpa [ld] using this
theorem lk {u:TypeDesc}(h:kindOf u=.bool):u=.bool:=by cases u <;> simp [kindOf] at h; rfl
theorem iW {u:TypeDesc}{k:IntKind}(h:kindOf u=.int k):u=.int k:=by cases u <;> simp [kindOf] at h; subst h; rfl
theorem fx {u:TypeDesc}(h:kindOf u=.string):u=.string:=by cases u <;> simp [kindOf] at h; rfl
theorem aV {u:TypeDesc}{e:Nat}(h:kindOf u=.slice e):u=.slice e:=by cases u <;> simp [kindOf] at h; subst h; rfl
theorem eu {u:TypeDesc}{fs:List (Nat×Nat)}(h:kindOf u=.struct fs):∃ f,u=.struct f/\f.toList.map (λ f=>(f.offset,f.type))=fs:=by
 cases u <;> simp [kindOf] at h; exact ⟨_,rfl,h⟩
theorem dv {st dt:TypeId}{x:Operand}{k k':IntKind}{a:Int}{i j:TI}(ho:o.op=.convert st dt x)(hd:o.dst=some d)(hn:Nat.blt d C.n=true)
  (hi:look C.tt st=some i) (CR:i.k=.int k') (hj:look C.tt dt=some j) (hjk:j.k=.int k) (hx:evo sl x=some (.p (.val (.int k' a)))) (hw:k.wrap a=a)
  (hK:K ⟨(d,.p (.val (.int k a)))::sl,ob⟩):aO C o K ⟨sl,ob⟩:=by
 obtain ⟨u,h1,h2⟩:=bc C.good hj;have h3:=iW (h2.trans hjk);obtain ⟨u',h1',h2'⟩:=bc C.good hi;have h3':=iW (h2'.trans CR);subst h3 h3';exact ok_one hd hn (λ g b w hs=>⟨_,by simp [execOp,ho,bQ hs hx,convert,run_underlying h1,run_underlying h1',Conv.intToInt,hw],.p (.val _)⟩) hK
theorem nL {P:Program}{w:World}(op:BinOp)(t:TypeId)(x y:Operand)(a b:ByteArray) :
  (eqGuard op t x y (.string a) (.string b)).run P w=.ok () w:=by
 unfold eqGuard; split <;> rfl
theorem rl {t t':TypeId}{x y:Operand}{a b:List UInt8}(ho:o.op=.binOp .add t x y t')(hd:o.dst=some d)(hn:Nat.blt d C.n=true)
  (hx:evo sl x=some (.p (.val (.string (str a))))) (hy:evo sl y=some (.p (.val (.string (str b))))) (hw:a.length+b.length<=9223372036854775807)
  (hK:K ⟨(d,.p (.val (.string (str (a++b)))))::sl,ob⟩):aO C o K ⟨sl,ob⟩ :=
 ok_one hd hn (λ g c w hs=>⟨_,by
  have:¬ (((str a).size+(str b).size:Nat):Int) > IntKind.i64.max:=by
   rw [fk,fk]; simp only [IntKind.max,IntKind.bits,IntKind.signed]; simp; omega
  simp only [execOp,ho,bQ hs hx,bQ hs hy,Sem.run_bind,nL,Result.andThen_ok,binOp,Op.stringOp,if_neg this,Sem.run_pure,vl],.p (.val _)⟩) hK
def AH:BinOp->List UInt8->List UInt8->Option Bool|.eql,a,b=>some (decide (a=b))|.neq,a,b=>some (!decide (a=b))|.lss,a,b=>some (Op.bytesLess a b)|.leq,a,b=>some (Op.bytesLess a b||decide (a=b))|.gtr,a,b=>some (!(Op.bytesLess a b||decide (a=b)))|.geq,a,b=>some (!Op.bytesLess a b)|_,_,_=>none
theorem xC {P:Program}{w:World}{op:BinOp}{t:TypeId}{a b:List UInt8}{c:Bool}(h:AH op a b=some c) :
  (binOp op t (.string (str a)) (.string (str b))).run P w=.ok (.bool c) w:=by
 have e:(a==b)=decide (a=b):=by rw [Bool.eq_iff_iff]; simp
 cases op <;> simp only [AH,aq,reduceCtorEq] at h <;> subst h <;> simp only [binOp,Op.stringOp,vB,Sem.run_pure,e]
theorem lw {op:BinOp}{t t':TypeId}{x y:Operand}{a b:List UInt8}{c:Bool}(ho:o.op=.binOp op t x y t')(hd:o.dst=some d)(hn:Nat.blt d C.n=true)
  (hx:evo sl x=some (.p (.val (.string (str a))))) (hy:evo sl y=some (.p (.val (.string (str b))))) (hc:AH op a b=some c)
  (hK:K ⟨(d,.p (.val (.bool c)))::sl,ob⟩):aO C o K ⟨sl,ob⟩ :=
 ok_one hd hn (λ g a w hs=>⟨_,by
  simp only [execOp,ho,bQ hs hx,bQ hs hy,Sem.run_bind,nL,Result.andThen_ok,xC hc,Sem.run_pure],.p (.val _)⟩) hK
theorem run_len_string {P:Program}{w:World}{t:TypeId}(h:P.underlying t=some .string)(ty:TypeId)(s:ByteArray) :
  (Builtin.len_ #[t] ty #[.string s]).run P w=.ok (.int .i64 s.size) w:=by
 simp [Builtin.len_,run_underlying h,goInt]
theorem cZ {P:Program}{w:World}{ρ:Operand->Value}{b:Builtin}{args:Array Operand}{ts:Array TypeId}(ho:o.op=.call { callee:=.builtin b,args:=args,argTypes:=ts }) :
  (execOp ρ o).run P w=(builtin b ts o.type (args.map λ|.const _=>true|_=>false) (args.map ρ)).run P w:=by
 simp [execOp,ho,resolve,invoke]
 rfl
theorem Al {t:TypeId}{x:Operand}{a:List UInt8}{i:TI}(ho:o.op=.call { callee:=.builtin .len,args:=#[x],argTypes:=#[t] })(hd:o.dst=some d)(hn:Nat.blt d C.n=true)
  (hi:look C.tt t=some i) (CR:i.k=.string) (hx:evo sl x=some (.p (.val (.string (str a)))))
  (hK:K ⟨(d,.p (.val (.int .i64 (a.length:Int))))::sl,ob⟩):aO C o K ⟨sl,ob⟩:=by
 obtain ⟨u,h1,h2⟩:=bc C.good hi;have h3:=fx (h2.trans CR);subst h3
 exact ok_one hd hn (λ g b w hs=>⟨_,by
  rw [cZ ho]
  simp [builtin,bQ hs hx,run_len_string h1,fk],.p (.val _)⟩) hK
theorem xK {t:TypeId}{x y:Operand}{a:List UInt8}{k:IntKind}{j:Int}{i:TI}(ho:o.op=.index t x y)(hd:o.dst=some d)(hn:Nat.blt d C.n=true)
  (hi:look C.tt t=some i) (CR:i.k=.string) (hx:evo sl x=some (.p (.val (.string (str a))))) (hy:evo sl y=some (.p (.val (.int k j))))
  (hj:0<=j/\j<a.length)
  (hK:K ⟨(d,.p (.val (.int .u8 ((a.getD j.toNat 0).toNat:Int))))::sl,ob⟩):aO C o K ⟨sl,ob⟩:=by
 obtain ⟨u,h1,h2⟩:=bc C.good hi;have h3:=fx (h2.trans CR);subst h3;refine ok_one hd hn (λ g b w hs=>⟨_,?_,.p (.val _)⟩) hK;have hlt:j.toNat<a.length:=by omega
 have e:(str a)[j.toNat]? = some (a.getD j.toNat 0):=by
  rw [Ad,List.getD_eq_getElem?_getD,List.getElem?_eq_getElem hlt]; rfl
 simp [execOp,ho,bQ hs hx,bQ hs hy,Instr.index,asIntOf,run_underlying h1,hj.1,e]
def loI (sl:List (Nat×AV)):Option Operand->Option Int
 | none=>some 0
 | some x=>match evo sl x with|some (.p (.val (.int _ n)))=>some n|_=>none
def hiI (sl:List (Nat×AV))(len:Int):Option Operand->Option Int
 | none=>some len
 | some x=>match evo sl x with|some (.p (.val (.int _ n)))=>some n|_=>none
theorem yv {x:Operand}{n:Int}(h:loI sl (some x)=some n):∃ k,evo sl x=some (.p (.val (.int k n))):=by
 unfold loI at h; split at h
 ·rename_i e; cases e
 ·rename_i y e; simp only [aq] at e; subst e; split at h <;> first|(cases h; exact ⟨_,‹_›⟩)|(cases h)
theorem tw {x:Operand}{len n:Int}(h:hiI sl len (some x)=some n):∃ k,evo sl x=some (.p (.val (.int k n))):=by
 unfold hiI at h; split at h
 ·rename_i e; cases e
 ·rename_i y e; simp only [aq] at e; subst e; split at h <;> first|(cases h; exact ⟨_,‹_›⟩)|(cases h)
theorem run_sliceBound {P:Program}{w:World}(k:IntKind)(n:Int)(y:Nat)(c:BoundsCode)(h:0<=n/\n<=y) :
  (Instr.sliceBound (.int k n) y c).run P w=.ok n.toNat w:=by
 simp [Instr.sliceBound,asIntOf,h.1,h.2]
theorem j4 {P:Program}{g:Gh}{a:Act}{w:World}{w0:Base}{n:Nat}{F:Nat->Prop}(hs:St n w0 F g ⟨sl,ob⟩ a w)(isS:Bool)(len cap:Nat)(lo hi:Option Operand){l h:Int}
  (hl:loI sl lo=some l) (hh:hiI sl len hi=some h) (hb:0<=l/\l<=h/\h<=cap) (hlc:len<=cap) :
  (Instr.sliceBounds isS len cap (lo.map a.eval) (hi.map a.eval) none).run P w=.ok (l.toNat,h.toNat,cap) w:=by
 have e1:∀ (c:BoundsCode),(Instr.sliceBound (.int .i64 0) cap c).run P w=.ok 0 w:=λ c=>run_sliceBound _ _ _ _ O
 cases lo with
 | none=>
  simp only [loI,aq] at hl; subst hl
  cases hi with
  | none=>
   simp only [hiI,aq] at hh; subst hh;simp [Instr.sliceBounds]
  | some y=>
   obtain ⟨k,hy⟩:=tw hh;have:=run_sliceBound (P:=P) (w:=w) k h cap (if isS then .sliceAcap else .sliceAlen) ⟨by omega,hb.2.2⟩;simp [Instr.sliceBounds,bQ hs hy,this]
 | some x=>
  obtain ⟨k,hx⟩:=yv hl
  cases hi with
  | none=>
   simp only [hiI,aq] at hh; subst hh;have:=run_sliceBound (P:=P) (w:=w) k l len .sliceB ⟨hb.1,by omega⟩;simp [Instr.sliceBounds,bQ hs hx,this]
  | some y=>
   obtain ⟨k',hy⟩:=tw hh;have e2:=run_sliceBound (P:=P) (w:=w) k' h cap (if isS then .sliceAcap else .sliceAlen) ⟨by omega,hb.2.2⟩;have e3:=run_sliceBound (P:=P) (w:=w) k l h.toNat .sliceB ⟨hb.1,by omega⟩;simp [Instr.sliceBounds,bQ hs hx,bQ hs hy,e2,e3]
theorem xg {t:TypeId}{x:Operand}{lo hi:Option Operand}{a:List UInt8}{l h:Int}{i:TI}(ho:o.op=.slice t x lo hi none)(hd:o.dst=some d)(hn:Nat.blt d C.n=true)
  (hi':look C.tt t=some i) (CR:i.k=.string) (hx:evo sl x=some (.p (.val (.string (str a))))) (hlo:loI sl lo=some l) (hhi:hiI sl (a.length:Int) hi=some h)
  (hb:0<=l/\l<=h/\h<=a.length)
  (hK:K ⟨(d,.p (.val (.string (str ((a.take h.toNat).drop l.toNat)))))::sl,ob⟩):aO C o K ⟨sl,ob⟩:=by
 obtain ⟨u,h1,h2⟩:=bc C.good hi';have h3:=fx (h2.trans CR);subst h3;refine ok_one hd hn (λ g b w hs=>⟨_,?_,.p (.val _)⟩) hK;have e:=j4 (P:=C.P) hs false (str a).size (str a).size lo hi hlo (by rw [fk]; exact hhi) (by rw [fk]; exact hb) (bt _);simp [execOp,ho,bQ hs hx,Instr.sliceAt,Instr.slice,run_underlying h1,e,ug]
theorem aF {x:Operand}{k:Nat}{l:List AV}{y:AV}(ho:o.op=.extract x k)(hd:o.dst=some d)(hn:Nat.blt d C.n=true)
  (hx:evo sl x=some (.tuple l)) (hk:l[k]? = some y) (hK:K ⟨(d,y)::sl,ob⟩):aO C o K ⟨sl,ob⟩:=by
 refine ok_one hd hn (λ g b w hs=>?_) hK;have h1:=bg hs hx;generalize hv:b.eval x=v at h1
 cases h1 with
 | tuple hl h=>
  rename_i vs;have hlt:k<vs.size:=by rw [hl]; exact (List.getElem?_eq_some_iff.1 hk).1
  exact ⟨vs[k],by simp [execOp,ho,hv,Instr.extract,hlt],h k y _ hk (Array.getElem?_eq_getElem hlt)⟩
end
theorem Ae {p:Prop} [Decidable p] (h:¬p):(!decide p)=true:=by simp [h]
theorem x6 {p:Prop} [Decidable p] (h:p):(!decide p)=false:=by simp [h]
theorem ut {s:AS}{x:Operand}{y:AV}(h:evo s.sl x=some y):s.ev x=y:=by
 cases x with
 | tmp t=>simp only [evo] at h; simp only [AS.ev,AS.get,h,rg]
 | const v=>
  simp only [evo,ld] at h;obtain ⟨z,h2,rfl⟩:=h;simp only [AS.ev,wt h2]
 | func f=>simp only [evo,aq] at h; exact h
 | global g=>
  simp only [evo,ld] at h;obtain ⟨cs,h2,rfl⟩:=h;simp only [AS.ev,h2,Option.map_some,rg]
section
variable {C:Cx} {c:Operand} {x y:Code} {Q:Exit->AS->Prop} {s:AS}
theorem sZ {b:Bool}(hc:evo s.sl c=some (.p (.val (.bool b))))(h1:b=true->awp C x Q s)(h2:b=false->awp C y Q s):awp C (.cond c x y) Q s :=
 p9 (ut hc) h1 h2
end
def leL (s:List (Nat×AV)):List (Nat×AV)->Prop|[]=>True|(j,x)::r=>(∃ y,look s j=some y/\y.sub x)/\leL s r
theorem sU {s:List (Nat×AV)}:∀ {t:List (Nat×AV)},leL s t->∀ j x,look t j=some x->∃ y,look s j=some y/\y.sub x
 | [],_,_,_,h=>by simp [look] at h
 | (k,z)::r,hl,j,x,h=>by
  rw [aJ] at h;split at h
  ·rename_i e; subst e; cases h; exact hl.1
  ·exact sU hl.2 j x h
def vd:List AV->List AV->Prop|[],_=>True|_::_,[]=>False|x::r,y::q=>y.sub x/\vd r q
theorem gw:∀ {cs ds:List AV},vd cs ds->cs.length<=ds.length/\∀ (i:Nat) c d,cs[i]? = some c->ds[i]? = some d->d.sub c
 | [],ds,_=>⟨Nat.zero_le _,λ i c d h=>by simp at h⟩
 | _::_,[],h=>h.elim
 | x::r,y::q,h=>by
  obtain ⟨h1,h2⟩:=gw h.2;refine ⟨by simpa using h1,λ i c d hc hd=>?_⟩
  cases i with
  | zero=>simp only [List.getElem?_cons_zero,aq] at hc hd; subst hc hd; exact h.1
  | succ i=>simp only [List.getElem?_cons_succ] at hc hd; exact h2 i c d hc hd
def leO (s:List (Nat×List AV)):List (Nat×List AV)->Prop|[]=>True|(j,cs)::r=>(∃ ds,look s j=some ds/\vd cs ds)/\leO s r
theorem p6 {s:List (Nat×List AV)}:∀ {t:List (Nat×List AV)},leO s t->∀ j x,look t j=some x->∃ y,look s j=some y/\vd x y
 | [],_,_,_,h=>by simp [look] at h
 | (k,z)::r,hl,j,x,h=>by
  rw [aJ] at h;split at h
  ·rename_i e; subst e; cases h; exact hl.1
  ·exact p6 hl.2 j x h
theorem fS {s t:AS}(h:leL s.sl t.sl)(ho:leO s.ob t.ob):s.le t:=by
 refine ⟨λ j x hx=>?_,λ id cs hc=>?_⟩
 ·obtain ⟨y,h1,h2⟩:=sU h j x hx;simp only [AS.get,h1,rg]; exact h2
 ·obtain ⟨ds,h1,h2⟩:=p6 ho id cs hc;exact ⟨ds,h1,(gw h2).1,(gw h2).2⟩
theorem uj {a b:Bool}(h:a=b):(AV.p (.val (.bool a))).sub (.p (.val (.bool b))):=AV.sub_of_eq (by rw [h])
theorem ep {α β:Type}(f:α->β):∀ (l:List (Nat×α)) (i:Nat),look (l.map λ p=>(p.1,f p.2)) i=(look l i).map f
 | [],_=>rfl
 | (j,v)::r,i=>by
  simp only [cl,aJ,ep f r i];split <;> rfl
theorem fq {α:Type}(D:Nat->Bool):∀ (l:List (Nat×α)) (i:Nat),look (l.filter λ p=>!D p.1) i=if D i then none else look l i
 | [],i=>by simp [look]
 | (j,v)::r,i=>by
  simp only [List.filter_cons,aJ]
  cases hD:D j
  ·simp only [Bool.not_false,if_true,aJ,fq D r i];by_cases e:j=i
   ·subst e; simp [hD]
   ·simp [e]
  ·simp only [Bool.not_true,Bool.false_eq_true,if_false,fq D r i];by_cases e:j=i
   ·subst e; simp [hD]
   ·simp [e]
def bV (D:Nat->Bool)(s:AS):AS :=⟨s.sl.map λ p=>(p.1,p.2.dem D),(s.ob.filter λ p=>!D p.1).map λ p=>(p.1,gW D p.2)⟩
theorem St.evolve {n:Nat}{w0:Base}{w w':World}{F:Nat->Prop}{g g':Gh}{s:AS}{a:Act}(hs:St n w0 F g s a w)(D:Nat->Bool)(hDl:∀ i,D i=true->i<M1)(CL:Ev w g.st w' g'.st)
  (how:∀ id b,D id=false->g.ow id=some b->g'.ow id=some b/\w'.heap[b]? = w.heap[b]?/\∀ o,g'.st b o->g.st b o)
  (hinj:∀ i j b,g'.ow i=some b->g'.ow j=some b->i=j) (hown:∀ i b,g'.ow i=some b->b<w'.heap.size/\¬ F b)
  (hlt:∀ b o,g'.st b o->b<w'.heap.size) (hfr:∀ b,F b->w'.heap[b]? = w.heap[b]?)
  (hos:w'.os=w.os) (hout:w'.output=w.output) (htape:w'.tape=w.tape) (hsize:w.heap.size<=w'.heap.size) (hstf:∀ b,F b->∀ o,g'.st b o↔g.st b o) (howf:∀ i,M1<=i->g'.ow i=g.ow i):St n w0 F g' (bV D s) a w':=by
 have hDf:∀ i,M1<=i->D i=false:=λ i hi=>by
  cases hq:D i
  ·rfl
  ·have:=hDl i hq; omega
 have hE:EvO D w g w' g':=⟨CL,λ id b hD h=>(how id b hD h).1,λ id b c e hD h hb=>⟨c,(how id b hD h).2.1.trans hb,Z⟩,λ id b o hD h=>(how id b hD h).2.2 o,λ id b es k hD h hb=>(how id b hD h).2.1.trans hb,λ i hi=>hDf i (nN hi),λ id b o hD h _=>(how id b hD h).2.1⟩
 refine ⟨hs.nd,hs.sz,λ i=>?_,λ id cs hc=>?_,hinj,hown,hlt,hs.fl,λ b hb=>(hfr b hb).trans (hs.fr b hb),hos.trans hs.os,hout.trans hs.out,htape.trans hs.tape,Nat.le_trans hs.size hsize,λ b hb o=>(hstf b hb o).trans (hs.stf b hb o),λ i hi hz=>(howf i hi).trans (hs.owf i hi hz),hs.shf.next (λ i b c e hi hb h=>⟨c,(how i b (hDf i hi) ((hs.owf i hi (w0.lo i b hb)).trans hb)).2.1.trans h,Z⟩),λ i b hi hb o h=>hs.nst i b hi hb o ((how i b (hDf i hi) ((hs.owf i hi (w0.lo i b hb)).trans hb)).2.2 o h),hs.ev0.trans CL⟩
 ·have h:=(hs.sl i).dem hE;simp only [AS.get,bV,ep];simp only [AS.get] at h
  cases hl:look s.sl i with
  | none=>simp only [Option.map_none,Option.getD_none]; exact .undef _
  | some x=>rw [hl] at h; simpa using h
 ·simp only [bV,ep,fq] at hc;by_cases hD:D id=true
  ·simp [hD] at hc
  ·have hD':D id=false:=by simpa using hD
   simp only [hD',Bool.false_eq_true,if_false,ld] at hc;obtain ⟨ds,h1,rfl⟩:=hc;obtain ⟨b,c,e,k1,k2,k3,k4,k5⟩:=hs.ob id ds h1;obtain ⟨m1,m2,m3⟩:=how id b hD' k1;refine ⟨b,c,e,m1,m2.trans k2,by simpa [eZ] using k3,λ o h=>k4 o (m3 o h),λ i x hx=>?_⟩;simp only [eZ,List.getElem?_map,ld] at hx;obtain ⟨y,hy,rfl⟩:=hx;obtain ⟨v,hv,hr⟩:=k5 i y hy;exact ⟨v,hv,hr.dem hE⟩
theorem St.evolve0 {n:Nat}{w0:Base}{w w':World}{F:Nat->Prop}{g g':Gh}{s:AS}{a:Act}(hs:St n w0 F g s a w)(CL:Ev w g.st w' g'.st)
  (how:∀ id b,g.ow id=some b->g'.ow id=some b/\w'.heap[b]? = w.heap[b]?/\∀ o,g'.st b o->g.st b o)
  (hinj:∀ i j b,g'.ow i=some b->g'.ow j=some b->i=j) (hown:∀ i b,g'.ow i=some b->b<w'.heap.size/\¬ F b)
  (hlt:∀ b o,g'.st b o->b<w'.heap.size) (hfr:∀ b,F b->w'.heap[b]? = w.heap[b]?)
  (hos:w'.os=w.os) (hout:w'.output=w.output) (htape:w'.tape=w.tape) (hsize:w.heap.size<=w'.heap.size) (hstf:∀ b,F b->∀ o,g'.st b o↔g.st b o) (howf:∀ i,M1<=i->g'.ow i=g.ow i):St n w0 F g' s a w':=by
 have hE:EvO (λ _=>false) w g w' g':=⟨CL,λ id b _ h=>(how id b h).1,λ id b c e _ h hb=>⟨c,(how id b h).2.1.trans hb,Z⟩,λ id b o _ h=>(how id b h).2.2 o,λ id b es k _ h hb=>(how id b h).2.1.trans hb,λ _ _=>rfl,λ id b o _ h _=>(how id b h).2.1⟩
 refine ⟨hs.nd,hs.sz,λ i=>(hs.sl i).mono hE,λ id cs hc=>?_,hinj,hown,hlt,hs.fl,λ b hb=>(hfr b hb).trans (hs.fr b hb),hos.trans hs.os,hout.trans hs.out,htape.trans hs.tape,Nat.le_trans hs.size hsize,λ b hb o=>(hstf b hb o).trans (hs.stf b hb o),λ i hi hz=>(howf i hi).trans (hs.owf i hi hz),hs.shf.next (λ i b c e hi hb h=>⟨c,(how i b ((hs.owf i hi (w0.lo i b hb)).trans hb)).2.1.trans h,rfl⟩),λ i b hi hb o h=>hs.nst i b hi hb o ((how i b ((hs.owf i hi (w0.lo i b hb)).trans hb)).2.2 o h),hs.ev0.trans CL⟩;obtain ⟨b,c,e,k1,k2,k3,k4,k5⟩:=hs.ob id cs hc;obtain ⟨m1,m2,m3⟩:=how id b k1;refine ⟨b,c,e,m1,m2.trans k2,k3,λ o h=>k4 o (m3 o h),λ i x hx=>?_⟩;obtain ⟨v,hv,hr⟩:=k5 i x hx;exact ⟨v,hv,hr.mono hE⟩
theorem St.drew {n:Nat}{w0:Base}{w:World}{F:Nat->Prop}{g:Gh}{s:AS}{a:Act}(hs:St n w0 F g s a w):St n w0 F g s a w.drew :=
 hs.evolve0 (λ b o h=>⟨h,Z⟩) (λ id b h=>⟨h,Z,λ o h=>h⟩) hs.inj hs.own hs.lt (λ b h=>rfl) Z Z Z (bt _) (λ b _ o=>Iff.rfl) (λ _ _=>rfl)
theorem cC {w:World}{o:Obj}{b:Nat}(h:b<w.heap.size):(w.alloc o).heap[b]? = w.heap[b]?:=by
 show (w.heap.push o)[b]? = _;rw [Array.getElem?_push,if_neg O]
theorem bG {w:World}{o:Obj}:(w.alloc o).heap[w.heap.size]? = some o:=by
 show (w.heap.push o)[w.heap.size]? = _;simp
theorem lC {w:World}{b:Nat}{c c':Array Value}{e:TypeId}(hb:w.heap[b]? = some (.cells c e (0,0)))(hs:c'.size=c.size):lS w (w.setRow b c'):=by
 have hbl:b<w.heap.size:=(Array.getElem?_eq_some_iff.1 hb).1;refine ⟨λ b2 c2 e2 h=>?_,λ b2 o h1 h2=>?_⟩
 ·by_cases e1:b2=b
  ·subst e1;rw [hb] at h; cases h;exact ⟨c',setRow_heap w b2 c c' e (0,0) hb,hs⟩
  ·exact ⟨c2,(setRow_other w b b2 c' e1).trans h,Z⟩
 ·rw [setRow_other w b b2 c' O] at h2;exact absurd (Array.getElem?_eq_some_iff.1 h2).1 (Nat.not_lt.2 h1)
theorem gJ {w:World}{st:Nat->Nat->Prop}(hlt:∀ b o,st b o->b<w.heap.size){T:Nat->Prop}{ob:Obj}:Ev w st (w.alloc ob) (λ b o=>st b o\/(b=w.heap.size/\T o)) :=
 λ b o h=>⟨.inl h,World.cell?_alloc_lt w _ _ (hlt b o h)⟩
theorem St.fresh {n:Nat}{w0:Base}{w:World}{F:Nat->Prop}{g:Gh}{s:AS}{a:Act}(hs:St n w0 F g s a w)(D:Nat->Bool)(hDl:∀ i,D i=true->i<M1)(d:Nat)(hD:D d=true)(T:Nat->Prop)(c:Array Value)(e:TypeId) :
  St n w0 F ⟨λ b o=>g.st b o\/(b=w.heap.size/\T o),λ i=>if i=d then some w.heap.size else if D i then none else g.ow i⟩ (bV D s) a (w.alloc (.cells c e)):=by
 refine hs.evolve D hDl (gJ hs.lt) (λ id b hd h=>?_) (λ i j b h1 h2=>?_) (λ i b h=>?_) (λ b o h=>?_) (λ b h=>?_) Z Z Z G (λ b hb o=>⟨λ h=>h.resolve_right λ h=>by have:=hs.fl b hb; have:=hs.size; omega,.inl⟩) (λ i hi=>by
  have h1:i≠d:=λ e=>by have:=hDl d hD; omega
  have h2:D i=false:=by
   cases hq:D i
   ·rfl
   ·have:=hDl i hq; omega
  simp only [if_neg h1,h2]; rfl)
 ·have CQ:id≠d:=λ e=>by subst e; rw [hD] at hd; cases hd
  have hlt:=(hs.own id b h).1;refine ⟨by simp only [if_neg CQ,hd]; exact h,cC hlt,λ o ho=>ho.resolve_right λ ⟨e,_⟩=>by omega⟩
 ·have key:∀ i,(if i=d then some w.heap.size else if D i then none else g.ow i)=some b->(i=d/\b=w.heap.size)\/(i≠d/\g.ow i=some b/\b<w.heap.size):=by
   intro i h;by_cases e1:i=d
   ·rw [if_pos e1] at h; cases h; exact .inl ⟨e1,rfl⟩
   ·rw [if_neg e1] at h;split at h
    ·cases h
    ·exact .inr ⟨e1,h,(hs.own i b h).1⟩
  rcases key i h1 with ⟨a1,a2⟩|⟨a1,a2,a3⟩ <;> rcases key j h2 with ⟨b1,b2⟩|⟨b1,b2,b3⟩
  ·rw [a1,b1]
  ·omega
  ·omega
  ·exact hs.inj i j b a2 b2
 ·dsimp only at h;by_cases e1:i=d
  ·rw [if_pos e1] at h; cases h;exact ⟨by simp,λ hF=>by have:=hs.fl _ hF; have:=hs.size; omega⟩
  ·rw [if_neg e1] at h;split at h
   ·cases h
   ·have:=hs.own i b h; exact ⟨by simp; omega,this.2⟩
 ·rcases h with h|⟨h,_⟩
  ·have:=hs.lt b o h; simp; omega
  ·simp; omega
 ·have:=hs.fl b h; have:=hs.size;exact cC O
theorem St.settled {n:Nat}{w0:Base}{w:World}{F:Nat->Prop}{g:Gh}{s:AS}{a:Act}(hs:St n w0 F g s a w)(T:Nat->Prop)(c:Array Value)(e:TypeId) :
  St n w0 F ⟨λ b o=>g.st b o\/(b=w.heap.size/\T o),g.ow⟩ s a (w.alloc (.cells c e)):=by
 refine hs.evolve0 (gJ hs.lt) (λ id b h=>?_) hs.inj (λ i b h=>?_) (λ b o h=>?_) (λ b h=>?_) Z Z Z G (λ b hb o=>⟨λ h=>h.resolve_right λ h=>by have:=hs.fl b hb; have:=hs.size; omega,.inl⟩) (λ _ _=>rfl)
 ·have hlt:=(hs.own id b h).1;exact ⟨h,cC hlt,λ o ho=>ho.resolve_right λ ⟨e,_⟩=>by omega⟩
 ·have:=hs.own i b h; exact ⟨by simp; omega,this.2⟩
 ·rcases h with h|⟨h,_⟩
  ·have:=hs.lt b o h; simp; omega
  ·simp; omega
 ·have:=hs.fl b h; have:=hs.size;exact cC O
theorem add_lit (b o n:Nat):(⟨b,o,none⟩:Addr).add n=⟨b,o+n,none⟩:=by
 unfold Addr.add; split
 ·rename_i e; subst e; rfl
 ·rfl
theorem dQ {P:Program}{tt:List (Nat×TI)}(good:cj P tt){t:Nat}{i:TI}(h:look tt t=some i) :
  ∃ j,P.info? t=some j/\j.size=i.size/\j.bytes=i.bytes/\∃ z,j.zero=some z/\z.cells.toList=i.zero:=by
 have:=(good.at h).2;simp only [ld,Prod.mk.injEq] at this;obtain ⟨j,h1,h2,h3,h4⟩:=this;exact ⟨j,h1,h2,h3,h4⟩
theorem run_sizeOf {P:Program}{tt:List (Nat×TI)}(good:cj P tt){t:Nat}{i:TI}(h:look tt t=some i)(w:World):(sizeOf t).run P w=.ok i.size w:=by
 obtain ⟨j,h1,h2,_⟩:=dQ good h;simp [sizeOf,typeInfo,h1,h2]
def TK.isAgg:TK->Bool|.struct _=>true|.array _ _=>true|_=>false
theorem jS {P:Program}{tt:List (Nat×TI)}(good:cj P tt){t:Nat}{i:TI}(h:look tt t=some i)(w:World):(isAgg t).run P w=.ok i.k.isAgg w:=by
 obtain ⟨u,h1,h2⟩:=bc good h;rw [<- h2];simp only [isAgg,Sem.run_bind,run_underlying h1,Result.andThen_ok]
 cases u <;> rfl
section
variable {C:Cx} {o:Oper} {K:AS->Prop} {sl:List (Nat×AV)} {ob:List (Nat×List AV)} {d:Nat}
theorem jB {t:TypeId}{x:Operand}{f off ft:Nat}{i j:TI}{fs:List (Nat×Nat)}{cs:List PV}(ho:o.op=.fieldAddr t x f)(hd:o.dst=some d)(hn:Nat.blt d C.n=true)
  (hi:look C.tt t=some i) (CR:i.k=.struct fs) (hf:fs[f]? = some (off,ft)) (hj:look C.tt ft=some j) (hjs:Nat.beq j.size 0=false)
  (hx:evo sl x=some (.rptr cs)) (hK:K ⟨(d,.rptr (cs.drop off))::sl,ob⟩):aO C o K ⟨sl,ob⟩:=by
 obtain ⟨u,h1,h2⟩:=bc C.good hi;obtain ⟨fa,rfl,h4⟩:=eu (h2.trans CR);refine ok_one hd hn (λ g a w hs=>?_) hK;have h5:=bg hs hx;generalize hv:a.eval x=v at h5
 cases h5 with
 | rptr cf hc hr=>
  rename_i b o';refine ⟨.pointer (some ⟨b,o'+off,none⟩),?_,?_⟩
  ·rw [<- h4] at hf;simp only [List.getElem?_map,Array.getElem?_toList,ld,Prod.mk.injEq] at hf;obtain ⟨fl,hf1,hf2,hf3⟩:=hf;have CC:=run_sizeOf C.good hj w;rw [<- hf3] at CC;have CQ:j.size≠0:=λ e=>by rw [e] at hjs; simp at hjs
   simp [execOp,ho,hv,Instr.fieldAt,run_underlying h1,hf1,Instr.sureAddr,fieldPlace,CC,CQ,add_lit,hf2]
  ·refine .rptr (λ k=>cf (off+k)) (λ k c hk=>?_) (λ k c hk=>?_)
   ·rw [List.getElem?_drop] at hk;have:=hc _ c hk
    rwa [<- Nat.add_assoc] at this
   ·rw [List.getElem?_drop] at hk;exact hr _ c hk
theorem kF {P:Program}{tt:List (Nat×TI)}(good:cj P tt){t:Nat}{i:TI}(h:look tt t=some i)(ha:i.k.isAgg=false){w:World}{a:Addr}{v:Value}(hc:w.cell? a=some v) :
  (loadVar t a).run P w=.ok v w:=by
 simp [loadVar,jS good h,ha,hc]
theorem jy {P:Program}{tt:List (Nat×TI)}(good:cj P tt){t:Nat}{i:TI}(h:look tt t=some i)(ha:i.k.isAgg=true){w:World}{b o:Nat}{f:Nat->Value}
  (hc:∀ j,j<i.size->w.cell? ⟨b,o+j,none⟩=some (f j)) :
  (loadVar t ⟨b,o,none⟩).run P w=.ok (.agg ((List.range i.size).map f).toArray) w:=by
 have:=run_loadCells (P:=P) w ⟨b,o,none⟩ i.size f (λ j hj=>by rw [add_lit]; exact hc j hj);simp [loadVar,jS good h,ha,run_sizeOf good h,this]
theorem fF {t:TypeId}{x:Operand}{i:TI}{c:PV}{cs:List PV}(ho:o.op=.load t x)(hd:o.dst=some d)(hn:Nat.blt d C.n=true)
  (hi:look C.tt t=some i) (hia:i.k.isAgg=false) (hx:evo sl x=some (.rptr cs)) (hc:cs.head? = some c) (hK:K ⟨(d,.p c)::sl,ob⟩):aO C o K ⟨sl,ob⟩:=by
 refine ok_one hd hn (λ g a w hs=>?_) hK;have h5:=bg hs hx;generalize hv:a.eval x=v at h5
 cases h5 with
 | rptr cf hcf hr=>
  rename_i b o';have h0:cs[0]? = some c:=by cases cs with|nil=>simp at hc|cons y r=>simpa using hc
  have h1:=hcf 0 c h0;refine ⟨cf 0,?_,.p (hr 0 c h0)⟩;have:=kF C.good hi hia h1.2;rw [Nat.add_zero] at this;simp [execOp,ho,hv,Instr.loadAt,Instr.sureAddr,this]
theorem fE {t:TypeId}{x:Operand}{i:TI}{cs:List PV}(ho:o.op=.load t x)(hd:o.dst=some d)(hn:Nat.blt d C.n=true)
  (hi:look C.tt t=some i) (hia:i.k.isAgg=true) (hx:evo sl x=some (.rptr cs)) (hl:Nat.ble i.size cs.length=true) (hK:K ⟨(d,.p (.agg (cs.take i.size)))::sl,ob⟩):aO C o K ⟨sl,ob⟩:=by
 refine ok_one hd hn (λ g a w hs=>?_) hK;have h5:=bg hs hx;have hl':i.size<=cs.length:=ph hl;generalize hv:a.eval x=v at h5
 cases h5 with
 | rptr cf hcf hr=>
  rename_i b o';refine ⟨.agg ((List.range i.size).map cf).toArray,?_,.p (.agg (by simp; omega) λ k c v h1 h2=>?_)⟩
  ·have:=jy C.good hi hia (b:=b) (o:=o') (f:=cf) (w:=w) (λ j hj=>(hcf j cs[j] (List.getElem?_eq_getElem O)).2);simp [execOp,ho,hv,Instr.loadAt,Instr.sureAddr,this]
  ·rw [List.getElem?_take] at h1;split at h1
   ·rename_i hk;simp only [List.getElem?_toArray,List.getElem?_map,List.getElem?_range hk,Option.map_some,aq] at h2;subst h2;exact hr k c h1
   ·cases h1
theorem g7 {w:World}{g:Gh}{x:AV}{es:List PV}{v:Value}(hx:x=.p (.slice es)\/∃ tok sz ty,x=.vec tok sz ty es)(h:ARep w g x v):PRep w g.st (.slice es) v:=by
 rcases hx with rfl|⟨tok,sz,ty,rfl⟩
 ·cases h with|p h=>exact h
 ·have:=AV.sub_vec tok sz ty es w g v h
  cases this with|p h=>exact h
def AV.elems?:AV->Option (List PV)|.p (.slice es)=>some es|.vec _ _ _ es=>some es|.p (.val (.slice none 0 0))=>some []|_=>none
theorem dr {w:World}{g:Gh}{x:AV}{es:List PV}{v:Value}(hx:x.elems? = some es)(h:ARep w g x v):PRep w g.st (.slice es) v:=by
 unfold AV.elems? at hx;split at hx
 ·cases hx; exact g7 (.inl rfl) h
 ·cases hx; exact g7 (.inr ⟨_,_,_,rfl⟩) h
 ·cases hx; exact g7 (.inl rfl) (AV.sub_nilv _ _ _ h)
 ·cases hx
theorem ko {w:World}{st:Nat->Nat->Prop}{es:List PV}{v:Value}(h:PRep w st (.slice es) v):∃ a cap,v=.slice a es.length cap/\es.length<=cap:=by
 cases h with
 | nils=>exact ⟨none,0,Z,bt _⟩
 | nile a=>exact ⟨some a,0,Z,bt _⟩
 | slice sz cf hcap CC CH hc hr=>exact ⟨_,_,Z,hcap⟩
theorem zQ {t e:TypeId}{x:Operand}{y:AV}{es:List PV}{i:TI}(ho:o.op=.call { callee:=.builtin .len,args:=#[x],argTypes:=#[t] })(hd:o.dst=some d)(hn:Nat.blt d C.n=true)
  (hi:look C.tt t=some i) (CR:i.k=.slice e) (hx:evo sl x=some y) (hy:y.elems? = some es)
  (hK:K ⟨(d,.p (.val (.int .i64 (es.length:Int))))::sl,ob⟩):aO C o K ⟨sl,ob⟩:=by
 obtain ⟨u,h1,h2⟩:=bc C.good hi;have h3:=aV (h2.trans CR);subst h3;refine ok_one hd hn (λ g b w hs=>⟨_,?_,.p (.val _)⟩) hK;obtain ⟨a,cap,h4,_⟩:=ko (dr hy (bg hs hx));rw [cZ ho];simp [builtin,h4,Builtin.len_,run_underlying h1,goInt]
theorem qc {t e:TypeId}{x y:Operand}{z:AV}{es:List PV}{i ie:TI}{k:IntKind}{n:Int}{el:PV}(ho:o.op=.indexAddr t x y)(hd:o.dst=some d)(hn:Nat.blt d C.n=true)
  (hi:look C.tt t=some i) (CR:i.k=.slice e) (hie:look C.tt e=some ie) (hx:evo sl x=some z) (hz:z.elems? = some es)
  (hy:evo sl y=some (.p (.val (.int k n)))) (hb:0<=n) (hel:es[n.toNat]? = some el) (CC:el.cells.length=ie.size)
  (hK:K ⟨(d,.rptr el.cells)::sl,ob⟩):aO C o K ⟨sl,ob⟩:=by
 obtain ⟨u,h1,h2⟩:=bc C.good hi;have h3:=aV (h2.trans CR);subst h3;refine ok_one hd hn (λ g a w hs=>?_) hK;have hv:=dr hz (bg hs hx);generalize hq:a.eval x=v at hv;have hlt:n.toNat<es.length:=(List.getElem?_eq_some_iff.1 hel).1
 cases hv with
 | nils=>simp at hlt
 | nile a=>simp at hlt
 | slice sz cf hcap hsz' CH hc hr=>
  rename_i b off cap;have e1:sz=ie.size:=(hsz' el (List.mem_of_getElem? hel)).symm.trans CC;subst e1;refine ⟨.pointer (some ⟨b,off+n.toNat*ie.size,none⟩),?_,.rptr (cf n.toNat) (λ j c hj=>?_) (λ j c hj=>hr _ el j c hel hj)⟩
  ·have hlt':n<(es.length:Int):=by omega
   simp [execOp,ho,hq,bQ hs hy,Instr.indexAt,asIntOf,run_underlying h1,hb,hlt',run_sizeOf C.good hie,add_lit]
  ·exact hc _ el j c hel hj
theorem oO {w:World}{st:Nat->Nat->Prop}{es:List PV}{b off cap:Nat}{sz:Nat}{cf:Nat->Nat->Value}{l h:Nat}(hh:h<=es.length)(hlh:l<=h)
  (hcap:es.length<=cap) (CC:∀ e,e∈es->e.cells.length=sz) (CH:∀ e,e∈es->∀ c,c∈e.cells->c.one=true)
  (hc:∀ (i:Nat) e (j:Nat) c,es[i]? = some e->e.cells[j]? = some c->st b (off+i*sz+j)/\w.cell? ⟨b,off+i*sz+j,none⟩=some (cf i j))
  (hr:∀ (i:Nat) e (j:Nat) c,es[i]? = some e->e.cells[j]? = some c->PRep w st c (cf i j)) :
  PRep w st (.slice ((es.take h).drop l)) (.slice (some ⟨b,off+l*sz,none⟩) (h-l) (cap-l)):=by
 have CE:((es.take h).drop l).length=h-l:=by simp; omega
 have hmem:∀ e,e∈(es.take h).drop l->e∈es:=λ e he=>List.mem_of_mem_take (List.mem_of_mem_drop he)
 have hget:∀ (i:Nat) e,((es.take h).drop l)[i]? = some e->es[l+i]? = some e:=by
  intro i e he;rw [List.getElem?_drop,List.getElem?_take] at he;split at he
  ·exact he
  ·cases he
 have:=PRep.slice (w:=w) (st:=st) (es:=(es.take h).drop l) (b:=b) (off:=off+l*sz) (cap:=cap-l) sz (λ i j=>cf (l+i) j) O (λ e he=>CC e (hmem e he)) (λ e he=>CH e (hmem e he))
  (λ i e j c h1 h2=>by
   have:=hc (l+i) e j c (hget i e h1) h2;rw [show off+l*sz+i*sz+j=off+(l+i)*sz+j by rw [th]; omega]
   exact this) (λ i e j c h1 h2=>hr (l+i) e j c (hget i e h1) h2)
 rw [CE] at this;exact this
theorem wZ {t e:TypeId}{x:Operand}{lo hi:Option Operand}{z:AV}{es:List PV}{l h:Int}{i ie:TI}(ho:o.op=.slice t x lo hi none)(hd:o.dst=some d)(hn:Nat.blt d C.n=true)
  (hi':look C.tt t=some i) (CR:i.k=.slice e) (hie:look C.tt e=some ie) (hx:evo sl x=some z) (hz:z.elems? = some es) (hlo:loI sl lo=some l) (hhi:hiI sl (es.length:Int) hi=some h)
  (hb:0<=l/\l<=h/\h<=es.length) (CC:∀ e∈es,e.cells.length=ie.size)
  (hK:K ⟨(d,.p (.slice ((es.take h.toNat).drop l.toNat)))::sl,ob⟩):aO C o K ⟨sl,ob⟩:=by
 obtain ⟨u,h1,h2⟩:=bc C.good hi';have h3:=aV (h2.trans CR);subst h3;refine ok_one hd hn (λ g a w hs=>?_) hK;have hv:=dr hz (bg hs hx);generalize hq:a.eval x=v at hv
 cases hv with
 | nils=>
  simp only [List.length_nil] at hb hhi;have e1:l=0:=by omega
  have e2:h=0:=by omega
  subst e1 e2;have e:=j4 (P:=C.P) hs true 0 0 lo hi hlo hhi O (bt _);refine ⟨.slice none 0 0,?_,.p (by simpa using PRep.nils)⟩;simp at e;simp [execOp,ho,hq,Instr.sliceAt,Instr.slice,run_underlying h1,e,run_sizeOf C.good hie]
 | nile a0=>
  simp only [List.length_nil] at hb hhi;have e1:l=0:=by omega
  have e2:h=0:=by omega
  subst e1 e2;have e:=j4 (P:=C.P) hs true 0 0 lo hi hlo hhi O (bt _);refine ⟨.slice (some a0) 0 0,?_,.p (by simpa using PRep.nile a0)⟩;simp at e;simp [execOp,ho,hq,Instr.sliceAt,Instr.slice,run_underlying h1,e,run_sizeOf C.good hie]
 | slice sz cf hcap hsz' CH hc hr=>
  rename_i b off cap;have e:=j4 (P:=C.P) hs true es.length cap lo hi hlo hhi ⟨hb.1,hb.2.1,by omega⟩ hcap;refine ⟨.slice (if cap=l.toNat then some ⟨b,off,none⟩ else some ⟨b,off+l.toNat*ie.size,none⟩) (h.toNat-l.toNat) (cap-l.toNat),?_,.p ?_⟩
  ·simp [execOp,ho,hq,Instr.sliceAt,Instr.slice,run_underlying h1,e,run_sizeOf C.good hie,add_lit]
  ·by_cases hcl:cap=l.toNat
   ·rw [if_pos hcl]
    have e3:(es.take h.toNat).drop l.toNat=[]:=by
     apply List.drop_eq_nil_of_le; simp; omega
    have e4:h.toNat-l.toNat=0:=by omega
    rw [e3,e4];exact PRep.slice 0 (λ _ _=>.nilFunc) G (λ e he=>by simp at he) (λ e he=>by simp at he) (λ i e j c h1=>by simp at h1) (λ i e j c h1=>by simp at h1)
   ·rw [if_neg hcl];by_cases hes:es=[]
    ·subst hes;simp only [List.length_nil] at hb;have e5:h.toNat-l.toNat=0:=by omega
     rw [e5];simp only [List.take_nil,List.drop_nil];exact PRep.slice 0 (λ _ _=>.nilFunc) G (λ e he=>by simp at he) (λ e he=>by simp at he) (λ i e j c h1=>by simp at h1) (λ i e j c h1=>by simp at h1)
    ·have e1:sz=ie.size:=by
      cases es with
      | nil=>exact absurd Z hes
      | cons y r=>exact (hsz' y G).symm.trans (CC y G)
     subst e1;exact oO O O  hcap hsz' CH hc hr
end
def PV.onesB:List PV->Bool|[]=>true|c::r=>c.one&&onesB r
theorem eW:∀ {l:List PV},PV.onesB l=true->∀ c,c∈l->c.one=true
 | [],_,_,h=>by simp at h
 | x::r,h,c,hc=>by
  simp only [PV.onesB,n7] at h;rcases ro.1 hc with rfl|hc
  ·exact h.1
  ·exact eW h.2 c hc
def AV.one:AV->Bool|.p c=>c.one|.vec _ _ _ _=>true|.arr _ _ _ _=>true|.ptr _ _=>true|.bptr _ _ _=>true|.rptr _=>true|.func _ _=>true|.mp _ _=>true|.mpr ..=>true|.stk ..=>true|.sem ..=>true|.it ..=>true|.vecp ..=>true|.elp ..=>true|_=>false
def AV.onesB:List AV->Bool|[]=>true|c::r=>c.one&&onesB r
theorem AV.onesB_mem:∀ {l:List AV},AV.onesB l=true->∀ c,c∈l->c.one=true
 | [],_,_,h=>by simp at h
 | x::r,h,c,hc=>by
  simp only [AV.onesB,n7] at h;rcases ro.1 hc with rfl|hc
  ·exact h.1
  ·exact AV.onesB_mem h.2 c hc
theorem PV.one_rep {w:World}{st:Nat->Nat->Prop}{x:PV}{v:Value}(h:PRep w st x v)(ho:x.one=true):v.oneCell'=true:=by
 cases h with
 | val v=>exact ho
 | agg hl h=>simp [PV.one] at ho
 | ifc=>rfl
 | aint=>rfl
 | nils=>rfl
 | nile a=>rfl
 | slice=>rfl
theorem AV.one_rep {w:World}{g:Gh}{x:AV}{v:Value}(h:ARep w g x v)(ho:x.one=true):v.oneCell'=true:=by
 cases h with
 | undef=>simp [AV.one] at ho
 | p h=>exact PV.one_rep h ho
 | agg=>simp [AV.one] at ho
 | vecn=>rfl
 | vece=>rfl
 | vec=>rfl
 | arr=>rfl
 | ptr=>rfl
 | bptrn=>rfl
 | bptr=>rfl
 | rptr=>rfl
 | tuple=>simp [AV.one] at ho
 | func=>rfl
 | mp=>rfl
 | mpr=>rfl
 | stkn=>rfl
 | stke=>rfl
 | stk=>rfl
 | sem h1 _=>exact h1
 | it=>rfl
 | vecp=>rfl
 | elp=>rfl
theorem l8 {v:Value}(h:v.oneCell'=true):v.cells=#[v]:=by
 cases v <;> first|rfl|simp [Value.oneCell'] at h
def AV.cellsA:AV->Option (List AV)|.p (.agg cs)=>bif PV.onesB cs then some (cs.map .p) else none|.agg cs=>bif AV.onesB cs then some cs else none|.p (.val v)=>bif v.oneCell' then some [.p (.val v)] else none|.p (.slice es)=>some [.p (.slice es)]|.vec t s y es=>some [.vec t s y es]|.arr i s o n=>some [.arr i s o n]|.ptr i o=>some [.ptr i o]|.bptr T sz i=>some [.bptr T sz i]|.rptr cs=>some [.rptr cs]|.func f cs=>some [.func f cs]|.stk t s es=>some [.stk t s es]|.sem ts R=>some [.sem ts R]|.vecp a b c e=>some [.vecp a b c e]|_=>none
theorem io {w:World}{g:Gh}{x:AV}{xs:List AV}{v:Value}(hx:x.cellsA=some xs)(h:ARep w g x v) :
  v.cells.size=xs.length/\∀ (i:Nat) c u,xs[i]? = some c->v.cells[i]? = some u->ARep w g c u/\u.oneCell'=true:=by
 have single:∀ {y:AV},ARep w g y v->y.one=true->xs=[y]->v.cells.size=xs.length/\∀ (i:Nat) c u,xs[i]? = some c->v.cells[i]? = some u->ARep w g c u/\u.oneCell'=true:=by
  intro y hy ho e;have h1:=AV.one_rep hy ho;rw [l8 h1,e];refine ⟨rfl,λ i c u h2 h3=>?_⟩
  cases i with
  | zero=>simp only [List.getElem?_cons_zero,aq] at h2; simp at h3; subst h2 h3; exact ⟨hy,h1⟩
  | succ i=>simp at h2
 unfold AV.cellsA at hx;split at hx
 ·rename_i cs
  cases ho:PV.onesB cs <;> rw [ho] at hx <;> simp only [cond_true,cond_false,aq,reduceCtorEq] at hx
  subst hx
  cases h with
  | p h=>
   cases h with
   | agg hl h=>
    refine ⟨by simpa [Value.cells] using hl,λ i c u h2 h3=>?_⟩;simp only [List.getElem?_map,ld] at h2;obtain ⟨c',h2,rfl⟩:=h2;have h4:=h i c' u h2 h3;exact ⟨.p h4,PV.one_rep h4 (eW ho c' (List.mem_of_getElem? h2))⟩
 ·rename_i cs
  cases ho:AV.onesB cs <;> rw [ho] at hx <;> simp only [cond_true,cond_false,aq,reduceCtorEq] at hx
  subst hx
  cases h with
  | agg hl h=>
   refine ⟨hl,λ i c u h2 h3=>?_⟩;have h4:=h i c u h2 h3;exact ⟨h4,AV.one_rep h4 (AV.onesB_mem ho c (List.mem_of_getElem? h2))⟩
 ·rename_i v'
  cases ho:v'.oneCell' <;> rw [ho] at hx <;> simp only [cond_true,cond_false,aq,reduceCtorEq] at hx
  exact single h ho hx.symm
 all_goals first
  | (simp only [aq] at hx; exact single h Z hx.symm)
  | (cases hx)
def u3:List AV->Option (List PV)
 | []=>some []
 | .p x::r=>match u3 r with
  | some l=>some (x::l)
  | none=>none
 | _::_=>none
def ki (cs:List AV):AV:=match u3 cs with
 | some l=>.p (.agg l)
 | none=>.agg cs
theorem wz:∀ {cs:List AV} {l:List PV},u3 cs=some l->cs=l.map .p
 | [],l,h=>by simp only [u3,aq] at h; subst h; rfl
 | x::r,l,h=>by
  cases x <;> simp only [u3,reduceCtorEq] at h
  split at h
  ·rename_i l' h'; cases h; rw [wz h']; rfl
  ·cases h
theorem lg {w:World}{g:Gh}{cs:List AV}{vs:Array Value}(hl:vs.size=cs.length)(h:∀ (i:Nat) c v,cs[i]? = some c->vs[i]? = some v->ARep w g c v):ARep w g (ki cs) (.agg vs):=by
 unfold ki;split
 ·rename_i l hp;have e:=wz hp;refine .p (.agg (by rw [hl,e]; simp) λ i c v h1 h2=>?_);have:=h i (.p c) v (by rw [e]; simp [h1]) h2
  cases this with|p h=>exact h
 ·exact .agg hl h
theorem jf {n:Nat}{w0:Base}{w:World}{F:Nat->Prop}{g:Gh}{s:AS}{a:Act}(hs:St n w0 F g s a w){b:Nat}{c:Array Value}{e:TypeId}(hb:w.heap[b]? = some (.cells c e (0,0)))(o:Nat) :
  w.cell? ⟨b,o,none⟩=c[o]?:=by
 simp [World.cell?,hb]
section
variable {C:Cx} {o:Oper} {K:AS->Prop} {sl:List (Nat×AV)} {ob:List (Nat×List AV)} {d:Nat}
theorem yS {x:AV}{cs:List AV}(hd:o.dst=some d)(hn:Nat.blt d C.n=true)
  (h:∀ g a w,St C.n C.w0 C.F g ⟨sl,ob⟩ a w->∃ e v,(execOp a.eval o).run C.P w=.ok (.value (.pointer (some ⟨w.heap.size,0,none⟩))) (w.alloc (.cells v.cells e))/\ARep w g x v)
  (hx:x.cellsA=some cs)
  (hK:K ⟨(d,.ptr d 0)::(bV (λ i=>Nat.beq i d) ⟨sl,ob⟩).sl,(d,gW (λ i=>Nat.beq i d) cs)::(bV (λ i=>Nat.beq i d) ⟨sl,ob⟩).ob⟩):aO C o K ⟨sl,ob⟩:=by
 intro g a w hs;obtain ⟨e,v,h1,h2⟩:=h g a w hs;obtain ⟨CC,CJ⟩:=io hx h2;unfold Oper.wp;rw [h1];have hDd:(λ i=>Nat.beq i d) d=true:=by simp
 have hdl:d<M1:=by have h1:=ph C.nl; have h2:d<C.n:=mv ▸ hn; omega
 have hf:=hs.fresh (λ i=>Nat.beq i d) (λ i hi=>by have:=bx hi; omega) d hDd (λ _=>False) v.cells e;refine ⟨⟨λ b o=>g.st b o\/(b=w.heap.size/\False),λ i=>if i=d then some w.heap.size else if Nat.beq i d then none else g.ow i⟩,_,?_,hK⟩
 have hp:=hf.put (d:=o.dst) (λ t ht=>by rw [hd] at ht; cases ht; exact mv ▸ hn)
  (x:=.ptr d 0) (v:=.pointer (some ⟨w.heap.size,0,none⟩)) (.ptr G)
 rw [hd] at hp ⊢
 have hE:EvO (λ i=>Nat.beq i d) w g (w.alloc (.cells v.cells e)) ⟨λ b o=>g.st b o\/(b=w.heap.size/\False),λ i=>if i=d then some w.heap.size else if Nat.beq i d then none else g.ow i⟩:=by
  refine ⟨gJ hs.lt,λ id b hD hid=>?_,λ id b c e' hD hid hb=>⟨c,?_,Z⟩,λ id b o hD hid ho=>?_,λ id b es k hD hid hb=>(cC (hs.own id b hid).1).trans hb,λ i hi=>?lo,λ id b o hD hid _=>cC (hs.own id b hid).1⟩
  case lo=>
   cases hq:Nat.beq i d
   ·rfl
   ·have:=bx hq; have:=nN hi; omega
  ·have CQ:id≠d:=λ e=>by subst e; simp at hD
   simp only [if_neg CQ,hD]; exact hid
  ·exact (cC (hs.own id b hid).1).trans hb
  ·exact ho.resolve_right λ h=>h.2
 refine { hp with ob:=λ id cs' hc=>?_ };simp only [AS.put,aJ] at hc;by_cases e1:d=id
 ·subst e1;simp only [if_true,aq] at hc;subst hc;refine ⟨w.heap.size,v.cells,e,by simp,bG,by simp [eZ,CC],λ o ho=>?_,λ i y hy=>?_⟩
  ·rcases ho with ho|⟨_,ho⟩
   ·exact absurd (hs.lt _ _ ho) O
   ·exact ho
  ·simp only [eZ,List.getElem?_map,ld] at hy;obtain ⟨z,hz,rfl⟩:=hy;have hi:i<v.cells.size:=by rw [CC]; exact (List.getElem?_eq_some_iff.1 hz).1
   exact ⟨v.cells[i],Array.getElem?_eq_getElem hi,(CJ i z _ hz (Array.getElem?_eq_getElem hi)).1.dem hE⟩
 ·rw [if_neg e1] at hc;exact hp.ob id cs' hc
theorem AY {x c0:AV}{cs:List AV}{T sz:Nat}(hd:o.dst=some d)(hn:Nat.blt d C.n=true)
  (h:∀ g a w,St C.n C.w0 C.F g ⟨sl,ob⟩ a w->∃ v,(execOp a.eval o).run C.P w=.ok (.value (.pointer (some ⟨w.heap.size,0,none⟩))) (w.alloc (.cells v.cells T))/\ARep w g x v/\v.cells.size=sz/\v.cells[0]? = some (.pointer none))
  (hx:x.cellsA=some (c0::cs))
  (hK:K ⟨(d,.ptr d 0)::(bV (λ i=>Nat.beq i d) ⟨sl,ob⟩).sl,(d,.bptr T sz d::gW (λ i=>Nat.beq i d) cs)::(bV (λ i=>Nat.beq i d) ⟨sl,ob⟩).ob⟩):aO C o K ⟨sl,ob⟩:=by
 intro g a w hs;obtain ⟨v,h1,h2,hz2,hz0⟩:=h g a w hs;obtain ⟨CC,CJ⟩:=io hx h2;unfold Oper.wp;rw [h1];have hDd:(λ i=>Nat.beq i d) d=true:=by simp
 have hdl:d<M1:=by have h1:=ph C.nl; have h2:d<C.n:=mv ▸ hn; omega
 have hf:=hs.fresh (λ i=>Nat.beq i d) (λ i hi=>by have:=bx hi; omega) d hDd (λ _=>False) v.cells T;refine ⟨⟨λ b o=>g.st b o\/(b=w.heap.size/\False),λ i=>if i=d then some w.heap.size else if Nat.beq i d then none else g.ow i⟩,_,?_,hK⟩
 have hp:=hf.put (d:=o.dst) (λ t ht=>by rw [hd] at ht; cases ht; exact mv ▸ hn)
  (x:=.ptr d 0) (v:=.pointer (some ⟨w.heap.size,0,none⟩)) (.ptr G)
 rw [hd] at hp ⊢
 have hE:EvO (λ i=>Nat.beq i d) w g (w.alloc (.cells v.cells T)) ⟨λ b o=>g.st b o\/(b=w.heap.size/\False),λ i=>if i=d then some w.heap.size else if Nat.beq i d then none else g.ow i⟩:=by
  refine ⟨gJ hs.lt,λ id b hD hid=>?_,λ id b c e' hD hid hb=>⟨c,?_,Z⟩,λ id b o hD hid ho=>?_,λ id b es k hD hid hb=>(cC (hs.own id b hid).1).trans hb,λ i hi=>?lo,λ id b o hD hid _=>cC (hs.own id b hid).1⟩
  case lo=>
   cases hq:Nat.beq i d
   ·rfl
   ·have:=bx hq; have:=nN hi; omega
  ·have CQ:id≠d:=λ e=>by subst e; simp at hD
   simp only [if_neg CQ,hD]; exact hid
  ·exact (cC (hs.own id b hid).1).trans hb
  ·exact ho.resolve_right λ h=>h.2
 refine { hp with ob:=λ id cs' hc=>?_ };simp only [AS.put,aJ] at hc;by_cases e1:d=id
 ·subst e1;simp only [if_true,aq] at hc;subst hc;refine ⟨w.heap.size,v.cells,T,by simp,bG,by simp [eZ,CC],λ o ho=>?_,λ i y hy=>?_⟩
  ·rcases ho with ho|⟨_,ho⟩
   ·exact absurd (hs.lt _ _ ho) O
   ·exact ho
  ·cases i with
   | zero=>
    simp only [List.getElem?_cons_zero,aq] at hy;subst hy;exact ⟨_,hz0,.bptrn G bG hz2⟩
   | succ i=>
    simp only [List.getElem?_cons_succ,eZ,List.getElem?_map,ld] at hy;obtain ⟨z,hz,rfl⟩:=hy;have hz':(c0::cs)[i+1]? = some z:=by simpa using hz
    have hi:i+1<v.cells.size:=by rw [CC]; exact (List.getElem?_eq_some_iff.1 hz').1
    exact ⟨v.cells[i+1],Array.getElem?_eq_getElem hi,(CJ (i+1) z _ hz' (Array.getElem?_eq_getElem hi)).1.dem hE⟩
 ·rw [if_neg e1] at hc;exact hp.ob id cs' hc
theorem B5 {t:TypeId}{v:Operand}{x:AV}{cs:List AV}(ho:o.op=.box t v)(hd:o.dst=some d)(hn:Nat.blt d C.n=true)(hx:evo sl v=some x)(hc:x.cellsA=some cs)
  (hK:K ⟨(d,.ptr d 0)::(bV (λ i=>Nat.beq i d) ⟨sl,ob⟩).sl,(d,gW (λ i=>Nat.beq i d) cs)::(bV (λ i=>Nat.beq i d) ⟨sl,ob⟩).ob⟩):aO C o K ⟨sl,ob⟩ :=
 yS hd hn (λ g a w hs=>⟨t,a.eval v,by simp [execOp,ho,Instr.box,newVar,newRow],bg hs hx⟩) hc hK
def dj (i:TI):List AV:=i.zero.map λ v=>.p (.val v)
theorem ig {P:Program}{tt:List (Nat×TI)}(good:cj P tt){t:Nat}{i:TI}(h:look tt t=some i)(w:World):∃ z,(zeroValue t).run P w=.ok z w/\z.cells.toList=i.zero:=by
 obtain ⟨j,h1,_,_,z,h2,h3⟩:=dQ good h;exact ⟨z,by simp [zeroValue,typeInfo,h1,h2],h3⟩
theorem eG {t:TypeId}{i:TI}(ho:o.op=.alloc t)(hd:o.dst=some d)(hn:Nat.blt d C.n=true)(hi:look C.tt t=some i)(hz:AV.cellsA (.agg (dj i))=some (dj i))
  (hK:K ⟨(d,.ptr d 0)::(bV (λ i=>Nat.beq i d) ⟨sl,ob⟩).sl,(d,gW (λ i=>Nat.beq i d) (dj i))::(bV (λ i=>Nat.beq i d) ⟨sl,ob⟩).ob⟩):aO C o K ⟨sl,ob⟩:=by
 refine yS (x:=.agg (dj i)) hd hn (λ g a w hs=>?_) hz hK;obtain ⟨z,h1,h2⟩:=ig C.good hi w;refine ⟨t,.agg z.cells,by simp [execOp,ho,Instr.alloc,h1,newVar,newRow,Value.cells],.agg (by simp [dj,<- h2]) λ k c v h3 h4=>?_⟩;simp only [dj,List.getElem?_map,ld,<- h2,Array.getElem?_toList] at h3;obtain ⟨u,h5,rfl⟩:=h3;rw [h4] at h5; cases h5;exact .p (.val _)
theorem mR {t:TypeId}{i:TI}{zs:List Value}(ho:o.op=.alloc t)(hd:o.dst=some d)(hn:Nat.blt d C.n=true)(hi:look C.tt t=some i)(hz0:i.zero=.pointer none::zs)(hz:AV.cellsA (.agg (dj i))=some (dj i))(CC:Nat.beq i.zero.length i.size=true)
  (hK:K ⟨(d,.ptr d 0)::(bV (λ i=>Nat.beq i d) ⟨sl,ob⟩).sl,(d,.bptr t i.size d::gW (λ i=>Nat.beq i d) (zs.map λ v=>.p (.val v)))::(bV (λ i=>Nat.beq i d) ⟨sl,ob⟩).ob⟩):aO C o K ⟨sl,ob⟩:=by
 have hz':AV.cellsA (.agg (dj i))=some (.p (.val (.pointer none))::zs.map λ v=>.p (.val v)):=by rw [hz,dj,hz0]; rfl
 have hsz':=bx CC;refine AY (x:=.agg (dj i)) hd hn (λ g a w hs=>?_) hz' hK;obtain ⟨z,h1,h2⟩:=ig C.good hi w;refine ⟨.agg z.cells,by simp [execOp,ho,Instr.alloc,h1,newVar,newRow,Value.cells],.agg (by simp [dj,<- h2]) (λ k c v h3 h4=>?_),?_,?_⟩
 ·simp only [dj,List.getElem?_map,ld,<- h2,Array.getElem?_toList] at h3;obtain ⟨u,h5,rfl⟩:=h3;rw [h4] at h5; cases h5;exact .p (.val _)
 ·show z.cells.size=i.size;rw [<- hsz',<- h2,ur]
 ·show z.cells[0]? = some (.pointer none);rw [<- Array.getElem?_toList,h2,hz0]; rfl
theorem aD {t:TypeId}{x:Operand}{f off ft id k:Nat}{i j:TI}{fs:List (Nat×Nat)}(ho:o.op=.fieldAddr t x f)(hd:o.dst=some d)(hn:Nat.blt d C.n=true)
  (hi:look C.tt t=some i) (CR:i.k=.struct fs) (hf:fs[f]? = some (off,ft)) (hj:look C.tt ft=some j) (hjs:Nat.beq j.size 0=false)
  (hx:evo sl x=some (.ptr id k)) (hK:K ⟨(d,.ptr id (k+off))::sl,ob⟩):aO C o K ⟨sl,ob⟩:=by
 obtain ⟨u,h1,h2⟩:=bc C.good hi;obtain ⟨fa,rfl,h4⟩:=eu (h2.trans CR);refine ok_one hd hn (λ g a w hs=>?_) hK;have h5:=bg hs hx;generalize hv:a.eval x=v at h5
 cases h5 with
 | ptr how=>
  rename_i b;refine ⟨.pointer (some ⟨b,k+off,none⟩),?_,.ptr how⟩;rw [<- h4] at hf;simp only [List.getElem?_map,Array.getElem?_toList,ld,Prod.mk.injEq] at hf;obtain ⟨fl,hf1,hf2,hf3⟩:=hf;have CC:=run_sizeOf C.good hj w;rw [<- hf3] at CC;have CQ:j.size≠0:=λ e=>by rw [e] at hjs; simp at hjs
  simp [execOp,ho,hv,Instr.fieldAt,run_underlying h1,hf1,Instr.sureAddr,fieldPlace,CC,CQ,add_lit,hf2]
theorem rT {x:Operand}{id k:Nat}(ho:o.op=.nilCheck x)(hd:o.dst=some d)(hn:Nat.blt d C.n=true)
  (hx:evo sl x=some (.ptr id k)) (hK:K ⟨(d,.ptr id k)::sl,ob⟩):aO C o K ⟨sl,ob⟩:=by
 refine ok_one hd hn (λ g a w hs=>?_) hK;have h5:=bg hs hx;generalize hv:a.eval x=v at h5
 cases h5 with
 | ptr how=>exact ⟨_,by simp [execOp,ho,hv],.ptr how⟩
theorem cz {t e:TypeId}{x y:Operand}{i ie:TI}{k:IntKind}{n:Int}{id sz off m:Nat}(ho:o.op=.indexAddr t x y)(hd:o.dst=some d)(hn:Nat.blt d C.n=true)
  (hi:look C.tt t=some i) (CR:i.k=.slice e) (hie:look C.tt e=some ie) (hx:evo sl x=some (.arr id sz off m))
  (hy:evo sl y=some (.p (.val (.int k n)))) (CC:ie.size=sz) (hb:0<=n/\n<m)
  (hK:K ⟨(d,.ptr id (off+n.toNat*sz))::sl,ob⟩):aO C o K ⟨sl,ob⟩:=by
 obtain ⟨u,h1,h2⟩:=bc C.good hi;have h3:=aV (h2.trans CR);subst h3 CC;refine ok_one hd hn (λ g a w hs=>?_) hK;have h5:=bg hs hx;generalize hv:a.eval x=v at h5
 cases h5 with
 | arr how hb' CJ hnc=>
  rename_i b cap c e';exact ⟨.pointer (some ⟨b,off+n.toNat*ie.size,none⟩),by simp [execOp,ho,hv,bQ hs hy,Instr.indexAt,asIntOf,run_underlying h1,hb.1,hb.2,run_sizeOf C.good hie,add_lit],.ptr how⟩
theorem Az {t e:TypeId}{x:Operand}{i:TI}{id sz off m:Nat}(ho:o.op=.call { callee:=.builtin .len,args:=#[x],argTypes:=#[t] })(hd:o.dst=some d)(hn:Nat.blt d C.n=true)
  (hi:look C.tt t=some i) (CR:i.k=.slice e) (hx:evo sl x=some (.arr id sz off m))
  (hK:K ⟨(d,.p (.val (.int .i64 (m:Int))))::sl,ob⟩):aO C o K ⟨sl,ob⟩:=by
 obtain ⟨u,h1,h2⟩:=bc C.good hi;have h3:=aV (h2.trans CR);subst h3;refine ok_one hd hn (λ g b w hs=>?_) hK;have h5:=bg hs hx;generalize hv:b.eval x=v at h5
 cases h5 with
 | arr how hb' CJ hnc=>exact ⟨_,by rw [cZ ho]; simp [builtin,hv,Builtin.len_,run_underlying h1,goInt],.p (.val _)⟩
theorem bm {t:TypeId}{x:Operand}{i:TI}{id k:Nat}{cs:List AV}{y:AV}(ho:o.op=.load t x)(hd:o.dst=some d)(hn:Nat.blt d C.n=true)
  (hi:look C.tt t=some i) (hia:i.k.isAgg=false) (hx:evo sl x=some (.ptr id k)) (hob:look ob id=some cs) (hy:cs[k]? = some y) (hK:K ⟨(d,y)::sl,ob⟩):aO C o K ⟨sl,ob⟩:=by
 refine ok_one hd hn (λ g a w hs=>?_) hK;have h5:=bg hs hx;generalize hv:a.eval x=v at h5
 cases h5 with
 | ptr how=>
  obtain ⟨b',c,e,k1,k2,k3,k4,k5⟩:=hs.ob id cs hob;rw [how] at k1; cases k1;obtain ⟨u,hu,hr⟩:=k5 k y hy;have hc:=(jf hs k2 k).trans hu;exact ⟨u,by simp [execOp,ho,hv,Instr.loadAt,Instr.sureAddr,kF C.good hi hia hc],hr⟩
theorem aN {t:TypeId}{x:Operand}{i:TI}{id k:Nat}{cs:List AV}(ho:o.op=.load t x)(hd:o.dst=some d)(hn:Nat.blt d C.n=true)
  (hi:look C.tt t=some i) (hia:i.k.isAgg=true) (hx:evo sl x=some (.ptr id k)) (hob:look ob id=some cs) (hl:Nat.ble (k+i.size) cs.length=true) {y:AV} (hy:some (ki ((cs.drop k).take i.size))=some y)
  (hK:K ⟨(d,y)::sl,ob⟩):aO C o K ⟨sl,ob⟩:=by
 cases hy
 refine ok_one hd hn (λ g a w hs=>?_) hK;have h5:=bg hs hx;have hl':=ph hl;generalize hv:a.eval x=v at h5
 cases h5 with
 | ptr how=>
  rename_i b;obtain ⟨b',c,e,k1,k2,k3,k4,k5⟩:=hs.ob id cs hob;rw [how] at k1; cases k1
  have hc:∀ j,j<i.size->w.cell? ⟨b,k+j,none⟩=some (c.getD (k+j) Go.undef):=by
   intro j hj;rw [jf hs k2];have:k+j<c.size:=by omega
   simp [Array.getD,this]
  have hld:=jy C.good hi hia (f:=λ j=>c.getD (k+j) Go.undef) hc;refine ⟨.agg ((List.range i.size).map λ j=>c.getD (k+j) Go.undef).toArray,by simp only [execOp,ho,hv,Instr.loadAt,Instr.sureAddr,Sem.run_bind,Sem.run_pure,Result.andThen_ok,hld],lg (by simp; omega) λ j y v h1 h2=>?_⟩;rw [List.getElem?_take] at h1;split at h1
  ·rename_i hj;rw [List.getElem?_drop] at h1;obtain ⟨u,hu,hr⟩:=k5 (k+j) y h1;simp only [List.getElem?_toArray,List.getElem?_map,List.getElem?_range hj,Option.map_some,aq] at h2;subst h2;rw [Array.getD_eq_getD_getElem?,hu];exact hr
  ·cases h1
theorem fu {α:Type}(l xs:List α)(k:Nat)(h:k+xs.length<=l.length)(i:Nat) :
  (l.take k++xs++l.drop (k+xs.length))[i]? = if k<=i/\i<k+xs.length then xs[i-k]? else l[i]?:=by
 have CE:(l.take k).length=k:=by rw [sm]; omega
 by_cases h1:i<k
 ·rw [List.append_assoc,List.getElem?_append_left O,List.getElem?_take,if_pos h1,if_neg O]
 ·rw [List.append_assoc,List.getElem?_append_right O,CE];by_cases h2:i<k+xs.length
  ·rw [List.getElem?_append_left O,if_pos O]
  ·rw [List.getElem?_append_right O,List.getElem?_drop,if_neg O];congr 1; omega
def mC (cs:List AV)(k:Nat)(xs:List AV):List AV:=match xs with
 | [x]=>cs.set k x
 | _=>cs.take k++xs++cs.drop (k+xs.length)
theorem i7 (cs:List AV)(k:Nat)(xs:List AV)(h:k+xs.length<=cs.length)(i:Nat):(mC cs k xs)[i]? = if k<=i/\i<k+xs.length then xs[i-k]? else cs[i]?:=by
 have gen:=fu cs xs k h i;unfold mC;split
 ·rename_i x;simp only [d4,List.length_nil,rd] at h;rw [List.getElem?_set];by_cases e:k=i
  ·subst e; rw [if_pos rfl,if_pos O,if_pos G]; simp
  ·rw [if_neg e,if_neg (by simp; omega)]
 ·exact gen
theorem nF (cs:List AV)(k:Nat)(xs:List AV)(h:k+xs.length<=cs.length):(mC cs k xs).length=cs.length:=by
 unfold mC;split
 ·simp
 ·simp; omega
theorem cv {t:TypeId}{x v:Operand}{i:TI}{id k:Nat}{cs xs:List AV}{y:AV}(ho:o.op=.store t x v)(hd:o.dst=none)
  (hi:look C.tt t=some i) (hx:evo sl x=some (.ptr id k)) (hv:evo sl v=some y) (hc:y.cellsA=some xs) (CC:xs.length=i.size) (hob:look ob id=some cs) (hl:k+xs.length<=cs.length)
  (hK:K ⟨sl,(id,mC cs k xs)::ob⟩):aO C o K ⟨sl,ob⟩:=by
 intro g a w hs;have h5:=bg hs hx;have h6:=bg hs hv;obtain ⟨hs1,hs2⟩:=io hc h6;generalize CL:a.eval x=u at h5
 cases h5 with
 | ptr how=>
  rename_i b;obtain ⟨b',c,e,k1,k2,k3,k4,k5⟩:=hs.ob id cs hob;rw [how] at k1; cases k1
  have CH:∀ u∈(a.eval v).cells.toList,u.oneCell'=true:=by
   intro u hu;obtain ⟨j,hj,rfl⟩:=List.getElem_of_mem hu;simp only [ur] at hj;exact (hs2 j (xs[j]' O) _ (List.getElem?_eq_getElem O) (by simp [hj])).2
  have CN:=run_storeCells_at C.P b k e (a.eval v).cells.toList 0 c w k2 (by simp; omega) CH;simp only [Nat.add_zero,ur] at CN;obtain ⟨c',hc'⟩:∃ c',c'=(c.toList.take k++(a.eval v).cells.toList++c.toList.drop (k+(a.eval v).cells.size)).toArray:=⟨_,rfl⟩
  rw [<- hc'] at CN;have hsz':=run_sizeOf C.good hi w;have CQ:(a.eval v).cells.size=i.size:=hs1.trans CC;unfold Oper.wp
  have hrun:(execOp a.eval o).run C.P w=.ok .skip (w.setRow b c'):=by
   simp [execOp,ho,CL,Instr.storeAt,Instr.sureAddr,storeVar,hsz',CQ,CN]
  rw [hrun];simp only [Oper.upon,hd,Act.put]
  have CP:∀ j,c'[j]? = if k<=j/\j<k+xs.length then (a.eval v).cells[j-k]? else c[j]?:=by
   intro j;rw [hc'];have:=fu c.toList (a.eval v).cells.toList k (by simp; omega) j;simp only [ur,Array.getElem?_toList,hs1] at this;simpa [hs1] using this
  have hsize':c'.size=c.size:=by
   rw [hc']; simp; omega
  have hev':Ev w g.st (w.setRow b c') g.st:=by
   intro b2 o2 h2;refine ⟨h2,?_⟩;have CQ:b2≠b:=λ e=>k4 o2 (e ▸ h2);simp only [World.cell?,setRow_other w b b2 c' CQ]
  have hE:EvO (λ _=>false) w g (w.setRow b c') g:=by
   refine ⟨hev',λ id b _ h=>h,λ id b2 c2 e2 _ h h2=>?_,λ id b o _ _ h=>h,λ id b2 es2 k2' _ h h2=>(setRow_other w b b2 c' (λ e=>by subst e; rw [k2] at h2; cases h2)).trans h2,λ _ _=>rfl,λ id b2 o _ _ h=>setRow_other w b b2 c' (λ e=>k4 o (e ▸ h))⟩;by_cases e1:b2=b
   ·subst e1;rw [k2] at h2; cases h2;exact ⟨c',setRow_heap w b2 c c' e (0,0) k2,hsize'⟩
   ·exact ⟨c2,(setRow_other w b b2 c' e1).trans h2,Z⟩
  refine ⟨g,⟨sl,(id,mC cs k xs)::ob⟩,?_,hK⟩;refine ⟨hs.nd,hs.sz,λ j=>(hs.sl j).mono hE,λ id' cs' h'=>?_,hs.inj,λ j b2 h=>?_,λ b2 o2 h=>?_,hs.fl,λ b2 h=>?_,hs.os,hs.out,hs.tape,?_,hs.stf,hs.owf,hs.shf.next (λ _ b c e _ _ h=>(lC k2 hsize').1 b c e h),hs.nst,hs.ev0.trans hev'⟩
  ·simp only [aJ] at h';by_cases e1:id=id'
   ·subst e1;simp only [if_true,aq] at h';subst h';refine ⟨b,c',e,how,setRow_heap w b c c' e (0,0) k2,by rw [nF _ _ _ hl,hsize']; exact k3,k4,λ j y hy=>?_⟩;rw [i7 _ _ _ hl] at hy;split at hy
    ·rename_i hj;have hlt:j-k<(a.eval v).cells.size:=by omega
     refine ⟨(a.eval v).cells[j-k],?_,((hs2 (j-k) y _ hy (Array.getElem?_eq_getElem hlt)).1).mono hE⟩;rw [CP j,if_pos hj]; exact Array.getElem?_eq_getElem hlt
    ·rename_i hj;obtain ⟨u,hu,hr⟩:=k5 j y hy;exact ⟨u,by rw [CP j,if_neg hj]; exact hu,hr.mono hE⟩
   ·rw [if_neg e1] at h';obtain ⟨b2,c2,e2,m1,m2,m3,m4,m5⟩:=hs.ob id' cs' h';have CQ:b2≠b:=λ e=>e1 (hs.inj _ _ _ how (e ▸ m1));refine ⟨b2,c2,e2,m1,(setRow_other w b b2 c' CQ).trans m2,m3,m4,λ j y hy=>?_⟩;obtain ⟨u,hu,hr⟩:=m5 j y hy;exact ⟨u,hu,hr.mono hE⟩
  ·have:=hs.own j b2 h; exact ⟨by simpa using this.1,this.2⟩
  ·have:=hs.lt b2 o2 h; simpa using this
  ·have CQ:b2≠b:=λ e=>(hs.own id b how).2 (e ▸ h);exact (setRow_other w b b2 c' CQ).trans (hs.fr b2 h)
  ·have:=hs.size; simpa using this
end
def AV.toPV:AV->Option PV
 | .p (.val (.slice none 0 0))=>some (.slice [])
 | .p x=>some x
 | .vec _ _ _ es=>some (.slice es)
 | .agg cs=>match go cs with
  | some l=>some (.agg l)
  | none=>none
 | _=>none where
 go:List AV->Option (List PV)
 | []=>some []
 | .p x::r=>match go r with
  | some l=>some (x::l)
  | none=>none
 | .vec _ _ _ es::r=>match go r with
  | some l=>some (.slice es::l)
  | none=>none
 | _::_=>none
theorem rG {w:World}{g:Gh}:∀ {cs:List AV} {l:List PV},AV.toPV.go cs=some l->cs.length=l.length/\∀ (i:Nat) c y v,cs[i]? = some c->l[i]? = some y->ARep w g c v->PRep w g.st y v
 | [],l,h=>by simp only [AV.toPV.go,aq] at h; subst h; exact ⟨Z,by simp⟩
 | x::r,l,h=>by
  unfold AV.toPV.go at h;split at h
  ·rename_i e; cases e
  ·rename_i x0 r0 e; cases e;split at h
   ·rename_i l' h'; cases h;obtain ⟨h1,h2⟩:=rG (w:=w) (g:=g) h';refine ⟨by simp [h1],λ i c y v hc hy hv=>?_⟩
    cases i with
    | zero=>simp only [List.getElem?_cons_zero,aq] at hc hy; subst hc hy; cases hv with|p h=>exact h
    | succ i=>simp only [List.getElem?_cons_succ] at hc hy; exact h2 i c y v hc hy hv
   ·cases h
  ·rename_i t0 s0 e0 r0 e; cases e;split at h
   ·rename_i l' h'; cases h;obtain ⟨h1,h2⟩:=rG (w:=w) (g:=g) h';refine ⟨by simp [h1],λ i c y v hc hy hv=>?_⟩
    cases i with
    | zero=>simp only [List.getElem?_cons_zero,aq] at hc hy; subst hc hy; exact g7 (.inr ⟨_,_,_,rfl⟩) hv
    | succ i=>simp only [List.getElem?_cons_succ] at hc hy; exact h2 i c y v hc hy hv
   ·cases h
  ·cases h
theorem pL {w:World}{g:Gh}{x:AV}{y:PV}{v:Value}(hx:x.toPV=some y)(h:ARep w g x v):PRep w g.st y v:=by
 unfold AV.toPV at hx;split at hx
 ·cases hx; cases h with|p h=>cases h; exact .nils
 ·cases hx; cases h with|p h=>exact h
 ·cases hx; exact g7 (.inr ⟨_,_,_,rfl⟩) h
 ·split at hx
  ·rename_i cs _ l h'
   cases hx
   cases h with
   | agg hl hh=>
    rename_i vs;obtain ⟨h1,h2⟩:=rG (w:=w) (g:=g) h';refine .agg O λ i y v hy hv=>?_
    have hi:i<cs.length:=by
     have:=(List.getElem?_eq_some_iff.1 hy).1; omega
    exact h2 i cs[i] y v (List.getElem?_eq_getElem hi) hy (hh i _ v (List.getElem?_eq_getElem hi) hv)
  ·cases hx
 ·cases hx
section
variable {C:Cx} {o:Oper} {K:AS->Prop} {sl:List (Nat×AV)} {ob:List (Nat×List AV)} {d:Nat}
theorem xt {t:TypeId}{x:Operand}{f off ft:Nat}{i j:TI}{fs:List (Nat×Nat)}{cs:List PV}{c:PV}(ho:o.op=.field t x f)(hd:o.dst=some d)(hn:Nat.blt d C.n=true)
  (hi:look C.tt t=some i) (CR:i.k=.struct fs) (hf:fs[f]? = some (off,ft)) (hj:look C.tt ft=some j) (hja:j.k.isAgg=false)
  (hx:evo sl x=some (.p (.agg cs))) (hc:cs[off]? = some c) (hK:K ⟨(d,.p c)::sl,ob⟩):aO C o K ⟨sl,ob⟩:=by
 obtain ⟨u,h1,h2⟩:=bc C.good hi;obtain ⟨fa,rfl,h4⟩:=eu (h2.trans CR);refine ok_one hd hn (λ g a w hs=>?_) hK;have h5:=bg hs hx;generalize hv:a.eval x=v at h5
 cases h5 with
 | p h5=>
  cases h5 with
  | agg hl hh=>
   rename_i vs;rw [<- h4] at hf;simp only [List.getElem?_map,Array.getElem?_toList,ld,Prod.mk.injEq] at hf;obtain ⟨fl,hf1,hf2,hf3⟩:=hf;subst hf2 hf3;have hlt:fl.offset<vs.size:=by rw [hl]; exact (List.getElem?_eq_some_iff.1 hc).1
   exact ⟨vs[fl.offset],by simp [execOp,ho,hv,Instr.field,run_underlying h1,hf1,asAgg,part,jS C.good hj,hja,hlt],.p (hh _ c _ hc (Array.getElem?_eq_getElem hlt))⟩
theorem xk {t:TypeId}{x:Operand}{f off ft:Nat}{i j:TI}{fs:List (Nat×Nat)}{cs:List PV}(ho:o.op=.field t x f)(hd:o.dst=some d)(hn:Nat.blt d C.n=true)
  (hi:look C.tt t=some i) (CR:i.k=.struct fs) (hf:fs[f]? = some (off,ft)) (hj:look C.tt ft=some j) (hja:j.k.isAgg=true)
  (hx:evo sl x=some (.p (.agg cs))) (hl':Nat.ble (off+j.size) cs.length=true) (hK:K ⟨(d,.p (.agg ((cs.drop off).take j.size)))::sl,ob⟩):aO C o K ⟨sl,ob⟩:=by
 obtain ⟨u,h1,h2⟩:=bc C.good hi;obtain ⟨fa,rfl,h4⟩:=eu (h2.trans CR);refine ok_one hd hn (λ g a w hs=>?_) hK;have h5:=bg hs hx;have hle:=ph hl';generalize hv:a.eval x=v at h5
 cases h5 with
 | p h5=>
  cases h5 with
  | agg hl hh=>
   rename_i vs;rw [<- h4] at hf;simp only [List.getElem?_map,Array.getElem?_toList,ld,Prod.mk.injEq] at hf;obtain ⟨fl,hf1,hf2,hf3⟩:=hf;subst hf2 hf3;refine ⟨.agg (vs.extract fl.offset (fl.offset+j.size)),by simp [execOp,ho,hv,Instr.field,run_underlying h1,hf1,asAgg,part,jS C.good hj,hja,run_sizeOf C.good hj],.p (.agg (by simp; omega) λ k c v h6 h7=>?_)⟩;rw [List.getElem?_take] at h6;split at h6
   ·rename_i hk;rw [List.getElem?_drop] at h6;rw [Array.getElem?_extract] at h7;split at h7
    ·exact hh _ c v h6 h7
    ·cases h7
   ·cases h6
def nR (place:Nat->Option (Nat×Nat))(cs:List AV):List (Nat×AV)->Option (List AV)
 | []=>some cs
 | (i,v)::r=>match place i,v.cellsA with
  | some (off,size),some xs=>bif Nat.beq xs.length size&&Nat.ble (off+size) cs.length then nR place (mC cs off xs) r else none
  | _,_=>none
theorem mM {w:World}{g:Gh}{place:Nat->Option (Nat×Nat)}:∀ (ps:List (Nat×AV)) (vs:List (Nat×Value)) (cs cs':List AV) (c:Array Value),
  ps.length=vs.length->(∀ (k:Nat) p q,ps[k]? = some p->vs[k]? = some q->p.1=q.1/\ARep w g p.2 q.2) ->
  c.size=cs.length->(∀ (i:Nat) x v,cs[i]? = some x->c[i]? = some v->ARep w g x v)->nR place cs ps=some cs' ->
  ∃ c',Instr.fill place c vs=some c'/\c'.size=cs'.length/\∀ (i:Nat) x v,cs'[i]? = some x->c'[i]? = some v->ARep w g x v
 | [],[],cs,cs',c,_,_,hc,hcc,h=>by
  simp only [nR,aq] at h; subst h;exact ⟨c,rfl,hc,hcc⟩
 | [],_::_,_,_,_,hl,_,_,_,_=>by simp at hl
 | _::_,[],_,_,_,hl,_,_,_,_=>by simp at hl
 | (i,x)::ps,(i',v)::vs,cs,cs',c,hl,hp,hc,hcc,h=>by
  obtain ⟨e,hxv⟩:=hp 0 (i,x) (i',v) Z Z;simp only at e hxv;subst e;simp only [nR] at h;split at h
  ·rename_i off size xs hpl hxs
   cases hb:(Nat.beq xs.length size&&Nat.ble (off+size) cs.length) <;> rw [hb] at h <;> simp only [cond_true,cond_false,reduceCtorEq] at h
   simp only [n7] at hb;have e1:xs.length=size:=bx hb.1;have e2:off+size<=cs.length:=ph hb.2;obtain ⟨CC,hcells⟩:=io hxs hxv;obtain ⟨g1,g2⟩:=Great.foldl_set off v.cells.toList 0 c;obtain ⟨c1,hc1⟩:∃ c1,c1=(v.cells.toList.zipIdx 0).foldl (λ cs (x:Value×Nat)=>cs.setIfInBounds (off+x.2) x.1) c:=⟨_,rfl⟩
   rw [<- hc1] at g1
   obtain ⟨c',h1,h2,h3⟩:=mM ps vs (mC cs off xs) cs' c1 (by simpa using hl) (λ k p q h1 h2=>hp (k+1) p q (by simpa using h1) (by simpa using h2))
    (by rw [g1,nF _ _ _ O]; exact hc) (λ k y u hy hu=>by
     rw [i7 _ _ _ O] at hy;rw [hc1,g2 k] at hu;simp only [Nat.add_zero,ur,CC] at hu;by_cases hk:off<=k/\k<off+xs.length
     ·rw [if_pos hk] at hy;rw [if_pos ⟨hk.1,hk.2,by omega⟩] at hu;exact (hcells _ y u hy (by simpa using hu)).1
     ·rw [if_neg hk] at hy;rw [if_neg O] at hu
      exact hcc k y u hy hu) h
   refine ⟨c',?_,h2,h3⟩;unfold Instr.fill;simp only [hpl];rw [if_neg (by simp [CC,e1]; omega)]
   have:(v.cells.zipIdx.foldl (λ cs (x:Value×Nat)=>cs.setIfInBounds (off+x.2) x.1) c)=c1:=by
    rw [hc1,<- Array.foldl_toList,Array.toList_zipIdx]
   rw [<- h1,<- this]
  ·cases h
def gX (sl:List (Nat×AV)):List (Nat×Operand)->Option (List (Nat×AV))
 | []=>some []
 | (i,x)::r=>match evo sl x,gX sl r with
  | some y,some l=>some ((i,y)::l)
  | _,_=>none
theorem kM {n:Nat}{w0:Base}{w:World}{F:Nat->Prop}{g:Gh}{a:Act}(hs:St n w0 F g ⟨sl,ob⟩ a w):∀ (ps:List (Nat×Operand)) (l:List (Nat×AV)),gX sl ps=some l ->
  l.length=(ps.map λ p=>(p.1,a.eval p.2)).length/\∀ (k:Nat) p q,l[k]? = some p->(ps.map λ p=>(p.1,a.eval p.2))[k]? = some q->p.1=q.1/\ARep w g p.2 q.2
 | [],l,h=>by simp only [gX,aq] at h; subst h; exact ⟨Z,by simp⟩
 | (i,x)::r,l,h=>by
  simp only [gX] at h;split at h
  ·rename_i y l' hy hl'
   cases h
   obtain ⟨h1,h2⟩:=kM hs r l' hl';refine ⟨by simpa using h1,λ k p q hp hq=>?_⟩
   cases k with
   | zero=>simp only [cl,List.getElem?_cons_zero,aq] at hp hq; subst hp hq; exact ⟨rfl,bg hs hy⟩
   | succ k=>simp only [cl,List.getElem?_cons_succ] at hp hq; exact h2 k p q hp hq
  ·cases h
def li (tt:List (Nat×TI)):List (Nat×Nat)->Option (List (Nat×Nat))
 | []=>some []
 | (off,ft)::r=>match look tt ft,li tt r with
  | some j,some l=>some ((off,j.size)::l)
  | _,_=>none
theorem nE {P:Program}{tt:List (Nat×TI)}(good:cj P tt)(w:World):∀ (fs:List Field) (l:List (Nat×Nat)),li tt (fs.map λ f=>(f.offset,f.type))=some l ->
  (fs.mapM (m:=Sem) λ f=>do pure (f.offset,<- sizeOf f.type)).run P w=.ok l w
 | [],l,h=>by simp only [py,li,aq] at h; subst h; simp
 | f::r,l,h=>by
  simp only [cl,li] at h;split at h
  ·rename_i j l' hj hl'
   cases h
   have ih:=nE good w r l' hl';simp only [Sem.run_bind,bind_pure_comp] at ih;simp [run_sizeOf good hj,ih]
  ·cases h
theorem yM {t:TypeId}{parts:Array (Nat×Operand)}{i:TI}{fs pl:List (Nat×Nat)}{ps:List (Nat×AV)}{cs:List AV}{y:AV}(ho:o.op=.build t parts)(hd:o.dst=some d)(hn:Nat.blt d C.n=true)
  (hi:look C.tt t=some i) (CR:i.k=.struct fs) (hpl:li C.tt fs=some pl) (hps:gX sl parts.toList=some ps) (hf:nR (λ (i:Nat)=>pl[i]?) (dj i) ps=some cs) (hy:some (ki cs)=some y)
  (hK:K ⟨(d,y)::sl,ob⟩):aO C o K ⟨sl,ob⟩:=by
 cases hy
 obtain ⟨u,h1,h2⟩:=bc C.good hi;obtain ⟨fa,rfl,h4⟩:=eu (h2.trans CR);refine ok_one hd hn (λ g a w hs=>?_) hK;obtain ⟨z,hz1,hz2⟩:=ig C.good hi w;obtain ⟨q1,q2⟩:=kM hs _ ps hps;rw [<- h4] at hpl;have hpr:=nE C.good w fa.toList pl hpl
 obtain ⟨c',f1,f2,f3⟩:=mM (place:=λ (i:Nat)=>pl[i]?) ps (parts.toList.map λ p=>(p.1,a.eval p.2)) (dj i) cs z.cells q1 q2 (by simp [dj,<- hz2]) (λ k x v hx hv=>by
  simp only [dj,List.getElem?_map,ld,<- hz2,Array.getElem?_toList] at hx;obtain ⟨u,hu,rfl⟩:=hx;rw [hv] at hu; cases hu
  exact .p (.val _)) hf
 refine ⟨.agg c',?_,lg f2 f3⟩;have e1:(parts.map λ (i,x)=>(i,a.eval x)).toList=parts.toList.map λ p=>(p.1,a.eval p.2):=by rw [Array.toList_map]
 have e2:(fa.mapM (m:=Sem) λ f=>do pure (f.offset,<- sizeOf f.type)).run C.P w=.ok pl.toArray w:=by
  rw [Array.mapM_eq_mapM_toList,Sem.run_map,hpr]; rfl
 have e3:(λ (i:Nat)=>(pl.toArray)[i]?)=λ (i:Nat)=>pl[i]?:=by funext i; simp
 simp only [execOp,ho,Instr.build,Sem.run_bind,hz1,Result.andThen_ok,run_underlying h1,e2,e1,e3,f1,Sem.run_pure]
def jA (sl:List (Nat×AV)):Nat->List (Nat×Operand)->Option (List PV)
 | _,[]=>some []
 | k,(i,x)::r=>bif Nat.beq i k then match evo sl x,jA sl (k+1) r with
  | some y,some l=>match y.toPV with
   | some z=>some (z::l)
   | none=>none
  | _,_=>none
  else none
theorem nG {n:Nat}{w0:Base}{w:World}{F:Nat->Prop}{g:Gh}{a:Act}(hs:St n w0 F g ⟨sl,ob⟩ a w):∀ (ps:List (Nat×Operand)) (k:Nat) (l:List PV),jA sl k ps=some l ->
  ps.map (λ p=>(p.1,a.eval p.2))=((ps.map λ p=>a.eval p.2).zipIdx k).map (λ x=>(x.2,x.1))/\l.length=ps.length /\
  ∀ (j:Nat) y v,l[j]? = some y->(ps.map λ p=>a.eval p.2)[j]? = some v->PRep w g.st y v
 | [],k,l,h=>by simp only [jA,aq] at h; subst h; exact ⟨Z,Z,by simp⟩
 | (i,x)::r,k,l,h=>by
  simp only [jA] at h
  cases hb:Nat.beq i k <;> rw [hb] at h <;> simp only [cond_true,cond_false,reduceCtorEq] at h
  have e:i=k:=bx hb;subst e;split at h
  ·rename_i y l' hy hl';split at h
   ·rename_i z hz
    cases h
    obtain ⟨h1,h2,h3⟩:=nG hs r (i+1) l' hl';refine ⟨by simp only [cl,List.zipIdx_cons,h1],by simp [h2],λ j y' v hy' hv=>?_⟩
    cases j with
    | zero=>simp only [cl,List.getElem?_cons_zero,aq] at hy' hv; subst hy' hv; exact pL hz (bg hs hy)
    | succ j=>simp only [cl,List.getElem?_cons_succ] at hy' hv; exact h3 j y' v hy' hv
   ·cases h
  ·cases h
theorem oL {w:World}{st:Nat->Nat->Prop}{x:PV}{v:Value}(h:PRep w st x v)(ho:PV.onesB x.cells=true) :
  v.cells.size=x.cells.length/\∀ (i:Nat) c u,x.cells[i]? = some c->v.cells[i]? = some u->PRep w st c u/\u.oneCell'=true:=by
 have single:x.one=true->x.cells=[x]->v.cells.size=x.cells.length/\∀ (i:Nat) c u,x.cells[i]? = some c->v.cells[i]? = some u->PRep w st c u/\u.oneCell'=true:=by
  intro h1 h2;have h3:=PV.one_rep h h1;rw [l8 h3,h2];refine ⟨rfl,λ i c u h4 h5=>?_⟩
  cases i with
  | zero=>simp only [List.getElem?_cons_zero,aq] at h4; simp at h5; subst h4 h5; exact ⟨h,h3⟩
  | succ i=>simp at h4
 cases h with
 | val v=>exact single (eW ho _ (by simp [PV.cells])) Z
 | agg hl hh=>
  refine ⟨hl,λ i c u h1 h2=>?_⟩;have h4:=hh i c u h1 h2;exact ⟨h4,PV.one_rep h4 (eW ho c (List.mem_of_getElem? h1))⟩
 | ifc=>exact single Z Z
 | aint=>exact single Z Z
 | nils=>exact single Z Z
 | nile a=>exact single Z Z
 | slice=>exact single Z Z
def nq (k:Nat):List PV->Bool|[]=>true|x::r=>Nat.beq x.cells.length k&&PV.onesB x.cells&&nq k r
theorem g0 {k:Nat}:∀ {l:List PV},nq k l=true->∀ x,x∈l->x.cells.length=k/\PV.onesB x.cells=true
 | [],_,_,h=>by simp at h
 | y::r,h,x,hx=>by
  simp only [nq,n7] at h;rcases ro.1 hx with rfl|hx
  ·exact ⟨bx h.1.1,h.1.2⟩
  ·exact g0 h.2 x hx
theorem zI {w:World}{st:Nat->Nat->Prop}{es:List PV}{vs:List Value}{k:Nat}{r:Array Value}{e:TypeId}(hk:0<k)(hl:es.length=vs.length)(hlt:∀ b o,st b o->b<w.heap.size)
  (hr:∀ (j:Nat) y v,es[j]? = some y->vs[j]? = some v->PRep w st y v) (CC:nq k es=true)
  (hrs:r.size=es.length*k) (hrk:∀ m,m<es.length*k->r[m]? = (vs[m / k]?).bind (λ v=>v.cells[m%k]?)) (cap:Nat) (hcap:es.length<=cap) :
  PRep (w.alloc (.cells r e)) (λ b o=>st b o\/(b=w.heap.size/\o<es.length*k)) (.slice es) (.slice (some ⟨w.heap.size,0,none⟩) es.length cap):=by
 have CL:=gJ (w:=w) (T:=λ o=>o<es.length*k) (ob:=.cells r e) hlt
 have key:∀ (i:Nat) y (j:Nat) c,es[i]? = some y->y.cells[j]? = some c->i*k+j<es.length*k/\∃ v u,vs[i]? = some v/\v.cells[j]? = some u/\PRep w st c u/\u.oneCell'=true:=by
  intro i y j c hy hc;obtain ⟨m1,m2⟩:=g0 CC y (List.mem_of_getElem? hy);have hi:i<es.length:=(List.getElem?_eq_some_iff.1 hy).1;have hj:j<k:=by rw [<- m1]; exact (List.getElem?_eq_some_iff.1 hc).1
  have h1:(i+1)*k<=es.length*k:=Nat.mul_le_mul_right k O;rw [th] at h1;refine ⟨by omega,vs[i]' O,?_⟩;have hp:=hr i y _ hy (List.getElem?_eq_getElem O);obtain ⟨q1,q2⟩:=oL hp m2;have hj':j<(vs[i]' O).cells.size:=by omega
  obtain ⟨q3,q4⟩:=q2 j c _ hc (Array.getElem?_eq_getElem hj');exact ⟨_,List.getElem?_eq_getElem O,Array.getElem?_eq_getElem hj',q3,q4⟩
 refine .slice k (λ i j=>r.getD (i*k+j) Go.undef) hcap (λ y hy=>(g0 CC y hy).1) (λ y hy c hc=>eW (g0 CC y hy).2 c hc) (λ i y j c hy hc=>?_) (λ i y j c hy hc=>?_)
 ·obtain ⟨h1,v,u,h2,h3,h4,_⟩:=key i y j c hy hc;have hlt':i*k+j<r.size:=by omega
  refine ⟨.inr ⟨Z,by omega⟩,?_⟩;rw [World.cell?_alloc_new];simp [Array.getD,hlt']
 ·obtain ⟨h1,v,u,h2,h3,h4,_⟩:=key i y j c hy hc;have hj:j<k:=by rw [<- (g0 CC y (List.mem_of_getElem? hy)).1]; exact (List.getElem?_eq_some_iff.1 hc).1
  have e1:r[i*k+j]? = some u:=by
   rw [hrk _ h1];have d1:(i*k+j) / k=i:=by rw [Nat.mul_comm,Nat.mul_add_div hk,Nat.div_eq_of_lt hj]; rfl
   have d2:(i*k+j)%k=j:=by rw [Nat.mul_comm,Nat.mul_add_mod,Nat.mod_eq_of_lt hj]
   rw [d1,d2,h2]; exact h3
  rw [Array.getD_eq_getD_getElem?,e1];exact h4.mono CL
theorem qk {t e len:Nat}{parts:Array (Nat×Operand)}{i ie:TI}{es:List PV}(ho:o.op=.buildSlice t len parts)(hd:o.dst=some d)(hn:Nat.blt d C.n=true)
  (hi:look C.tt t=some i) (CR:i.k=.slice e) (hie:look C.tt e=some ie) (hes:jA sl 0 parts.toList=some es) (CE:Nat.beq es.length len=true) (hpos:Nat.blt 0 len=true)
  (hk:Nat.blt 0 ie.size=true) (hsm:Nat.ble (len*ie.size) 16777216=true) (CC:nq ie.size es=true) (hzl:Nat.beq ie.zero.length ie.size=true)
  (hK:K ⟨(d,.p (.slice es))::sl,ob⟩):aO C o K ⟨sl,ob⟩:=by
 obtain ⟨u,h1,h2⟩:=bc C.good hi;have h3:=aV (h2.trans CR);subst h3;have hlen':es.length=len:=bx CE;have hpos':0<len:=by simpa using hpos
 have hk':0<ie.size:=by simpa using hk
 have hsm':=ph hsm;have hzl':=bx hzl;obtain ⟨j,hj,hj1,hj2,z,hz1,hz2⟩:=dQ C.good hie;intro g a w hs;obtain ⟨q1,q2,q3⟩:=nG hs _ 0 es hes;obtain ⟨vs,hvs⟩:∃ vs,vs=parts.toList.map λ p=>a.eval p.2:=⟨_,rfl⟩
 rw [<- hvs] at q1 q3;have hvl:es.length=vs.length:=by rw [hvs,n6]; exact q2
 have hzs:z.cells.size=ie.size:=by rw [<- hzl',<- hz2,ur]
 have hvsz:∀ v∈vs,v.cells.size=ie.size:=by
  intro v hv;obtain ⟨m,hm,rfl⟩:=List.getElem_of_mem hv;have hp:=q3 m (es[m]' O) _ (List.getElem?_eq_getElem O) (List.getElem?_eq_getElem hm);obtain ⟨m1,m2⟩:=g0 CC (es[m]' O) (List.getElem_mem _);rw [(oL hp m2).1,m1]
 obtain ⟨r,f1,f2,f3⟩:=Great.fill_dense hk' vs 0 ((Array.range (len*ie.size)).map (z.cells[· % z.cells.size]!)) hvsz (by simp; rw [<- hvl,hlen']; exact bt _)
 have f1':Instr.fill (λ i=>some (i*ie.size,ie.size)) ((Array.range (len*ie.size)).map (z.cells[· % z.cells.size]!)) (parts.map λ (i,x)=>(i,a.eval x)).toList=some r:=by
  rw [Array.toList_map]; rw [<- f1]; congr 1
 have hrun:=run_buildSlice (P:=C.P) w t e len (parts.map λ (i,x)=>(i,a.eval x)) r j z h1 hj hz1 (by rw [hj1]; omega) (by rw [hj1]; have:=Nat.mul_pos hpos' hk'; omega) (by rw [hj1]; exact f1');unfold Oper.wp
 have hrun':(execOp a.eval o).run C.P w=.ok (.value (.slice (some ⟨w.heap.size,0,none⟩) len len)) (w.alloc (.cells r e)):=by
  simp only [execOp,ho,Sem.run_bind,hrun,Result.andThen_ok,Sem.run_pure]
 rw [hrun'];have hprep:=zI (e:=e) hk' hvl hs.lt q3 CC (r:=r) (by rw [f2]; simp; rw [hlen']) (λ m hm=>by rw [f3 m,if_pos (by simp; rw [<- hvl]; exact hm)]; simp) len O;have CN:=(hs.settled (λ o=>o<es.length*ie.size) r e).put (d:=o.dst) (λ t ht=>by rw [hd] at ht; cases ht; exact mv ▸ hn) (.p hprep);rw [hlen'] at CN;simp only [Oper.upon];rw [hd] at CN ⊢;exact ⟨_,_,CN,hK⟩
def gx (sl:List (Nat×AV)):List Operand->Option (List AV)
 | []=>some []
 | x::r=>match evo sl x,gx sl r with
  | some y,some l=>some (y::l)
  | _,_=>none
def uc:List AV->List PV->Prop|[],[]=>True|x::r,y::q=>x.sub (.p y)/\uc r q|_,_=>False
theorem gf {n:Nat}{w0:Base}{w:World}{F:Nat->Prop}{g:Gh}{a:Act}(hs:St n w0 F g ⟨sl,ob⟩ a w):∀ (xs:List Operand) (l:List AV),gx sl xs=some l ->
  l.length=xs.length/\∀ (j:Nat) y v,l[j]? = some y->(xs.map a.eval)[j]? = some v->ARep w g y v
 | [],l,h=>by simp only [gx,aq] at h; subst h; exact ⟨Z,by simp⟩
 | x::r,l,h=>by
  simp only [gx] at h;split at h
  ·rename_i y l' hy hl'
   cases h
   obtain ⟨h1,h2⟩:=gf hs r l' hl';refine ⟨by simp [h1],λ j y' v hy' hv=>?_⟩
   cases j with
   | zero=>simp only [cl,List.getElem?_cons_zero,aq] at hy' hv; subst hy' hv; exact bg hs hy
   | succ j=>simp only [cl,List.getElem?_cons_succ] at hy' hv; exact h2 j y' v hy' hv
  ·cases h
theorem pm:∀ {l:List AV} {q:List PV},uc l q->l.length=q.length/\∀ (j:Nat) x y,l[j]? = some x->q[j]? = some y->x.sub (.p y)
 | [],[],_=>⟨Z,by simp⟩
 | [],_::_,h=>h.elim
 | _::_,[],h=>h.elim
 | x::r,y::q,h=>by
  obtain ⟨h1,h2⟩:=pm h.2;refine ⟨by simp [h1],λ j x' y' hx hy=>?_⟩
  cases j with
  | zero=>simp only [List.getElem?_cons_zero,aq] at hx hy; subst hx hy; exact h.1
  | succ j=>simp only [List.getElem?_cons_succ] at hx hy; exact h2 j x' y' hx hy
def AV.settle:AV->Option AV
 | .p x=>some (.p x)
 | .vec _ _ _ es=>some (.p (.slice es))
 | .tuple l=>match go l with
  | some l=>some (.tuple l)
  | none=>none
 | .agg cs=>match AV.toPV (.agg cs) with
  | some y=>some (.p y)
  | none=>none
 | _=>none where
 go:List AV->Option (List AV)
 | []=>some []
 | x::r=>match AV.toPV x,go r with
  | some y,some l=>some (.p y::l)
  | _,_=>none
theorem qF {w:World}{g g':Gh}(CN:g'.st=g.st):∀ {l l':List AV},AV.settle.go l=some l'->l.length=l'.length/\∀ (j:Nat) x y v,l[j]? = some x->l'[j]? = some y->ARep w g x v->ARep w g' y v
 | [],l',h=>by simp only [AV.settle.go,aq] at h; subst h; exact ⟨Z,by simp⟩
 | x::r,l',h=>by
  simp only [AV.settle.go] at h;split at h
  ·rename_i y l0 hy h0
   cases h
   obtain ⟨h1,h2⟩:=qF (w:=w) CN h0;refine ⟨by simp [h1],λ j x' y' v hx hy' hv=>?_⟩
   cases j with
   | zero=>simp only [List.getElem?_cons_zero,aq] at hx hy'; subst hx hy'; exact .p (CN ▸ pL hy hv)
   | succ j=>simp only [List.getElem?_cons_succ] at hx hy'; exact h2 j x' y' v hx hy' hv
  ·cases h
theorem pF {w:World}{g g':Gh}(CN:g'.st=g.st){x y:AV}{v:Value}(hx:x.settle=some y)(h:ARep w g x v):ARep w g' y v:=by
 unfold AV.settle at hx;split at hx
 ·cases hx; cases h with|p h=>exact .p (CN ▸ h)
 ·cases hx; exact .p (CN ▸ g7 (.inr ⟨_,_,_,rfl⟩) h)
 ·split at hx
  ·rename_i l _ l' h'
   cases hx
   cases h with
   | tuple hl hh=>
    obtain ⟨h1,h2⟩:=qF (w:=w) CN h';refine .tuple O λ i c v hc hv=>?_;have hi:i<l.length:=by have:=(List.getElem?_eq_some_iff.1 hc).1; omega
    exact h2 i l[i] c v (List.getElem?_eq_getElem hi) hc (hh i _ v (List.getElem?_eq_getElem hi) hv)
  ·cases hx
 ·split at hx
  ·rename_i y' h'; cases hx; exact .p (CN ▸ pL h' h)
  ·cases hx
 ·cases hx
theorem Ai {f:FuncId}{args:Array Operand}{ts:Array TypeId}{l:List AV}{q:List PV}{R:AV->Prop}(hc:au C.P f q R)(ho:o.op=.call { callee:=.value (.func f),args:=args,argTypes:=ts })
  (hd:o.dst=some d) (hn:Nat.blt d C.n=true) (hl:gx sl args.toList=some l) (hq:uc l q) (henter:∀ vs w,(callFunc f vs).run C.P w=.ok (.enter f vs) w)
  (hK:∀ r,R r->∃ r',r.settle=some r'/\K ⟨(d,r')::sl,ob⟩):aO C o K ⟨sl,ob⟩:=by
 intro g a w hs;obtain ⟨a1,a2⟩:=gf hs _ l hl;obtain ⟨b1,b2⟩:=pm hq
 have hargs:∀ (i:Nat) c v,q[i]? = some c->(args.map a.eval)[i]? = some v->PRep w g.st c v:=by
  intro i c v hc hv;have hi:i<l.length:=by have:=(List.getElem?_eq_some_iff.1 hc).1; omega
  have hv':(args.toList.map a.eval)[i]? = some v:=by rw [<- Array.toList_map]; simpa using hv
  have h1:=b2 i l[i] c (List.getElem?_eq_getElem hi) hc w g v (a2 i _ v (List.getElem?_eq_getElem hi) hv')
  cases h1 with
  | p h1=>exact h1
 have hcall:=hc w g.st (args.map a.eval) hs.ok0 (by have CE:=a1.symm.trans b1; simpa using CE) hargs;unfold Oper.wp
 have hrun:(execOp a.eval o).run C.P w=.ok (.enter f (args.map a.eval)) w:=by
  simp [execOp,ho,resolve,Act.eval,Deferred.ofValue,invoke,henter]
 rw [hrun];simp only [Oper.upon];refine hcall.mono λ e w' ⟨v,r,g',he,hR,hr,hA⟩=>?_;subst he;obtain ⟨r',hr',hK'⟩:=hK r hR
 have hs':St C.n C.w0 C.F ⟨g'.st,g.ow⟩ ⟨sl,ob⟩ a w':=by
  refine hs.evolve0 (λ b o h=>?_) (λ id b h=>?_) hs.inj (λ i b h=>?_) hA.lt (λ b h=>?_) hA.os hA.out hA.tape hA.size (λ b hb o=>?_) (λ _ _=>rfl)
  ·have hlt:=hs.lt b o h;exact ⟨(hA.stf b hlt o).2 h,by simp only [World.cell?,hA.fr b hlt]⟩
  ·have hlt:=(hs.own id b h).1;exact ⟨h,hA.fr b hlt,λ o ho=>(hA.stf b hlt o).1 ho⟩
  ·have:=hs.own i b h; have:=hA.size; exact ⟨by omega,(hs.own i b h).2⟩
  ·have:=hs.fl b h; have:=hs.size; exact hA.fr b O
  ·have:=hs.fl b hb; have:=hs.size; exact hA.stf b O o
 have hp:=hs'.put (d:=o.dst) (λ t ht=>by rw [hd] at ht; cases ht; exact mv ▸ hn) (pF (g:=g') (g':=⟨g'.st,g.ow⟩) rfl hr' hr);rw [hd] at hp;simp only;rw [hd];exact ⟨_,_,hp,hK'⟩
theorem aY {f:FuncId}{args:Array Operand}{ts:Array TypeId}{l:List AV}{q:List PV}{r r':AV}(hc:au C.P f q (·=r))(ho:o.op=.call { callee:=.value (.func f),args:=args,argTypes:=ts })
  (hd:o.dst=some d) (hn:Nat.blt d C.n=true) (hl:gx sl args.toList=some l) (hq:uc l q) (henter:∀ vs w,(callFunc f vs).run C.P w=.ok (.enter f vs) w)
  (hr:r.settle=some r') (hK:K ⟨(d,r')::sl,ob⟩):aO C o K ⟨sl,ob⟩ :=
 Ai hc ho hd hn hl hq henter λ _ e=>e ▸ ⟨r',hr,hK⟩
end
theorem kx {P:Program}{w:World}{st:Nat->Nat->Prop}{ys:List PV}{v:Value}{sz:Nat}{tx e':TypeId}(hk:P.underlying tx=some (.slice e'))(h:PRep w st (.slice ys) v)
  (CC:∀ y∈ys,y.cells.length=sz) (h0:0<sz) :
  ∃ news:List Value,Src P sz tx v ys.length news w/\(∀ (i:Nat) y (j:Nat) c,ys[i]? = some y->y.cells[j]? = some c->c.one=true/\∃ u,news[i*sz+j]? = some u/\PRep w st c u):=by
 have hempty:ys=[]->∃ news:List Value,Src P sz tx v ys.length news w/\(∀ (i:Nat) y (j:Nat) c,ys[i]? = some y->y.cells[j]? = some c->c.one=true/\∃ u,news[i*sz+j]? = some u/\PRep w st c u):=by
  intro e;subst e;rcases h.nil_inv with rfl|⟨a,cap,rfl⟩
  ·exact ⟨[],Src.ofNil w hk 0,by simp⟩
  ·exact ⟨[],Src.ofSlice w hk a 0 cap [] G G G,by simp⟩
 by_cases CQ:ys=[]
 ·exact hempty CQ
 cases h with
 | nils=>exact absurd Z CQ
 | nile a=>exact absurd Z CQ
 | slice sz' cf hcap hsz' CH hc hr=>
  rename_i b off cap
  have e1:sz'=sz:=by
   cases ys with
   | nil=>exact absurd Z CQ
   | cons y r=>exact (hsz' y G).symm.trans (CC y G)
  subst e1
  have cellOf:∀ (i j:Nat),i<ys.length->j<sz'->∃ y c,ys[i]? = some y/\y.cells[j]? = some c:=by
   intro i j hi hj;have h1:=CC ys[i] (List.getElem_mem hi);exact ⟨ys[i],(ys[i]).cells[j]' O,List.getElem?_eq_getElem hi,List.getElem?_eq_getElem O⟩
  have split:∀ m,m<ys.length*sz'->m / sz'<ys.length/\m%sz'<sz'/\m / sz'*sz'+m%sz'=m:=by
   intro m hm;exact ⟨(Nat.div_lt_iff_lt_mul h0).2 hm,Nat.mod_lt _ h0,by rw [Nat.mul_comm]; exact Nat.div_add_mod m sz'⟩
  refine ⟨(List.range (ys.length*sz')).map λ m=>cf (m / sz') (m%sz'),Src.ofSlice w hk ⟨b,off,none⟩ ys.length cap _ G (λ j u hu=>?_) (λ u hu=>?_),λ i y j c hy hc'=>?_⟩
  ·simp only [List.getElem?_map,ld] at hu;obtain ⟨m,hm,rfl⟩:=hu;have hj:j<ys.length*sz':=by have:=(List.getElem?_eq_some_iff.1 hm).1; simpa using this
   rw [List.getElem?_range hj] at hm; cases hm;obtain ⟨s1,s2,s3⟩:=split j hj;obtain ⟨y,c,hy,hcc⟩:=cellOf _ _ s1 s2;have:=(hc _ y _ c hy hcc).2;rw [show off+j / sz'*sz'+j%sz'=off+j by omega] at this;rw [add_lit]; exact this
  ·simp only [List.mem_map,List.mem_range] at hu;obtain ⟨m,hm,rfl⟩:=hu;obtain ⟨s1,s2,s3⟩:=split m hm;obtain ⟨y,c,hy,hcc⟩:=cellOf _ _ s1 s2;exact PV.one_rep (hr _ y _ c hy hcc) (CH y (List.mem_of_getElem? hy) c (List.mem_of_getElem? hcc))
  ·have hi:i<ys.length:=(List.getElem?_eq_some_iff.1 hy).1;have hj:j<sz':=by rw [<- CC y (List.mem_of_getElem? hy)]; exact (List.getElem?_eq_some_iff.1 hc').1
   have h1:(i+1)*sz'<=ys.length*sz':=Nat.mul_le_mul_right sz' O;rw [th] at h1;refine ⟨CH y (List.mem_of_getElem? hy) c (List.mem_of_getElem? hc'),cf i j,?_,hr i y j c hy hc'⟩;rw [List.getElem?_map,List.getElem?_range O,Option.map_some];have d1:(i*sz'+j) / sz'=i:=by rw [Nat.mul_comm,Nat.mul_add_div h0,Nat.div_eq_of_lt hj]; rfl
   have d2:(i*sz'+j)%sz'=j:=by rw [Nat.mul_comm,Nat.mul_add_mod,Nat.mod_eq_of_lt hj]
   rw [d1,d2]
theorem wG {w:World}{g:Gh}{tok b off cap sz ty:Nat}{c:Array Value}{e:TypeId}{es:List PV}(how:g.ow tok=some b)(hb:w.heap[b]? = some (.cells c e (0,0)))(CJ:c.size=off+cap*sz)
  (hcap:es.length<=cap) (CC:∀ e,e∈es->e.cells.length=sz) (CN:∀ o,g.st b o↔o<off+es.length*sz)
  (CP:∀ (i:Nat) y (j:Nat) x,es[i]? = some y->y.cells[j]? = some x->x.one=true/\∃ u,c[off+i*sz+j]? = some u/\PRep w g.st x u) (hty:ty=0\/ty=e+1/\off=0) :
  ARep w g (.vec tok sz ty es) (.slice (some ⟨b,off,none⟩) es.length cap):=by
 have hj:∀ (i:Nat) y (j:Nat) x,es[i]? = some y->y.cells[j]? = some x->i*sz+j<es.length*sz:=by
  intro i y j x hy hx;have hi:i<es.length:=(List.getElem?_eq_some_iff.1 hy).1;have hj:j<sz:=by rw [<- CC y (List.mem_of_getElem? hy)]; exact (List.getElem?_eq_some_iff.1 hx).1
  have h1:(i+1)*sz<=es.length*sz:=Nat.mul_le_mul_right sz O;rw [th] at h1;omega
 refine .vec how hb CJ CC CN (.slice sz (λ i j=>c.getD (off+i*sz+j) Go.undef) hcap CC (λ y hy x hx=>?_) (λ i y j x hy hx=>⟨(CN _).2 (by have:=hj i y j x hy hx; omega),?_⟩) (λ i y j x hy hx=>?_)) hty
 ·obtain ⟨i,hi,rfl⟩:=List.getElem_of_mem hy;obtain ⟨j,hj',rfl⟩:=List.getElem_of_mem hx;exact (CP i _ j _ (List.getElem?_eq_getElem hi) (List.getElem?_eq_getElem hj')).1
 ·obtain ⟨_,u,hu,_⟩:=CP i y j x hy hx;simp only [World.cell?,hb];rw [Array.getD_eq_getD_getElem?,hu]; rfl
 ·obtain ⟨_,u,hu,hr⟩:=CP i y j x hy hx;rw [Array.getD_eq_getD_getElem?,hu]; exact hr
theorem BU {w:World}{g:Gh}{tok b cap sz ty:Nat}{c:Array Value}{e:TypeId}{es:List PV}(how:g.ow tok=some b)(hb:w.heap[b]? = some (.cells c e (0,0)))(CJ:c.size=cap*sz)
  (hcap:es.length<=cap) (CC:∀ e,e∈es->e.cells.length=sz) (CN:∀ o,g.st b o↔o<es.length*sz)
  (CP:∀ (i:Nat) y (j:Nat) x,es[i]? = some y->y.cells[j]? = some x->x.one=true/\∃ u,c[i*sz+j]? = some u/\PRep w g.st x u) (hty:ty=0\/ty=e+1) :
  ARep w g (.vec tok sz ty es) (.slice (some ⟨b,0,none⟩) es.length cap) :=
 wG how hb O hcap CC (λ o=>(CN o).trans (by rw [rd])) (λ i y j x h1 h2=>by rw [rd]; exact CP i y j x h1 h2) (hty.imp id λ h=>⟨h,Z⟩)
theorem s5 {w:World}{g:Gh}{sz b off cap:Nat}{es:List PV}{c:Array Value}{e:TypeId}(CC:∀ e,e∈es->e.cells.length=sz)
  (hb:w.heap[b]? = some (.cells c e (0,0))) (hr:PRep w g.st (.slice es) (.slice (some ⟨b,off,none⟩) es.length cap)) :
  ∀ (i:Nat) y (j:Nat) x,es[i]? = some y->y.cells[j]? = some x->x.one=true/\∃ u,c[off+i*sz+j]? = some u/\PRep w g.st x u:=by
 intro i y j x hy hx
 cases hr with
 | nile a=>simp at hy
 | slice sz' cf hcap hsz' CH hc hr=>
  have e1:sz'=sz:=(hsz' y (List.mem_of_getElem? hy)).symm.trans (CC y (List.mem_of_getElem? hy));subst e1;have h1:=(hc i y j x hy hx).2;simp only [World.cell?,hb] at h1;exact ⟨CH y (List.mem_of_getElem? hy) x (List.mem_of_getElem? hx),cf i j,h1,hr i y j x hy hx⟩
theorem z8 {w:World}{g:Gh}{sz b cap:Nat}{es:List PV}{c:Array Value}{e:TypeId}(CC:∀ e,e∈es->e.cells.length=sz)
  (hb:w.heap[b]? = some (.cells c e (0,0))) (hr:PRep w g.st (.slice es) (.slice (some ⟨b,0,none⟩) es.length cap)) :
  ∀ (i:Nat) y (j:Nat) x,es[i]? = some y->y.cells[j]? = some x->x.one=true/\∃ u,c[i*sz+j]? = some u/\PRep w g.st x u:=λ i y j x h1 h2=>by
 have:=s5 CC hb hr i y j x h1 h2
 rwa [rd] at this
theorem St.inplace {n:Nat}{w0:Base}{w:World}{F:Nat->Prop}{g:Gh}{s:AS}{a:Act}(hs:St n w0 F g s a w)(D:Nat->Bool)(hDl:∀ i,D i=true->i<M1){k d b:Nat}(hk:g.ow k=some b)(hDk:D k=true)(hDd:D d=true)
  {c c':Array Value} {e:TypeId} (hb:w.heap[b]? = some (.cells c e (0,0))) (CC:c'.size=c.size) (hcc:∀ o,g.st b o->c'[o]? = c[o]?) (T:Nat->Prop) (hT:∀ o,g.st b o->T o) :
  St n w0 F ⟨λ b' o=>(b'=b/\T o)\/(b'≠b/\g.st b' o),λ i=>if i=d then some b else if D i then none else g.ow i⟩ (bV D s) a (w.setRow b c'):=by
 have hbl:b<w.heap.size:=(hs.own k b hk).1;have hnF:¬ F b:=(hs.own k b hk).2
 have keyD:∀ i b',D i=false->g.ow i=some b'->b'≠b:=λ i b' hD hi e=>by
  subst e;have:=hs.inj i k b' hi hk;subst this;rw [hDk] at hD; cases hD
 refine hs.evolve D hDl (λ b' o h=>?_) (λ id b' hD h=>?_) (λ i j b' h1 h2=>?_) (λ i b' h=>?_) (λ b' o h=>?_) (λ b' h=>?_) Z Z Z G (λ b' hb' o=>?_) (λ i hi=>?_)
 ·by_cases e:b'=b
  ·subst e;refine ⟨.inl ⟨rfl,hT o h⟩,?_⟩;simp only [World.cell?,hb,setRow_heap w b' c c' _ (0,0) hb];simpa using hcc o h
  ·exact ⟨.inr ⟨e,h⟩,by simp only [World.cell?,setRow_other w b b' c' e]⟩
 ·have CQ:=keyD id b' hD h;have hid:id≠d:=λ e=>by subst e; rw [hDd] at hD; cases hD
  refine ⟨by simp only [if_neg hid,hD]; exact h,setRow_other w b b' c' CQ,λ o ho=>?_⟩;rcases ho with ⟨h1,_⟩|⟨_,h1⟩
  ·exact absurd h1 CQ
  ·exact h1
 ·have key:∀ i,(if i=d then some b else if D i then none else g.ow i)=some b'->(i=d/\b'=b)\/(i≠d/\D i=false/\g.ow i=some b'):=by
   intro i h;by_cases e1:i=d
   ·rw [if_pos e1] at h; cases h; exact .inl ⟨e1,rfl⟩
   ·rw [if_neg e1] at h
    cases hD:D i
    ·rw [hD] at h; exact .inr ⟨e1,rfl,h⟩
    ·rw [hD] at h; cases h
  rcases key i h1 with ⟨a1,a2⟩|⟨a1,a2,a3⟩ <;> rcases key j h2 with ⟨b1,b2⟩|⟨b1,b2,b3⟩
  ·rw [a1,b1]
  ·exact absurd a2 (keyD j b' b2 b3)
  ·exact absurd b2 (keyD i b' a2 a3)
  ·exact hs.inj i j b' a3 b3
 ·dsimp only at h;by_cases e1:i=d
  ·rw [if_pos e1] at h; cases h;exact ⟨by simpa using hbl,hnF⟩
  ·rw [if_neg e1] at h;split at h
   ·cases h
   ·have:=hs.own i b' h; exact ⟨by simpa using this.1,this.2⟩
 ·rcases h with ⟨h,_⟩|⟨_,h⟩
  ·subst h; simpa using hbl
  ·have:=hs.lt b' o h; simpa using this
 ·exact setRow_other w b b' c' λ e=>hnF (e ▸ h)
 ·have CQ:b'≠b:=λ e=>hnF (e ▸ hb');exact ⟨λ h=>(h.resolve_left λ h=>CQ h.1).2,λ h=>.inr ⟨CQ,h⟩⟩
 ·have h1:i≠d:=λ e=>by have:=hDl d hDd; omega
  have h2:D i=false:=by
   cases hq:D i
   ·rfl
   ·have:=hDl i hq; omega
  simp only [if_neg h1,h2]; rfl
section
variable {C:Cx} {o:Oper} {K:AS->Prop} {sl:List (Nat×AV)} {ob:List (Nat×List AV)} {d:Nat}
theorem en {P:Program}{w w':World}(t tx ty e:TypeId)(i:TypeInfo)(ht:P.underlying t=some (.slice e))(hi:P.info? e=some i)(b sLen sCap:Nat)(x:Value)(n:Nat)(news:List Value)(hs:Src P i.size tx x n news w)
  (hroom:sLen+n<=sCap) (CN:(storeCells ⟨b,sLen*i.size,none⟩ news).run P w=.ok () w') :
  (Builtin.append_ #[t,tx] ty #[.slice (some ⟨b,0,none⟩) sLen sCap,x]).run P w=.ok (.slice (some ⟨b,0,none⟩) (sLen+n) sCap) w':=by
 rcases hs.kind with ⟨e',hk⟩|hk <;> simp [Builtin.append_,run_underlying ht,run_underlying hk,sizeOf,typeInfo,hi,hs.len,hroom,hs.cells,add_lit,CN]
theorem nr {P:Program}{w w':World}(t tx ty e:TypeId)(i:TypeInfo)(ht:P.underlying t=some (.slice e))(hi:P.info? e=some i)(b off sLen sCap:Nat)(x:Value)(n:Nat)(news:List Value)(hs:Src P i.size tx x n news w)
  (hroom:sLen+n<=sCap) (CN:(storeCells ⟨b,off+sLen*i.size,none⟩ news).run P w=.ok () w') :
  (Builtin.append_ #[t,tx] ty #[.slice (some ⟨b,off,none⟩) sLen sCap,x]).run P w=.ok (.slice (some ⟨b,off,none⟩) (sLen+n) sCap) w':=by
 rcases hs.kind with ⟨e',hk⟩|hk <;> simp [Builtin.append_,run_underlying ht,run_underlying hk,sizeOf,typeInfo,hi,hs.len,hroom,hs.cells,add_lit,CN]
def wE (C:Cx)(sl:List (Nat×AV))(ob:List (Nat×List AV))(tx:TypeId)(y:Operand)(sz:Nat)(ys:List PV):Prop :=∀ (g:Gh) (a:Act) (w:World),St C.n C.w0 C.F g ⟨sl,ob⟩ a w->∃ news:List Value,Src C.P sz tx (a.eval y) ys.length news w /\ (∀ (i:Nat) y (j:Nat) c,ys[i]? = some y->y.cells[j]? = some c->c.one=true/\∃ u,news[i*sz+j]? = some u/\PRep w g.st c u)
theorem tr {tx e':TypeId}{y:Operand}{Y0z:AV}{ys:List PV}{sz:Nat}{j:TI}(hj:look C.tt tx=some j)(hjk:j.k=.slice e')
  (hy:evo sl y=some Y0z) (hY:Y0z.elems? = some ys) (CC:∀ y∈ys,y.cells.length=sz) (h0:0<sz):wE C sl ob tx y sz ys:=by
 intro g a w hs;obtain ⟨u',h1',h2'⟩:=bc C.good hj;have h3':=aV (h2'.trans hjk);subst h3';exact kx (P:=C.P) h1' (dr hY (bg hs hy)) CC h0
theorem j6 (ty0:Nat){es ys:List PV}{t tx e:TypeId}{i ie:TI}{y:Operand}(D:Nat->Bool)(hDl:∀ i,D i=true->i<M1)(hDd:D d=true)
  (hi:look C.tt t=some i) (CR:i.k=.slice e) (hie:look C.tt e=some ie)
  (hS:wE C sl ob tx y ie.size ys) (CC:∀ y∈ys,y.cells.length=ie.size) (h0:0<ie.size) (hzl:ie.zero.length=ie.size)
  (CE:(es.length+ys.length)*ie.bytes<=140737488355328) (hlen':es.length+ys.length<=9223372036854775807)
  {g:Gh} {a:Act} {w:World} (hs:St C.n C.w0 C.F g ⟨sl,ob⟩ a w) (base:Option Addr) (cap:Nat) (olds:List Value)
  (hold:(Builtin.firstCells ie.size es.length (.slice base es.length cap)).run C.P w.drew=.ok olds.toArray w.drew) (hol:olds.length=es.length*ie.size)
  (hes:∀ e,e∈es->e.cells.length=ie.size)
  (hoc:∀ (i:Nat) y (j:Nat) x,es[i]? = some y->y.cells[j]? = some x->x.one=true/\∃ u,olds[i*ie.size+j]? = some u/\PRep w g.st x u)
  (hg:cap<es.length+ys.length) (ty:TypeId) (hd:o.dst=some d) (hn:Nat.blt d C.n=true) (hty:ty0=0\/ty0=e+1) :
  ∃ v w' g',(Builtin.append_ #[t,tx] ty #[.slice base es.length cap,a.eval y]).run C.P w=.ok v w' /\
   St C.n C.w0 C.F g' ⟨(d,.vec d ie.size ty0 (es++ys))::(bV D ⟨sl,ob⟩).sl,(bV D ⟨sl,ob⟩).ob⟩ (a.put (some d) v) w':=by
 obtain ⟨u,h1,h2⟩:=bc C.good hi;have h3:=aV (h2.trans CR);subst h3;obtain ⟨info,hf1,hf2,hf3,z,hf4,hf5⟩:=dQ C.good hie;obtain ⟨news,hsrc,hnews⟩:=hS g a w hs;have hfit:=growslice_fits (bytes:=ie.bytes) hg CE;have hrun:=run_append_grow_src w t tx ty e info z h1 hf1 hf4 base es.length cap olds (by rw [hf2]; exact hold) (a.eval y) ys.length news (by rw [hf2]; exact hsrc) hg O (by rw [hf3]; exact hfit);obtain ⟨q,hq⟩:∃ q,q=grownCap w (es.length+ys.length) cap e:=⟨_,rfl⟩
 rw [<- hq] at hrun
 have hqn:es.length+ys.length<=q:=by
  rw [hq]; unfold grownCap; simp only [Question.cut]; omega
 have hzs:z.cells.size=ie.size:=by rw [<- hzl,<- hf5,ur]
 obtain ⟨c,hc⟩:∃ c,c=(olds++news).toArray++Builtin.zeroCells z.cells (q-(es.length+ys.length)):=⟨_,rfl⟩
 rw [<- hc] at hrun
 have CJ:c.size=q*ie.size:=by
  rw [hc];simp only [Array.size_append,List.size_toArray,n8,hol,hsrc.newsLen,size_zeroCells,hzs];rw [<- th,<- th]; congr 1; omega
 have hget:∀ m,m<(es.length+ys.length)*ie.size->c[m]? = if m<es.length*ie.size then olds[m]? else news[m-es.length*ie.size]?:=by
  intro m hm;rw [th] at hm;rw [hc,Array.getElem?_append];simp only [List.size_toArray,n8,hol,hsrc.newsLen];rw [if_pos hm,List.getElem?_toArray,List.getElem?_append,hol]
 have hf:=hs.drew.fresh D hDl d hDd (λ o=>o<(es++ys).length*ie.size) c e
 have hv:ARep (w.drew.alloc (.cells c e)) ⟨λ b o=>g.st b o\/(b=w.drew.heap.size/\o<(es++ys).length*ie.size),λ i=>if i=d then some w.drew.heap.size else if D i then none else g.ow i⟩
   (.vec d ie.size ty0 (es++ys)) (.slice (some ⟨w.drew.heap.size,0,none⟩) (es++ys).length q):=by
  refine BU G bG CJ (by simp; omega) (λ x hx=>?_) (λ o=>⟨λ h=>?_,λ h=>.inr ⟨Z,h⟩⟩) (λ i y j x hy hx=>?_) hty
  ·rcases List.mem_append.1 hx with hx|hx
   ·exact hes x hx
   ·exact CC x hx
  ·rcases h with h|h
   ·exact absurd (hs.lt _ _ h) (Nat.lt_irrefl _)
   ·exact h.2
  ·have CL:=gJ (w:=w.drew) (T:=λ o=>o<(es++ys).length*ie.size) (ob:=.cells c e) hs.drew.lt
   have hcl:y.cells.length=ie.size:=by
    rcases List.mem_append.1 (List.mem_of_getElem? hy) with hx|hx
    ·exact hes y hx
    ·exact CC y hx
   have hjl:j<ie.size:=by rw [<- hcl]; exact (List.getElem?_eq_some_iff.1 hx).1
   have hil:i<(es++ys).length:=(List.getElem?_eq_some_iff.1 hy).1;simp only [n8] at hil;have hm1:(i+1)*ie.size<=(es.length+ys.length)*ie.size:=Nat.mul_le_mul_right _ O;rw [th] at hm1;rw [List.getElem?_append] at hy;split at hy
   ·rename_i hlt;obtain ⟨k1,u,hu,hr⟩:=hoc i y j x hy hx;have hm2:(i+1)*ie.size<=es.length*ie.size:=Nat.mul_le_mul_right _ O;rw [th] at hm2;refine ⟨k1,u,?_,(PRep.mono (w:=w) (w':=w.drew) (st:=g.st) (st':=g.st) (λ b o h=>⟨h,rfl⟩) hr).mono CL⟩;rw [hget _ O,if_pos O]; exact hu
   ·rename_i hge;obtain ⟨k1,u,hu,hr⟩:=hnews _ y j x hy hx;have hm2:es.length*ie.size<=i*ie.size:=Nat.mul_le_mul_right _ O;refine ⟨k1,u,?_,(PRep.mono (w:=w) (w':=w.drew) (st:=g.st) (st':=g.st) (λ b o h=>⟨h,rfl⟩) hr).mono CL⟩;rw [hget _ O,if_neg O];rw [show i*ie.size+j-es.length*ie.size=(i-es.length)*ie.size+j by rw [Nat.sub_mul]; omega];exact hu
 have hp:=hf.put (d:=some d) (λ t ht=>by cases ht; exact mv ▸ hn) hv;simp only [n8] at hp;exact ⟨_,_,_,hrun,hp⟩
theorem Ch {ty e:Nat}(h:(Nat.beq ty 0||Nat.beq ty (e+1))=true):ty=0\/ty=e+1:=by
 simp only [Bool.or_eq_true] at h;exact h.imp bx bx
theorem nS {t tx e:TypeId}{x y:Operand}{k sz ty:Nat}{es:List PV}{ys:List PV}{i ie:TI}(ho:o.op=.call { callee:=.builtin .append,args:=#[x,y],argTypes:=#[t,tx] })(hd:o.dst=some d)(hn:Nat.blt d C.n=true)
  (hi:look C.tt t=some i) (CR:i.k=.slice e) (hie:look C.tt e=some ie) (hx:evo sl x=some (.vec k sz ty es)) (hk:Nat.blt k M1=true) (hiz:ie.size=sz)
  (hS:wE C sl ob tx y ie.size ys) (CC:∀ y∈ys,y.cells.length=ie.size) (h0:Nat.blt 0 ie.size=true) (hzl:Nat.beq ie.zero.length ie.size=true)
  (CE:(es.length+ys.length)*ie.bytes<=140737488355328) (hlen':es.length+ys.length<=9223372036854775807) (hty:(Nat.beq ty 0||Nat.beq ty (e+1))=true)
  (hK:K ⟨(d,.vec d sz ty (es++ys))::(bV (λ i=>Nat.beq i k||Nat.beq i d) ⟨sl,ob⟩).sl,(bV (λ i=>Nat.beq i k||Nat.beq i d) ⟨sl,ob⟩).ob⟩):aO C o K ⟨sl,ob⟩:=by
 subst hiz;have h0':0<ie.size:=by simpa using h0
 have hzl':=bx hzl;have hk':k<M1:=mv ▸ hk;have hdl:d<M1:=by have h1:=ph C.nl; have h2:d<C.n:=mv ▸ hn; omega
 have hty':=Ch hty
 have hDl:∀ i,(Nat.beq i k||Nat.beq i d)=true->i<M1:=by
  intro i hi;simp only [Bool.or_eq_true] at hi;rcases hi with hi|hi <;> (have:=bx hi; omega)
 intro g a w hs;have hxr:=bg hs hx;generalize hxv:a.eval x=xv at hxr
 have hrun0:∀ v w',(Builtin.append_ #[t,tx] o.type #[xv,a.eval y]).run C.P w=.ok v w'->(execOp a.eval o).run C.P w=.ok (.value v) w':=by
  intro v w' h;rw [cZ ho];simp [builtin,hxv,h]
 cases hxr with
 | vecn=>
  by_cases hys:ys=[]
  ·subst hys;obtain ⟨u,h1,h2⟩:=bc C.good hi;have h3:=aV (h2.trans CR);subst h3;obtain ⟨info,hf1,hf2,hf3,z,hf4,hf5⟩:=dQ C.good hie;obtain ⟨news,hsrc,hnews⟩:=hS g a w hs;have hnl:news=[]:=by have:=hsrc.newsLen; simpa using this
   subst hnl;have hr:=run_append_nothing w t tx o.type e info h1 hf1 none 0 0 (bt _) (a.eval y) (by rw [hf2]; exact hsrc);unfold Oper.wp;rw [hrun0 _ _ hr];simp only [Oper.upon,hd]
   have hs':=hs.evolve (λ i=>Nat.beq i k||Nat.beq i d) hDl (g':=⟨g.st,λ i=>if (Nat.beq i k||Nat.beq i d) then none else g.ow i⟩) (Ev.refl _ _) (λ id b hD h=>⟨by simp only [hD]; exact h,Z,λ o h=>h⟩)
    (λ i j b h1 h2=>by
     dsimp only at h1 h2;split at h1
     ·cases h1
     ·split at h2
      ·cases h2
      ·exact hs.inj i j b h1 h2) (λ i b h=>by
     dsimp only at h;split at h
     ·cases h
     ·exact hs.own i b h) hs.lt (λ b h=>rfl) Z Z Z (bt _) (λ b _ o=>Iff.rfl) (λ i hi=>by
      have CQ:(Nat.beq i k||Nat.beq i d)=false:=by
       cases hq:(Nat.beq i k||Nat.beq i d)
       ·rfl
       ·have:=hDl i hq; omega
      simp only [CQ]; rfl)
   exact ⟨_,_,hs'.put (d:=some d) (λ t ht=>by cases ht; exact mv ▸ hn) (.vecn d ie.size _),hK⟩
  ·have hpos:0<ys.length:=List.length_pos_iff.2 hys
   obtain ⟨v,w',g',hr,CN⟩:=j6 ty (o:=o) (es:=[]) (λ i=>Nat.beq i k||Nat.beq i d) hDl G hi CR hie hS CC h0' hzl' (by simpa using CE) (by simpa using hlen') hs none 0 []
    (run_firstCells_none w.drew ie.size 0 0 0) G G G (by simpa using hpos) o.type hd hn hty'
   unfold Oper.wp;rw [hrun0 _ _ hr];simp only [Oper.upon,hd];exact ⟨g',_,CN,hK⟩
 | vece tok sz a0=>
  by_cases hys:ys=[]
  ·subst hys;obtain ⟨u,h1,h2⟩:=bc C.good hi;have h3:=aV (h2.trans CR);subst h3;obtain ⟨info,hf1,hf2,hf3,z,hf4,hf5⟩:=dQ C.good hie;obtain ⟨news,hsrc,hnews⟩:=hS g a w hs;have hnl:news=[]:=by have:=hsrc.newsLen; simpa using this
   subst hnl;have hr:=run_append_nothing w t tx o.type e info h1 hf1 (some a0) 0 0 (bt _) (a.eval y) (by rw [hf2]; exact hsrc);unfold Oper.wp;rw [hrun0 _ _ hr];simp only [Oper.upon,hd]
   have hs':=hs.evolve (λ i=>Nat.beq i k||Nat.beq i d) hDl (g':=⟨g.st,λ i=>if (Nat.beq i k||Nat.beq i d) then none else g.ow i⟩) (Ev.refl _ _) (λ id b hD h=>⟨by simp only [hD]; exact h,Z,λ o h=>h⟩)
    (λ i j b h1 h2=>by
     dsimp only at h1 h2;split at h1
     ·cases h1
     ·split at h2
      ·cases h2
      ·exact hs.inj i j b h1 h2) (λ i b h=>by
     dsimp only at h;split at h
     ·cases h
     ·exact hs.own i b h) hs.lt (λ b h=>rfl) Z Z Z (bt _) (λ b _ o=>Iff.rfl) (λ i hi=>by
      have CQ:(Nat.beq i k||Nat.beq i d)=false:=by
       cases hq:(Nat.beq i k||Nat.beq i d)
       ·rfl
       ·have:=hDl i hq; omega
      simp only [CQ]; rfl)
   exact ⟨_,_,hs'.put (d:=some d) (λ t ht=>by cases ht; exact mv ▸ hn) (.vece d ie.size a0),hK⟩
  ·have hpos:0<ys.length:=List.length_pos_iff.2 hys
   obtain ⟨v,w',g',hr,CN⟩:=j6 0 (o:=o) (es:=[]) (λ i=>Nat.beq i k||Nat.beq i d) hDl G hi CR hie hS CC h0' hzl' (by simpa using CE) (by simpa using hlen') hs (some a0) 0 []
    (run_firstCells_some w.drew ie.size 0 a0 0 0 [] G G) G G G (by simpa using hpos) o.type hd hn hty'
   unfold Oper.wp;rw [hrun0 _ _ hr];simp only [Oper.upon,hd];exact ⟨g',_,CN,hK⟩
 | vec how hb CJ hsz' CN hr hty0=>
  rename_i b off cap c e0;have hinv:=s5 hsz' hb hr;have hcapE:es.length<=cap:=by cases hr with|nile _=>exact bt _|slice _ _ hcap=>exact hcap
  by_cases hroom:es.length+ys.length<=cap
  ·obtain ⟨u,h1,h2⟩:=bc C.good hi;have h3:=aV (h2.trans CR);subst h3;obtain ⟨info,hf1,hf2,hf3,z,hf4,hf5⟩:=dQ C.good hie;obtain ⟨news,hsrc,hnews⟩:=hS g a w hs
   have hfit:(off+es.length*ie.size)+news.length<=c.size:=by
    rw [hsrc.newsLen,CJ,Nat.add_assoc,<- th]; exact Nat.add_le_add_left (Nat.mul_le_mul_right _ hroom) _
   have hstc:=run_storeCells_at C.P b (off+es.length*ie.size) e0 news 0 c w hb (by simpa using hfit) hsrc.one;simp only [Nat.add_zero] at hstc;obtain ⟨c',hc'⟩:∃ c',c'=(c.toList.take (off+es.length*ie.size)++news++c.toList.drop (off+es.length*ie.size+news.length)).toArray:=⟨_,rfl⟩
   rw [<- hc'] at hstc;have hrr:=nr t tx o.type e info h1 hf1 b off es.length cap (a.eval y) ys.length news (by rw [hf2]; exact hsrc) hroom (by rw [hf2]; exact hstc)
   have CP:∀ j,c'[j]? = if off+es.length*ie.size<=j/\j<off+es.length*ie.size+news.length then news[j-(off+es.length*ie.size)]? else c[j]?:=by
    intro j;rw [hc'];have:=fu c.toList news (off+es.length*ie.size) (by simpa using hfit) j;simpa using this
   have hcs':c'.size=off+cap*ie.size:=by rw [<- CJ,hc']; simp; omega
   have hin:=hs.inplace (λ i=>Nat.beq i k||Nat.beq i d) hDl (k:=k) (d:=d) how G G  hb (c':=c') (hcs'.trans CJ.symm) (λ o h=>by
    have:=(CN o).1 h;rw [CP o,if_neg O]) (λ o=>o<off+(es++ys).length*ie.size) (λ o h=>by
    have:=(CN o).1 h
    simp only [n8,th]; omega)
   have hEv:Ev w g.st (w.setRow b c') (λ b' o=>(b'=b/\o<off+(es++ys).length*ie.size)\/(b'≠b/\g.st b' o)):=by
    intro b' o h;by_cases e:b'=b
    ·subst e;have h5:=(CN o).1 h;refine ⟨.inl ⟨rfl,by simp only [n8,th]; omega⟩,?_⟩;simp only [World.cell?,hb,setRow_heap w b' c c' _ (0,0) hb];have:=CP o;rw [if_neg O] at this;simpa using this
    ·exact ⟨.inr ⟨e,h⟩,by simp only [World.cell?,setRow_other w b b' c' e]⟩
   have hv:ARep (w.setRow b c') ⟨λ b' o=>(b'=b/\o<off+(es++ys).length*ie.size)\/(b'≠b/\g.st b' o),λ i=>if i=d then some b else if (Nat.beq i k||Nat.beq i d) then none else g.ow i⟩
     (.vec d ie.size ty (es++ys)) (.slice (some ⟨b,off,none⟩) (es++ys).length cap):=by
    refine wG G (setRow_heap w b c c' e0 (0,0) hb) hcs' (by simpa using hroom) (λ x hx=>?_) (λ o=>⟨λ h=>?_,λ h=>.inl ⟨Z,h⟩⟩) (λ i y j x hy hx=>?_) hty0
    ·rcases List.mem_append.1 hx with hx|hx
     ·exact hsz' x hx
     ·exact CC x hx
    ·rcases h with h|h
     ·exact h.2
     ·exact absurd Z h.1
    ·have hcl:y.cells.length=ie.size:=by
      rcases List.mem_append.1 (List.mem_of_getElem? hy) with hx|hx
      ·exact hsz' y hx
      ·exact CC y hx
     have hjl:j<ie.size:=by rw [<- hcl]; exact (List.getElem?_eq_some_iff.1 hx).1
     have hil:i<(es++ys).length:=(List.getElem?_eq_some_iff.1 hy).1;simp only [n8] at hil;rw [List.getElem?_append] at hy;split at hy
     ·rename_i hlt;obtain ⟨k1,u,hu,hr⟩:=hinv i y j x hy hx;have hm2:(i+1)*ie.size<=es.length*ie.size:=Nat.mul_le_mul_right _ O;rw [th] at hm2;refine ⟨k1,u,?_,hr.mono hEv⟩;rw [CP,if_neg O]; exact hu
     ·rename_i hge;obtain ⟨k1,u,hu,hr⟩:=hnews _ y j x hy hx;have hm2:es.length*ie.size<=i*ie.size:=Nat.mul_le_mul_right _ O;have hm3:(i-es.length+1)*ie.size<=ys.length*ie.size:=Nat.mul_le_mul_right _ O;have hm4:(i-es.length)*ie.size=i*ie.size-es.length*ie.size:=Nat.sub_mul _ _ _;rw [th] at hm3;refine ⟨k1,u,?_,hr.mono hEv⟩;rw [CP,if_pos ⟨by omega,by rw [hsrc.newsLen]; omega⟩];rw [show off+i*ie.size+j-(off+es.length*ie.size)=(i-es.length)*ie.size+j by omega];exact hu
   have hp:=hin.put (d:=some d) (λ t ht=>by cases ht; exact mv ▸ hn) hv;simp only [n8] at hp;unfold Oper.wp;rw [hrun0 _ _ hrr];simp only [Oper.upon,hd];exact ⟨_,_,hp,hK⟩
  ·obtain ⟨olds,hol,hocell⟩:∃ olds:List Value,olds.length=es.length*ie.size/\∀ m,m<es.length*ie.size->olds[m]? = c[off+m]? :=
    ⟨((c.toList.drop off).take (es.length*ie.size)),by
     rw [sm,List.length_drop,show c.toList.length=off+cap*ie.size from ur.trans CJ]
     have:=Nat.mul_le_mul_right ie.size hcapE; omega,λ m hm=>by rw [List.getElem?_take,if_pos hm,List.getElem?_drop,Array.getElem?_toList]⟩
   have hold:(Builtin.firstCells ie.size es.length (.slice (some ⟨b,off,none⟩) es.length cap)).run C.P w.drew=.ok olds.toArray w.drew:=by
    refine run_firstCells_some w.drew ie.size es.length ⟨b,off,none⟩ es.length cap olds hol (λ j v hv=>?_);have hj:j<es.length*ie.size:=by rw [<- hol]; exact (List.getElem?_eq_some_iff.1 hv).1
    rw [add_lit,World.cell?_drew];simp only [World.cell?,hb];rw [<- hocell j hj]; simpa using hv
   obtain ⟨v,w',g',hr',hst'⟩:=j6 ty (o:=o) (es:=es) (λ i=>Nat.beq i k||Nat.beq i d) hDl G hi CR hie hS CC h0' hzl' CE hlen' hs (some ⟨b,off,none⟩) cap olds
    hold hol hsz' (λ i y j x hy hx=>by
     obtain ⟨k1,u,hu,hr⟩:=hinv i y j x hy hx;have hi:i<es.length:=(List.getElem?_eq_some_iff.1 hy).1;have hj:j<ie.size:=by rw [<- hsz' y (List.mem_of_getElem? hy)]; exact (List.getElem?_eq_some_iff.1 hx).1
     have hm2:(i+1)*ie.size<=es.length*ie.size:=Nat.mul_le_mul_right _ O;rw [th] at hm2
     exact ⟨k1,u,by rw [hocell _ O,<- Nat.add_assoc]; exact hu,hr⟩) O o.type hd hn hty'
   unfold Oper.wp;rw [hrun0 _ _ hr'];simp only [Oper.upon,hd];exact ⟨g',_,hst',hK⟩
theorem u9 {t tx e e':TypeId}{x y:Operand}{k sz ty:Nat}{es:List PV}{Y0z:AV}{ys:List PV}{i ie j:TI}(ho:o.op=.call { callee:=.builtin .append,args:=#[x,y],argTypes:=#[t,tx] })(hd:o.dst=some d)(hn:Nat.blt d C.n=true)
  (hi:look C.tt t=some i) (CR:i.k=.slice e) (hie:look C.tt e=some ie) (hj:look C.tt tx=some j) (hjk:j.k=.slice e') (hx:evo sl x=some (.vec k sz ty es)) (hk:Nat.blt k M1=true) (hiz:ie.size=sz)
  (hy:evo sl y=some Y0z) (hY:Y0z.elems? = some ys) (CC:∀ y∈ys,y.cells.length=ie.size) (h0:Nat.blt 0 ie.size=true) (hzl:Nat.beq ie.zero.length ie.size=true)
  (CE:(es.length+ys.length)*ie.bytes<=140737488355328) (hlen':es.length+ys.length<=9223372036854775807) (hty:(Nat.beq ty 0||Nat.beq ty (e+1))=true)
  (hK:K ⟨(d,.vec d sz ty (es++ys))::(bV (λ i=>Nat.beq i k||Nat.beq i d) ⟨sl,ob⟩).sl,(bV (λ i=>Nat.beq i k||Nat.beq i d) ⟨sl,ob⟩).ob⟩):aO C o K ⟨sl,ob⟩ :=
 nS ho hd hn hi CR hie hx hk hiz (tr hj hjk hy hY CC (by simpa using h0)) CC h0 hzl CE hlen' hty hK
theorem xw {tx:TypeId}{y:Operand}{s:List UInt8}{j:TI}(hj:look C.tt tx=some j)(hjk:j.k=.string)
  (hy:evo sl y=some (.p (.val (.string (str s))))):wE C sl ob tx y 1 (s.map λ b=>.val (.int .u8 (b.toNat:Int))):=by
 intro g a w hs;obtain ⟨u',h1',h2'⟩:=bc C.good hj;have h3':=fx (h2'.trans hjk);subst h3';rw [bQ hs hy];refine ⟨byteCells (str s),by have:=Src.ofString w h1' (str s); rwa [show (str s).size=(s.map λ b=>PV.val (.int .u8 (b.toNat:Int))).length by simp [str,ByteArray.size]] at this,λ i y j c hy hc=>?_⟩;simp only [List.getElem?_map,ld] at hy;obtain ⟨b,hb,rfl⟩:=hy
 cases j with
 | succ j=>simp [PV.cells] at hc
 | zero=>
  simp only [PV.cells,List.getElem?_cons_zero,aq] at hc;subst hc;exact ⟨rfl,_,by simp [byteCells,str,hb],.val _⟩
end
theorem St.addOb {n:Nat}{w0:Base}{w:World}{F:Nat->Prop}{g:Gh}{sl:List (Nat×AV)}{ob:List (Nat×List AV)}{a:Act}(hs:St n w0 F g ⟨sl,ob⟩ a w){d:Nat}{cs:List AV}(h:gu w g d cs) :
  St n w0 F g ⟨sl,(d,cs)::ob⟩ a w:=by
 refine { hs with ob:=λ id ds hd=>?_,sl:=hs.sl };simp only [aJ] at hd;by_cases e:d=id
 ·subst e; simp only [if_true,aq] at hd; subst hd; exact h
 ·rw [if_neg e] at hd; exact hs.ob id ds hd
theorem St.freeze {n:Nat}{w0:Base}{w:World}{F:Nat->Prop}{g:Gh}{sl:List (Nat×AV)}{ob:List (Nat×List AV)}{a:Act}(hs:St n w0 F g ⟨sl,ob⟩ a w){k:Nat}{es:List PV}{j:Nat}
  (hk:k<M1) (hob:look ob k=some (es.map .p)) (hj:look sl j=some (.arr k 1 0 es.length)) (CH:∀ x∈es,x.cells=[x]) (hone':∀ x∈es,x.one=true) :
  ∃ g',St n w0 F g' ⟨(j,.p (.slice es))::(bV (λ i=>Nat.beq i k) ⟨sl,ob⟩).sl,(bV (λ i=>Nat.beq i k) ⟨sl,ob⟩).ob⟩ a w:=by
 obtain ⟨b,c,e,k1,k2,k3,k4,k5⟩:=hs.ob k _ hob;have hlt:b<w.heap.size:=(hs.own k b k1).1
 have keyD:∀ i b',Nat.beq i k=false->g.ow i=some b'->b'≠b:=λ i b' hD hi e=>by
  subst e;have:=hs.inj i k b' hi k1;subst this;simp at hD
 have CL:Ev w g.st w (λ b' o=>g.st b' o\/(b'=b/\o<es.length)):=λ b' o h=>⟨.inl h,Z⟩
 have hs':=hs.evolve (λ i=>Nat.beq i k) (λ i hi=>by have:=bx hi; omega) (g':=⟨λ b' o=>g.st b' o\/(b'=b/\o<es.length),λ i=>if Nat.beq i k then none else g.ow i⟩) CL (λ id b' hD h=>⟨by simp only [hD]; exact h,Z,λ o ho=>ho.resolve_right λ h'=>keyD id b' hD h h'.1⟩)
  (λ i j b h1 h2=>by
   dsimp only at h1 h2;split at h1
   ·cases h1
   ·split at h2
    ·cases h2
    ·exact hs.inj i j b h1 h2) (λ i b h=>by
   dsimp only at h;split at h
   ·cases h
   ·exact hs.own i b h) (λ b' o h=>by
   rcases h with h|⟨rfl,_⟩
   ·exact hs.lt b' o h
   ·exact hlt) (λ b h=>rfl) Z Z Z (bt _) (λ b' hb' o=>⟨λ h=>h.resolve_right λ h'=>(hs.own k b k1).2 (h'.1 ▸ hb'),.inl⟩) (λ i hi=>by
    have CQ:Nat.beq i k=false:=by
     cases hq:Nat.beq i k
     ·rfl
     ·have:=bx hq; omega
    simp only [CQ]; rfl)
 refine ⟨_,{ hs' with sl:=λ i=>?_,ob:=hs'.ob }⟩;simp only [AS.get,aJ];by_cases e1:j=i
 ·subst e1;simp only [if_true,rg];have h0:=hs.sl j;simp only [AS.get,hj,rg] at h0;generalize a.tmps.getD j Go.undef=v at h0
  cases h0 with
  | arr how hb CJ hn=>
   rw [k1] at how; cases how;rw [k2] at hb; cases hb;refine .p (.slice 1 (λ i _=>c.getD i Go.undef) hn (λ y hy=>by rw [CH y hy]; rfl) (λ x hx y hy=>?_) (λ i x j y hx hy=>?_) (λ i x j y hx hy=>?_))
   ·rw [CH x hx] at hy; simp at hy; rw [hy]; exact hone' x hx
   ·rw [CH x (List.mem_of_getElem? hx)] at hy
    cases j with
    | succ j=>simp at hy
    | zero=>
     have hi:i<es.length:=(List.getElem?_eq_some_iff.1 hx).1;have hci:i<c.size:=by simp at k3; omega
     refine ⟨.inr ⟨Z,by omega⟩,?_⟩;simp only [World.cell?,k2,rd,Nat.mul_one,Nat.add_zero];simp [Array.getD,hci]
   ·rw [CH x (List.mem_of_getElem? hx)] at hy
    cases j with
    | succ j=>simp at hy
    | zero=>
     simp only [List.getElem?_cons_zero,aq] at hy;subst hy;obtain ⟨u,hu,hr⟩:=k5 i (.p x) (by simp [hx]);rw [Array.getD_eq_getD_getElem?,hu]
     cases hr with|p hr=>exact hr.mono CL
 ·rw [if_neg e1];exact hs'.sl i
def sE (m:Nat->Option Nat):List Nat->Option (List Nat)
 | []=>some []
 | t::r=>match m t,sE m r with
  | some u,some l=>some (u::l)
  | _,_=>none
theorem vV {m:Nat->Option Nat}:∀ {ts l:List Nat},sE m ts=some l->(∀ t,t∈ts->∃ u,m t=some u/\u∈l)
 | [],_,_,t,ht=>by simp at ht
 | x::r,l,h,t,ht=>by
  simp only [sE] at h;split at h
  ·rename_i u q hu hq
   cases h
   rcases ro.1 ht with rfl|ht
   ·exact ⟨u,hu,List.mem_cons_self ..⟩
   ·obtain ⟨u',h1,h2⟩:=vV hq t ht;exact ⟨u',h1,List.mem_cons_of_mem _ h2⟩
  ·cases h
def AC (m:Nat->Option Nat)(ts:List Nat)(R:World->Gh->Value->Prop):World->Gh->Value->Prop :=λ w g v=>R w ⟨g.st,λ t=>if t∈ts then (m t).bind g.ow else none⟩ v
def AV.mapA (m:Nat->Option Nat):AV->Option AV
 | .undef=>some .undef
 | .p x=>some (.p x)
 | .vec tok sz ty es=>match m tok with
  | some t=>some (.vec t sz ty es)
  | none=>some (.p (.slice es))
 | .arr id sz off n=>match m id with
  | some t=>some (.arr t sz off n)
  | none=>none
 | .ptr id off=>match m id with
  | some t=>some (.ptr t off)
  | none=>none
 | .bptr T sz id=>match m id with
  | some t=>some (.bptr T sz t)
  | none=>none
 | .rptr cs=>some (.rptr cs)
 | .agg cs=>match go m cs with
  | some l=>some (.agg l)
  | none=>none
 | .tuple cs=>match go m cs with
  | some l=>some (.tuple l)
  | none=>none
 | .func f cs=>match go m cs with
  | some l=>some (.func f l)
  | none=>none
 | .mp tok kvs=>match m tok with
  | some t=>some (.mp t kvs)
  | none=>none
 | .mpr ..=>none
 | .stk tok sz es=>match m tok with
  | some t=>some (.stk t sz es)
  | none=>none
 | .sem ts R=>match sE m ts with
  | some l=>some (.sem l (AC m ts R))
  | none=>none
 | .it ..=>none
 | .vecp tok sz ty es=>match m tok with
  | some t=>some (.vecp t sz ty es)
  | none=>none
 | .elp ..=>none where
 go (m:Nat->Option Nat):List AV->Option (List AV)
 | []=>some []
 | x::r=>match x.mapA m,go m r with
  | some y,some l=>some (y::l)
  | _,_=>none
theorem ls {m:Nat->Option Nat}:∀ {l l':List AV},AV.mapA.go m l=some l'->l.length=l'.length/\∀ (i:Nat) x y,l[i]? = some x->l'[i]? = some y->x.mapA m=some y
 | [],l',h=>by simp only [AV.mapA.go,aq] at h; subst h; exact ⟨Z,by simp⟩
 | x::r,l',h=>by
  simp only [AV.mapA.go] at h;split at h
  ·rename_i y l0 hy hl
   cases h
   obtain ⟨h1,h2⟩:=ls hl;refine ⟨by simp [h1],λ i a b ha hb=>?_⟩
   cases i with
   | zero=>simp only [List.getElem?_cons_zero,aq] at ha hb; subst ha hb; exact hy
   | succ i=>simp only [List.getElem?_cons_succ] at ha hb; exact h2 i a b ha hb
  ·cases h
theorem gG {m:Nat->Option Nat}{w:World}{g g':Gh}(CN:g'.st=g.st)(hm:∀ i j b,m i=some j->g.ow i=some b->g'.ow j=some b){x:AV}{v:Value}(h:ARep w g x v):∀ {y:AV},x.mapA m=some y->ARep w g' y v:=by
 have lst:∀ {cs:List AV} {vs:Array Value} {l:List AV},vs.size=cs.length->(∀ (i:Nat) c v,cs[i]? = some c->vs[i]? = some v->∀ {y:AV},c.mapA m=some y->ARep w g' y v) ->
   AV.mapA.go m cs=some l->vs.size=l.length/\∀ (i:Nat) c v,l[i]? = some c->vs[i]? = some v->ARep w g' c v:=by
  intro cs vs l hl ih hgo;obtain ⟨h1,h2⟩:=ls hgo;refine ⟨by omega,λ i c v hc hv=>?_⟩;have hi:i<cs.length:=by have:=(List.getElem?_eq_some_iff.1 hc).1; omega
  exact ih i cs[i] v (List.getElem?_eq_getElem hi) hv (h2 i _ _ (List.getElem?_eq_getElem hi) hc)
 induction h with
 | undef v=>intro y hy; simp only [AV.mapA,aq] at hy; subst hy; exact .undef _
 | p h=>intro y hy; simp only [AV.mapA,aq] at hy; subst hy; exact .p (CN ▸ h)
 | vecn tok sz ty=>
  intro y hy;simp only [AV.mapA] at hy;split at hy <;> cases hy
  ·exact .vecn _ _ _
  ·exact .p .nils
 | vece tok sz a=>
  intro y hy;simp only [AV.mapA] at hy;split at hy <;> cases hy
  ·exact .vece _ _ _
  ·exact .p (.nile a)
 | vec how hb CJ CC hst' hr hty=>
  intro y hy;simp only [AV.mapA] at hy;split at hy <;> cases hy
  ·rename_i t ht;exact .vec (hm _ _ _ ht how) hb CJ CC (by rw [CN]; exact hst') (by rw [CN]; exact hr) hty
  ·exact .p (by rw [CN]; exact hr)
 | arr how hb CJ hn=>
  intro y hy;simp only [AV.mapA] at hy;split at hy <;> cases hy;rename_i t ht;exact .arr (hm _ _ _ ht how) hb CJ hn
 | ptr how=>
  intro y hy;simp only [AV.mapA] at hy;split at hy <;> cases hy;rename_i t ht;exact .ptr (hm _ _ _ ht how)
 | bptrn how hb CJ=>
  intro y hy;simp only [AV.mapA] at hy;split at hy <;> cases hy;rename_i t ht;exact .bptrn (hm _ _ _ ht how) hb CJ
 | bptr how hb CJ=>
  intro y hy;simp only [AV.mapA] at hy;split at hy <;> cases hy;rename_i t ht;exact .bptr (hm _ _ _ ht how) hb CJ
 | rptr cf hc hr=>intro y hy; simp only [AV.mapA,aq] at hy; subst hy; exact .rptr cf (by rw [CN]; exact hc) (by rw [CN]; exact hr)
 | agg hl h ih=>
  intro y hy;simp only [AV.mapA] at hy;split at hy <;> cases hy;rename_i l hgo;obtain ⟨k1,k2⟩:=lst hl ih hgo;exact .agg k1 k2
 | tuple hl h ih=>
  intro y hy;simp only [AV.mapA] at hy;split at hy <;> cases hy;rename_i l hgo;obtain ⟨k1,k2⟩:=lst hl ih hgo;exact .tuple k1 k2
 | func hl h ih=>
  intro y hy;simp only [AV.mapA] at hy;split at hy <;> cases hy;rename_i l hgo;obtain ⟨k1,k2⟩:=lst hl ih hgo;exact .func k1 k2
 | mp how hb hn hd hk hv=>
  intro y hy;simp only [AV.mapA] at hy;split at hy <;> cases hy;rename_i t ht;exact .mp (hm _ _ _ ht how) hb hn hd hk (by rw [CN]; exact hv)
 | mpr=>intro y hy; simp only [AV.mapA] at hy; cases hy
 | stkn tok sz=>
  intro y hy;simp only [AV.mapA] at hy;split at hy <;> cases hy;exact .stkn _ _
 | stke tok sz a=>
  intro y hy;simp only [AV.mapA] at hy;split at hy <;> cases hy;exact .stke _ _ _
 | stk how hb CJ CE CC CH hst' hr=>
  intro y hy;simp only [AV.mapA] at hy;split at hy <;> cases hy;rename_i t ht;exact .stk (hm _ _ _ ht how) hb CJ CE CC CH (by rw [CN]; exact hst') (by rw [CN]; exact hr)
 | sem h1 h=>
  rename_i ts R v;intro y hy;simp only [AV.mapA] at hy;split at hy <;> cases hy;rename_i l hl;refine .sem h1 λ w2 g2 CL=>h w2 _ ?_
  have key:∀ id b,id∈ts->g.ow id=some b->∃ u,m id=some u/\u∈l/\g'.ow u=some b:=λ id b hi hb=>by
   obtain ⟨u,h3,h4⟩:=vV hl id hi;exact ⟨u,h3,h4,hm id u b h3 hb⟩
  refine ⟨by rw [<- CN]; exact CL.ev,λ id b hi hb=>?_,λ id b c e hi hb hc=>?_,λ id b o hi hb ho=>?_,λ id b o hi hb ho=>?_⟩
  ·obtain ⟨u,h3,h4,h5⟩:=key id b hi hb;simp only [if_pos hi,h3,Option.bind_some];exact CL.ow u b h4 h5
  ·obtain ⟨u,h3,h4,h5⟩:=key id b hi hb;exact CL.shape u b c e h4 h5 hc
  ·obtain ⟨u,h3,h4,h5⟩:=key id b hi hb;rw [<- CN];exact CL.tip u b o h4 h5 ho
  ·obtain ⟨u,h3,h4,h5⟩:=key id b hi hb;exact CL.stab u b o h4 h5 (by rw [CN]; exact ho)
 | it=>intro y hy; simp only [AV.mapA] at hy; cases hy
 | vecp how hb CJ hcap CC hst' hr hty=>
  intro y hy;simp only [AV.mapA] at hy;split at hy <;> cases hy;rename_i t ht;exact .vecp (hm _ _ _ ht how) hb CJ hcap CC (by rw [CN]; exact hst') (by rw [CN]; exact hr) hty
 | elp=>intro y hy; simp only [AV.mapA] at hy; cases hy
def ij (m:Nat->Option Nat):List (Nat×List AV)->Option (List (Nat×List AV))
 | []=>some []
 | (i,cs)::r=>match m i,AV.mapA.go m cs,ij m r with
  | some j,some l,some q=>some ((j,l)::q)
  | _,_,_=>none
theorem kR {m:Nat->Option Nat}{w:World}{g g':Gh}(CN:g'.st=g.st)(hm:∀ i j b,m i=some j->g.ow i=some b->g'.ow j=some b) :
  ∀ {l l':List (Nat×List AV)},ij m l=some l'->(∀ p∈l,gu w g p.1 p.2)->∀ p∈l',gu w g' p.1 p.2
 | [],l',h,_,p,hc=>by simp only [ij,aq] at h; subst h; simp at hc
 | (i,ds)::r,l',h,hl,p,hc=>by
  simp only [ij] at h;split at h
  ·rename_i j l q hj hgo hq
   cases h
   rcases ro.1 hc with rfl|hc
   ·obtain ⟨b,c,e,k1,k2,k3,k4,k5⟩:=hl (i,ds) G;obtain ⟨m1,m2⟩:=ls hgo;refine ⟨b,c,e,hm _ _ _ hj k1,k2,by simp only at k3 ⊢; omega,by rw [CN]; exact k4,λ n x hx=>?_⟩;have hn:n<ds.length:=by have:=(List.getElem?_eq_some_iff.1 hx).1; simp only at this; omega
    obtain ⟨v,hv,hr⟩:=k5 n ds[n] (List.getElem?_eq_getElem hn);exact ⟨v,hv,gG CN hm hr (m2 n _ _ (List.getElem?_eq_getElem hn) hx)⟩
   ·exact kR CN hm hq (λ p hp=>hl p (by simp [hp])) p hc
  ·cases h
theorem fv {α:Type}:∀ {l:List (Nat×α)} {i:Nat} {x:α},look l i=some x->(i,x)∈l
 | [],i,x,h=>by simp [look] at h
 | (j,y)::r,i,x,h=>by
  rw [aJ] at h;split at h
  ·rename_i e; subst e; cases h; simp
  ·simp [fv h]
theorem fe {α:Type}:∀ (l q:List (Nat×α)) (i:Nat),look (l++q) i=match look l i with|some x=>some x|none=>look q i
 | [],q,i=>by simp [look]
 | (j,y)::r,q,i=>by
  simp only [List.cons_append,aJ,fe r q i];split <;> rfl
structure j5 (w:World)(g:Gh)(w':World)(g':Gh):Prop where
 os:w'.os=w.os
 out:w'.output=w.output
 tape:w'.tape=w.tape
 size:w.heap.size<=w'.heap.size
 fr:∀ b,b<w.heap.size->(∀ i,g.ow i≠some b)->w'.heap[b]? = w.heap[b]?
 own:∀ i b,g'.ow i=some b->b<w'.heap.size/\(w.heap.size<=b\/∃ j,g.ow j=some b)
 inj:∀ i j b,g'.ow i=some b->g'.ow j=some b->i=j
 lt:∀ b o,g'.st b o->b<w'.heap.size
 stf:∀ b,b<w.heap.size->(∀ i,g.ow i≠some b)->∀ o,g'.st b o↔g.st b o
 owf:∀ i,M1<=i->i<2*M1->g'.ow i=g.ow i
 sh:ic g.ow w w'
 nst:∀ i b,M1<=i->g.ow i=some b->∀ o,¬ g'.st b o
 ev:Ev w g.st w' g'.st
def bs (P:Program)(f:FuncId)(args:List AV)(C8:List (Nat×List AV))(R:AV->List (Nat×List AV)->Prop):Prop :=∀ (w:World) (g:Gh) (vs:Array Value),Ok0 w g.st->(∀ i b,g.ow i=some b->b<w.heap.size/\i<2*M1) -> (∀ i j b,g.ow i=some b->g.ow j=some b->i=j)->(∀ i b,M1<=i->g.ow i=some b->∀ o,¬ g.st b o)->vs.size=args.length -> (∀ (i:Nat) c v,args[i]? = some c->vs[i]? = some v->ARep w g c v)->(∀ id cs,look C8 id=some cs->gu w g id cs) -> Calls P f vs w λ e w'=>∃ v r obs' g',e=.returned v/\R r obs'/\ARep w' g' r v/\(∀ p∈obs',gu w' g' p.1 p.2)/\j5 w g w' g'
def fJ (args:List AV):List (Nat×AV):=(args.zipIdx).map λ (x,i)=>(i,x)
theorem kS (args:List AV):∀ (k i:Nat),look ((args.zipIdx k).map λ (x,i)=>(i,x)) i=if k<=i then args[i-k]? else none:=by
 induction args with
 | nil=>intro k i; simp [look]
 | cons x r ih=>
  intro k i;simp only [List.zipIdx_cons,cl,aJ,ih];by_cases e:k=i
  ·subst e; simp
  ·rw [if_neg e];by_cases h:k<=i
   ·rw [if_pos O,if_pos h];have:i-k=(i-(k+1))+1:=by omega
    rw [this]; simp
   ·rw [if_neg O,if_neg h]
def nV (ts:List Nat)(i:Nat):Option Nat:=bif Nat.ble M1 i then (bif Nat.blt i MZ then some i else none) else match ts.findIdx? (Nat.beq i) with
 | some k=>some (2*M1+k)
 | none=>none
def jh (ob:List (Nat×List AV)):List Nat->Option (List (Nat×List AV))
 | []=>some []
 | i::r=>match look ob i,jh ob r with
  | some cs,some l=>some ((i,cs)::l)
  | _,_=>none
theorem mW {ob:List (Nat×List AV)}:∀ {ids:List Nat} {l:List (Nat×List AV)},jh ob ids=some l->∀ p∈l,look ob p.1=some p.2
 | [],l,h,p,hp=>by simp only [jh,aq] at h; subst h; simp at hp
 | i::r,l,h,p,hp=>by
  simp only [jh] at h;split at h
  ·rename_i cs l' CJ hl'
   cases h
   rcases ro.1 hp with rfl|hp
   ·exact CJ
   ·exact mW hl' p hp
  ·cases h
def nodupB:List Nat->Bool|[]=>true|x::r=>!(r.any (Nat.beq x))&&nodupB r
theorem ff:∀ {l:List Nat},nodupB l=true->∀ (i j x:Nat),l[i]? = some x->l[j]? = some x->i=j
 | [],_,i,j,x,h,_=>by simp at h
 | y::r,h,i,j,x,hi,hj=>by
  simp only [nodupB,n7,Bool.not_eq_true',List.any_eq_false] at h
  cases i with
  | zero=>
   cases j with
   | zero=>rfl
   | succ j=>
    simp only [List.getElem?_cons_zero,aq,List.getElem?_cons_succ] at hi hj;subst hi;exact absurd G (h.1 y (List.mem_of_getElem? hj))
  | succ i=>
   cases j with
   | zero=>
    simp only [List.getElem?_cons_zero,aq,List.getElem?_cons_succ] at hi hj;subst hj;exact absurd G (h.1 y (List.mem_of_getElem? hi))
   | succ j=>
    simp only [List.getElem?_cons_succ] at hi hj;rw [ff h.2 i j x hi hj]
theorem gT:∀ {ts:List Nat} {i k:Nat},ts.findIdx? (Nat.beq i)=some k->ts[k]? = some i:=by
 intro ts i k h;obtain ⟨h1,h2,_⟩:=List.findIdx?_eq_some_iff_getElem.1 h;rw [List.getElem?_eq_getElem h1];rw [bx h2]
def jQ:List AV->List AV->Prop|[],[]=>True|x::r,y::q=>x.sub y/\jQ r q|_,_=>False
theorem ge:∀ {l q:List AV},jQ l q->l.length=q.length/\∀ (j:Nat) x y,l[j]? = some x->q[j]? = some y->x.sub y
 | [],[],_=>⟨Z,by simp⟩
 | [],_::_,h=>h.elim
 | _::_,[],h=>h.elim
 | x::r,y::q,h=>by
  obtain ⟨h1,h2⟩:=ge h.2;refine ⟨by simp [h1],λ j x' y' hx hy=>?_⟩
  cases j with
  | zero=>simp only [List.getElem?_cons_zero,aq] at hx hy; subst hx hy; exact h.1
  | succ j=>simp only [List.getElem?_cons_succ] at hx hy; exact h2 j x' y' hx hy
def kg (ids:List Nat)(NB NE:Nat)(j:Nat):Option Nat:=bif Nat.ble (2*M1) j then (bif Nat.blt (NB+(j-2*M1)) NE then some (NB+(j-2*M1)) else none) else bif Nat.ble M1 j then ids[j-M1]? else none
theorem uT {ids:List Nat}{NB NE j i:Nat}(h:kg ids NB NE j=some i):(∃ k,j=2*M1+k/\i=NB+k/\i<NE)\/(M1<=j/\j<2*M1/\ids[j-M1]? = some i):=by
 generalize hm:2*M1=m at *;unfold kg at h;rw [hm] at h;rcases Nat.lt_or_ge j m with hlt|hge
 ·have e1:Nat.ble m j=false:=by
   cases hq:Nat.ble m j
   ·rfl
   ·have:=ph hq; omega
  rw [e1,cond_false] at h
  cases h2:Nat.ble M1 j
  ·rw [h2,cond_false] at h; cases h
  ·rw [h2,cond_true] at h;exact .inr ⟨ph h2,hlt,h⟩
 ·obtain ⟨k,rfl⟩:=Nat.le.dest hge;rw [Nat.ble_eq_true_of_le hge,cond_true,Nat.add_sub_cancel_left] at h
  cases h2:Nat.blt (NB+k) NE
  ·rw [h2,cond_false] at h; cases h
  ·rw [h2,cond_true] at h
   cases h
   exact .inl ⟨k,Z,Z,by rw [<- mv]; exact h2⟩
def noGoto (Q:Exit->AS->Prop):Exit->AS->Prop|.goto _,_=>False|e,s=>Q e s
theorem xB {C:Cx}{c:Code}{Q:Exit->AS->Prop}{s:AS}(h:awp C c (noGoto Q) s):awp C (.scope c) Q s:=by
 intro g a w hs;refine wp_scope_straight (wp_mono (h g a w hs) ?_);rintro e a' w' ⟨g',s',h1,h2⟩
 cases e with
 | goto l=>exact h2.elim
 | normal=>exact ⟨g',s',h1,h2⟩
 | exit id=>exact ⟨g',s',h1,h2⟩
 | ret=>exact ⟨g',s',h1,h2⟩
 | panic ch=>exact ⟨g',s',h1,h2⟩
 | outgrown=>exact ⟨g',s',h1,h2⟩
theorem bf {K:AS->Prop}{Q:Exit->AS->Prop}{s:AS}(h:Q .ret s):mc K Q .ret s:=h
theorem aR {K:AS->Prop}{Q:Exit->AS->Prop}{s:AS}{id:Nat}(h:Q (.exit id) s):mc K Q (.exit id) s:=h
theorem aS {id:Nat}{Q:Exit->AS->Prop}{s:AS}(h:Q .ret s):gB id Q .ret s:=h
theorem aG {id:Nat}{Q:Exit->AS->Prop}{s:AS}(h:Q .normal s):gB id Q .normal s:=h
theorem aK {id:Nat}{Q:Exit->AS->Prop}{s:AS}(h:Q .normal s):gB id Q (.exit id) s:=by
 simp only [gB,if_true]; exact h
theorem aH {id id':Nat}{Q:Exit->AS->Prop}{s:AS}(CQ:Nat.beq id' id=false)(h:Q (.exit id') s):gB id Q (.exit id') s:=by
 have:¬ id'=id:=λ e=>by subst e; simp at CQ
 simp only [gB,if_neg this]; exact h
theorem noGoto_ret {Q:Exit->AS->Prop}{s:AS}(h:Q .ret s):noGoto Q .ret s:=h
theorem noGoto_exit {id:Nat}{Q:Exit->AS->Prop}{s:AS}(h:Q (.exit id) s):noGoto Q (.exit id) s:=h
theorem noGoto_normal {Q:Exit->AS->Prop}{s:AS}(h:Q .normal s):noGoto Q .normal s:=h
theorem AL {α:Type}(f:α->PV)(l:List α)(n:Nat)(dflt:α)(h:n<l.length):(l.map f)[n]? = some (f (l.getD n dflt)):=by
 rw [List.getElem?_map,List.getElem?_eq_getElem h,Option.map_some,List.getD_eq_getElem?_getD,List.getElem?_eq_getElem h]; rfl
section
variable {C:Cx} {o:Oper} {K:AS->Prop} {sl:List (Nat×AV)} {ob:List (Nat×List AV)} {d:Nat}
theorem Aq {α:Type}{t e:TypeId}{x:Operand}{y:AV}{f:α->PV}{l:List α}{i:TI}(ho:o.op=.call { callee:=.builtin .len,args:=#[x],argTypes:=#[t] })(hd:o.dst=some d)(hn:Nat.blt d C.n=true)
  (hi:look C.tt t=some i) (CR:i.k=.slice e) (hx:evo sl x=some y) (hy:y.elems? = some (l.map f))
  (hK:K ⟨(d,.p (.val (.int .i64 (l.length:Int))))::sl,ob⟩):aO C o K ⟨sl,ob⟩ :=
 zQ ho hd hn hi CR hx hy (by rw [n6]; exact hK)
end
theorem au.of_sub {P:Program}{f:FuncId}{args:List PV}{r:AV}(h:au P f args (λ x=>x.sub r)):au P f args (·=r) :=
 λ w st vs h0 h1 h2=>(h w st vs h0 h1 h2).mono λ e w' ⟨v,x,g',h3,h4,h5,h6⟩=>⟨v,r,g',h3,Z,h4 _ _ _ h5,h6⟩
theorem jK {m:Nat->Option Nat}:∀ (l:List PV),AV.mapA.go m (l.map .p)=some (l.map .p)
 | []=>rfl
 | x::r=>by simp only [cl,AV.mapA.go,AV.mapA,jK r]
theorem lf {m:Nat->Option Nat}{i j:Nat}{cs l:List AV}{r q:List (Nat×List AV)}(h1:m i=some j)(h2:AV.mapA.go m cs=some l)(h3:ij m r=some q):ij m ((i,cs)::r)=some ((j,l)::q):=by
 simp only [ij,h1,h2,h3]
theorem cq:∀ (l:List AV),vd l l
 | []=>trivial
 | x::r=>⟨AV.sub_refl x,cq r⟩
end Go.Ab
namespace Go.Ab
def Bb:BinOp->Bool->Bool->Option Bool|.eql,a,b=>some (a==b)|.neq,a,b=>some (!(a==b))|_,_,_=>none
theorem run_equalIn_bool {P:Program}(w:World)(d:Nat)(t:TypeId)(a b:Bool)(h:P.underlying t=some .bool):(Op.equalIn (d+1) t (.bool a) (.bool b)).run P w=.ok (a==b) w:=by
 simp [Op.equalIn,run_underlying h]
theorem run_equal_bool {P:Program}(w:World)(t:TypeId)(a b:Bool)(h:P.underlying t=some .bool):(Op.equal t (.bool a) (.bool b)).run P w=.ok (a==b) w:=run_equalIn_bool w 9999 t a b h
theorem sF {P:Program}{w:World}(op:BinOp)(t:TypeId)(x y:Operand)(a b:Bool) :
  (eqGuard op t x y (.bool a) (.bool b)).run P w=.ok () w:=by
 unfold eqGuard; split <;> rfl
section
variable {C:Cx} {o:Oper} {K:AS->Prop} {sl:List (Nat×AV)} {ob:List (Nat×List AV)} {d:Nat}
theorem AJ {op:BinOp}{t t':TypeId}{x y:Operand}{i:TI}{a b c:Bool}(ho:o.op=.binOp op t x y t')(hd:o.dst=some d)(hn:Nat.blt d C.n=true)
  (hi:look C.tt t=some i) (CR:i.k=.bool)
  (hx:evo sl x=some (.p (.val (.bool a)))) (hy:evo sl y=some (.p (.val (.bool b)))) (hc:Bb op a b=some c)
  (hK:K ⟨(d,.p (.val (.bool c)))::sl,ob⟩):aO C o K ⟨sl,ob⟩:=by
 obtain ⟨u,h1,h2⟩:=bc C.good hi;have h3:=lk (h2.trans CR);subst h3;refine ok_one hd hn (λ g w' w hs=>⟨_,?_,.p (.val _)⟩) hK
 cases op <;> simp only [Bb,aq,reduceCtorEq] at hc <;> subst hc <;>
  simp [execOp,ho,bQ hs hx,bQ hs hy,sF,binOp,run_equal_bool _ _ _ _ h1]
end
structure Kept (W w':World):Prop where
 frame:∀ may:MemPlace->Prop,W.keptBut w' may
 frozen:∀ a:Addr,a.block<W.heap.size->w'.frozen? a=W.frozen? a
 size:W.heap.size<=w'.heap.size
 block:∀ b,b<W.heap.size->w'.heap[b]? = W.heap[b]?
theorem After.kept {w w':World}{st:Nat->Nat->Prop}{g':Gh}(h:After w st w' g'):Kept w w':=by
 refine ⟨λ may=>⟨h.os,h.out,λ i hi=>?_⟩,λ a hb=>?_,h.size,h.fr⟩
 ·rw [h.fr i hi];rw [Array.getElem?_eq_getElem hi]
  cases w.heap[i] <;> simp
 ·simp only [World.frozen?,h.fr _ hb]
theorem Br (a:ByteArray):str a.data.toList=a:=by
 cases a; rfl
theorem grown_of {P:Program}{f:FuncId}{args:List PV}{vs:Array Value}{b:Bool}(h:au P f args (·=.p (.val (.bool b))))(w:World)(hgl:iE w (λ b _=>b<w.heap.size))(CC:vs.size=args.length)
  (ha:∀ (i:Nat) c v,args[i]? = some c->vs[i]? = some v->PRep w (λ b _=>b<w.heap.size) c v) :
  Calls P f vs w λ e w'=>e=.returned (.bool b)/\Kept w w':=by
 refine (h w (λ b _=>b<w.heap.size) vs ⟨λ b o h=>h,hgl⟩ CC ha).mono ?_;rintro e w' ⟨v,r,g',rfl,rfl,hr,hA⟩
 cases hr with|p h=>cases h; exact ⟨rfl,hA.kept⟩
end Go.Ab
namespace Go.Ab
theorem yj {w:World}{st:Nat->Nat->Prop}(a:ByteArray):PRep w st (.val (.string (str a.data.toList))) (.string a):=by
 have h:PRep w st (.val (.string (str a.data.toList))) (.string (str a.data.toList)):=.val _
 rwa [Br a] at h
def One (C:Cx)(ops:Array Oper)(o:Oper)(K:AS->Prop)(s:AS):Prop:=∀ i,ops[i]? = some o->rwp C ops [i] K s
section
variable {C:Cx} {ops:Array Oper} {K:AS->Prop} {sl:List (Nat×AV)} {ob:List (Nat×List AV)} {o:Oper} {j t d:Nat}
theorem ae {s:AS}(hg:o.guard=none)(h:aO C o K s):One C ops o K s :=
 λ i ho=>xX ho hg (h.mono λ _ h=>mn h)
theorem jq {want b:Bool}(h1:aO C o K ⟨sl,ob⟩)(hg:o.guard=some (j,want))(hj:(ops.toList[j]?).bind (·.dst)=some t)(hv:look sl t=some (.p (.val (.bool b))))(hb:b=want):One C ops o K ⟨sl,ob⟩:=by
 intro i ho;exact lI ho hg (t:=t) (by simpa using hj) (by simp [AS.get,hv]) hb (h1.mono λ _ h=>mn h)
theorem BN {want b:Bool}(hg:o.guard=some (j,want))(hj:(ops.toList[j]?).bind (·.dst)=some t)(hv:look sl t=some (.p (.val (.bool b))))(hb:b=!want)
  (hd:o.dst=some d) (hn:Nat.blt d C.n=true) (h2:K ⟨(d,.p (.val Go.undef))::sl,ob⟩):One C ops o K ⟨sl,ob⟩:=by
 intro i ho;refine rD ho hg (t:=t) (by simpa using hj) (by simp [AS.get,hv]) hb (λ t ht=>by rw [hd] at ht; cases ht; exact mv ▸ hn) (mn ?_);rw [hd]; exact h2
theorem yg {want:Bool}(hg:o.guard=some (j,want))(hj:(ops.toList[j]?).bind (·.dst)=some t)(hv:look sl t=some (.p (.val Go.undef)))
  (hd:o.dst=some d) (hn:Nat.blt d C.n=true) (h2:K ⟨(d,.p (.val Go.undef))::sl,ob⟩):One C ops o K ⟨sl,ob⟩:=by
 intro i ho;refine kP ho hg (t:=t) (by simpa using hj) (by simp [AS.get,hv]) (λ t ht=>by rw [hd] at ht; cases ht; exact mv ▸ hn) (mn ?_);rw [hd]; exact h2
end
def mi (base:List (Nat×AV))(o:Oper)(rs:List (Nat×AV)):List (Nat×AV) :=(o.after.toList.filterMap λ e=>if Region.binds .any e then rs[e.on]? else none)++base
def Step (C:Cx)(ops:Array Oper)(base:List (Nat×AV))(ob:List (Nat×List AV))(o:Oper)(rs:List (Nat×AV))(d:Nat)(r:AV):Prop :=∀ sl,(∀ i x,look (mi base o rs) i=some x->look sl i=some x)->∀ K:AS->Prop,K ⟨(d,r)::sl,ob⟩->One C ops o K ⟨sl,ob⟩
def DR (C:Cx)(ops:Array Oper)(base:List (Nat×AV))(ob:List (Nat×List AV))(K:AS->Prop):List Oper->List (Nat×AV)->Prop|[],rs=>K ⟨rs.reverse++base,ob⟩|o::rest,rs=>∃ d r,o.dst=some d/\look (rs.reverse++base) d=none/\Step C ops base ob o rs d r/\DR C ops base ob K rest (rs++[(d,r)])
def de (sl:List (Nat×AV)):List (Nat×AV)->Prop|[]=>True|(i,x)::r=>look sl i=some x/\de sl r
theorem jw {sl:List (Nat×AV)}:∀ {base:List (Nat×AV)},de sl base->∀ i x,look base i=some x->look sl i=some x
 | [],_,i,x,h=>by simp [look] at h
 | (j,y)::r,hb,i,x,h=>by
  rw [aJ] at h;by_cases e:j=i
  ·rw [if_pos e] at h; cases h; subst e; exact hb.1
  ·rw [if_neg e] at h; exact jw hb.2 i x h
theorem qM {l:List (Nat×AV)}{i:Nat}(h:look l i=none):∀ p∈l,p.1≠i:=by
 induction l with
 | nil=>simp
 | cons q l ih=>
  obtain ⟨j,x⟩:=q;rw [aJ] at h;by_cases e:j=i
  ·rw [if_pos e] at h; cases h
  ·rw [if_neg e] at h;intro p hp;rcases ro.1 hp with rfl|hp
   ·exact e
   ·exact ih h p hp
theorem vG {C:Cx}{ops:Array Oper}{base:List (Nat×AV)}{ob:List (Nat×List AV)}{K:AS->Prop}:∀ {l:List Oper} {pre:List (Nat×AV)},DR C ops base ob K l pre ->
  ∃ tail:List (Nat×AV),tail.length=l.length/\K ⟨(pre++tail).reverse++base,ob⟩ /\
   ∀ (i:Nat) o,l[i]? = some o->∃ d r,tail[i]? = some (d,r)/\o.dst=some d/\Step C ops base ob o (pre++tail.take i) d r /\
    (∀ p∈pre++tail.take i,p.1≠d)/\(∀ p∈base,p.1≠d)
 | [],pre,h=>⟨[],Z,by rw [List.append_nil]; exact h,λ i o h=>by simp at h⟩
 | o::rest,pre,⟨d,r,hd,hf,hs,h⟩=>by
  obtain ⟨tail,h1,h2,h3⟩:=vG h;have CQ:=qM hf;refine ⟨(d,r)::tail,by simp [h1],by simpa using h2,λ i o' ho=>?_⟩
  cases i with
  | zero=>
   simp only [List.getElem?_cons_zero,aq] at ho;subst ho;refine ⟨d,r,rfl,hd,by simpa using hs,λ p hp=>CQ p ?_,λ p hp=>CQ p (List.mem_append.2 (.inr hp))⟩;simp only [List.take_zero,List.append_nil] at hp;exact List.mem_append.2 (.inl (List.mem_reverse.2 hp))
  | succ i=>
   simp only [List.getElem?_cons_succ] at ho;obtain ⟨d',r',h4,h5,h6,h7,h8⟩:=h3 i o' ho;exact ⟨d',r',by simpa using h4,h5,by simpa using h6,by simpa using h7,h8⟩
theorem um {P:Program}{o:Oper}{a:Act}{next next':Act->World->Prop}{Q Q':Exit->Act->World->Prop}{r:Result Next}
  (hn:∀ a w,next a w->next' a w) (hq:∀ e a w,e≠.normal->Q e a w->Q' e a w) (h:o.upon P a next Q r):o.upon P a next' Q' r:=by
 cases r with
 | halt x w=>
  cases x <;> simp only [Oper.upon] at h ⊢
  exact hq _ _ _ G h
 | ok x w=>
  cases x <;> simp only [Oper.upon] at h ⊢
  case value v=>exact hn _ _ h
  case skip=>exact hn _ _ h
  case defer d=>exact hn _ _ h
  case enter f args=>
   refine h.mono λ e w' h=>?_
   cases e with
   | returned v=>exact hn _ _ h
   | panicked c=>exact hq _ _ _ G h
   | outgrown=>obtain ⟨a0,w1,h⟩:=h; exact ⟨a0,w1,hq _ _ _ G h⟩
  case row r args=>exact h.mono λ v w' h=>hn _ _ h
theorem oy {P:Program}{ops:Array Oper}{i:Nat}{R:Act->World->Prop}{K:Act->World->Prop}{Q:Exit->Act->World->Prop}{a:Act}{w:World}
  (h:wpOps P ops (λ e a' w'=>e=.normal/\R a' w') [i] a w) (hk:∀ a' w',R a' w'->K a' w'):wpOp P ops Q i K a w:=by
 rw [wpOps_cons] at h;unfold wpOp at h ⊢
 cases ho:ops[i]? with
 | none=>simp only [ho,wpOps] at h; exact hk _ _ h.2
 | some o=>
  simp only [ho] at h ⊢;split
  ·rename_i hw;rw [if_pos hw] at h;rcases h with h|⟨_,a0,w1,hq,_⟩
   ·exact .inl (um (λ a w h=>hk _ _ (by simpa [wpOps] using h)) (λ e a w CQ h=>absurd h.1 CQ) h)
   ·cases hq
  ·rename_i hw;rw [if_neg hw] at h;exact hk _ _ (by simpa [wpOps] using h)
def unl (n:Nat)(listed:Array Bool):Nat:=((List.range n).filter λ j=>!listed.getD j false).length
theorem oq {n i:Nat}{listed:Array Bool}(hs:listed.size=n)(hi:i<n)(h:listed.getD i true=false):unl n (listed.setIfInBounds i true)+1=unl n listed:=by
 unfold unl
 have hf:listed.getD i false=false:=by
  have:listed[i]? = some listed[i]:=Array.getElem?_eq_getElem O;simp only [Array.getD_eq_getD_getElem?,this,rg] at h ⊢;exact h
 have key:∀ l:List Nat,l.Nodup->i∈l->((l.filter λ j=>!(listed.setIfInBounds i true).getD j false).length+1=(l.filter λ j=>!listed.getD j false).length):=by
  intro l
  induction l with
  | nil=>intro _ h; cases h
  | cons k l ih=>
   intro hn hm;obtain ⟨hk,hn'⟩:=List.nodup_cons.1 hn;by_cases e:k=i
   ·subst e
    have h1:(listed.setIfInBounds k true).getD k false=true:=by
     have:k<listed.size:=by omega
     simp [this]
    have h2:(l.filter λ j=>!(listed.setIfInBounds k true).getD j false)=l.filter λ j=>!listed.getD j false:=by
     refine List.filter_congr λ j hj=>?_;rw [getD_set_ne false (λ e=>hk (by rw [e]; exact hj))]
    rw [List.filter_cons_of_neg (by rw [h1]; simp),List.filter_cons_of_pos (by rw [hf]; rfl),h2]
    rfl
   ·have hm':i∈l:=(ro.1 hm).resolve_left (λ h=>e h.symm);have:=ih hn' hm';have h1:(listed.setIfInBounds i true).getD k false=listed.getD k false:=getD_set_ne false (λ h=>e h.symm)
    cases hv:listed.getD k false
    ·rw [List.filter_cons_of_pos (by rw [h1,hv]; rfl),List.filter_cons_of_pos (by rw [hv]; rfl),d4,d4,<- this]
    ·rw [List.filter_cons_of_neg (by rw [h1,hv]; simp),List.filter_cons_of_neg (by rw [hv]; simp)];exact this
 exact key _ List.nodup_range (List.mem_range.2 hi)
theorem tZ {n:Nat}{listed:Array Bool}(h:unl n listed=0):∀ j,j<n->listed.getD j false=true:=by
 intro j hj;have h1:=List.length_eq_zero_iff.1 h;have h2:=List.filter_eq_nil_iff.1 h1 j (List.mem_range.2 hj);simpa using h2
theorem uB {ops:Array Oper}{listed:Array Bool}(hs:listed.size=ops.size)(hord:∀ (j:Nat) o,ops[j]? = some o->∀ e∈o.after,Region.binds .any e=true->e.on<j)(h:Region.ready .any ops listed=[]) :
  ∀ j,j<ops.size->listed.getD j false=true:=by
 intro j
 induction j using Nat.strongRecOn with
 | ind j ih=>
  intro hj
  cases hv:listed.getD j false with
  | true=>rfl
  | false=>
   have hjl:j<listed.size:=by omega
   have:j∈Region.ready .any ops listed:=by
    rw [mem_ready];refine ⟨?_,ops[j],Array.getElem?_eq_getElem hj,λ e he hb=>?_⟩
    ·simp only [Array.getD_eq_getD_getElem?,Array.getElem?_eq_getElem hjl,rg] at hv ⊢;exact hv
    ·have hlt:=hord j _ (Array.getElem?_eq_getElem hj) e he hb;exact ih e.on hlt O
   rw [h] at this
   cases this
theorem zH {sl sl':List (Nat×AV)}{ob:List (Nat×List AV)}(key:∀ i x,look sl i=some x->look sl' i=some x):(⟨sl',ob⟩:AS).le ⟨sl,ob⟩:=by
 refine ⟨λ j x hx=>?_,λ id cs hc=>?_⟩
 ·have:=key j x hx;simp only [AS.get,this,rg]; exact AV.sub_refl _
 ·exact ⟨cs,hc,(gw (cq cs)).1,(gw (cq cs)).2⟩
theorem zh {C:Cx}{id:Nat}{ops:Array Oper}{Q:Exit->AS->Prop}{sl:List (Nat×AV)}{ob:List (Nat×List AV)}(base:List (Nat×AV))(hm:C.P.follows .mixedOrders=true)(hb:de sl base)
  (hord:(ops.toList.zipIdx.all λ p=>p.1.after.toList.all λ e=>!(Region.binds .any e)||Nat.blt e.on p.2)=true) (h:DR C ops base ob (Q .normal) ops.toList []):awp C (.region id ops true) Q ⟨sl,ob⟩:=by
 intro g a w hs;obtain ⟨rs,CE,hfin,hstep⟩:=vG h;simp only [List.nil_append,ur] at CE hfin hstep
 have hord':∀ (j:Nat) o,ops[j]? = some o->∀ e∈o.after,Region.binds .any e=true->e.on<j:=by
  intro j o ho e he hbe
  have h1:=qr.1 hord (o,j) (by
   rw [List.mem_iff_getElem?]
   exact ⟨j,by rw [List.getElem?_zipIdx,Array.getElem?_toList,ho]; simp⟩)
  have h2:=qr.1 h1 e (Array.mem_toList_iff.2 he);simp only [hbe,Bool.not_true,Bool.false_or] at h2;exact mv ▸ h2
 -- slots are apart
 have hap:∀ (i j:Nat) p q,rs[i]? = some p->rs[j]? = some q->i<j->p.1≠q.1:=by
  intro i j p q h1 h2 hij;have hj:j<ops.size:=by have:=(List.getElem?_eq_some_iff.1 h2).1; omega
  obtain ⟨d,r,h3,_,_,h4,_⟩:=hstep j ops[j] (by rw [Array.getElem?_toList,Array.getElem?_eq_getElem hj]);rw [h2] at h3; cases h3;refine h4 p ?_;rw [List.mem_iff_getElem?];exact ⟨i,by rw [List.getElem?_take_of_lt hij]; exact h1⟩
 have main:∀ (fuel:Nat) (listed:Array Bool) (g:Gh) (a:Act) (w:World) (sl':List (Nat×AV)),listed.size=ops.size->unl ops.size listed=fuel->St C.n C.w0 C.F g ⟨sl',ob⟩ a w ->
   (∀ i x,look base i=some x->look sl' i=some x)->(∀ (j:Nat) p,listed.getD j false=true->rs[j]? = some p->look sl' p.1=some p.2) ->
   wpAny C.P .any ops (λ e a' w'=>∃ g' s',St C.n C.w0 C.F g' s' a' w'/\Q e s') fuel listed a w:=by
  have fin:∀ (listed:Array Bool) (g:Gh) (a:Act) (w:World) (sl':List (Nat×AV)),(∀ j,j<ops.size->listed.getD j false=true)->St C.n C.w0 C.F g ⟨sl',ob⟩ a w ->
    (∀ i x,look base i=some x->look sl' i=some x)->(∀ (j:Nat) p,listed.getD j false=true->rs[j]? = some p->look sl' p.1=some p.2) ->
    ∃ g' s',St C.n C.w0 C.F g' s' a w/\Q .normal s':=by
   intro listed g a w sl' hall hs hbase hres;refine ⟨g,_,hs.weaken ?_,hfin⟩
   have key:∀ i x,look (rs.reverse++base) i=some x->look sl' i=some x:=by
    intro i x hx;rcases List.mem_append.1 (fv hx) with hx'|hx'
    ·obtain ⟨j,hj⟩:=List.mem_iff_getElem?.1 (List.mem_reverse.1 hx');have hjl:j<ops.size:=by have:=(List.getElem?_eq_some_iff.1 hj).1; omega
     exact hres j (i,x) (hall j hjl) hj
    ·have:look rs.reverse i=none:=by
      cases hr:look rs.reverse i with
      | none=>rfl
      | some y=>
       obtain ⟨j,hj⟩:=List.mem_iff_getElem?.1 (List.mem_reverse.1 (fv hr));have hjl:j<ops.size:=by have:=(List.getElem?_eq_some_iff.1 hj).1; omega
       obtain ⟨d,r,h3,_,_,_,h4⟩:=hstep j ops[j] (by rw [Array.getElem?_toList,Array.getElem?_eq_getElem hjl]);rw [hj] at h3; cases h3;exact absurd rfl (h4 _ hx')
     rw [fe,this] at hx;exact hbase i x (by simpa using hx)
   exact zH key
  intro fuel
  induction fuel with
  | zero=>
   intro listed g a w sl' CC hu hs hbase hres;have hall:=tZ hu;refine ⟨?_,fin listed g a w sl' hall hs hbase hres⟩;rw [List.eq_nil_iff_forall_not_mem];intro i hi;obtain ⟨h1,o,ho,_⟩:=mem_ready.1 hi;have hil:i<ops.size:=(Array.getElem?_eq_some_iff.1 ho).1;have h2:=hall i hil;have hil2:i<listed.size:=by omega
   simp only [Array.getD_eq_getD_getElem?,Array.getElem?_eq_getElem hil2,rg] at h1 h2;rw [h1] at h2; cases h2
  | succ fuel ih=>
   intro listed g a w sl' CC hu hs hbase hres;refine ⟨λ hr=>fin listed g a w sl' (uB CC hord' hr) hs hbase hres,λ i hi=>?_⟩;obtain ⟨h1,o,ho,hafter⟩:=mem_ready.1 hi;have hil:i<ops.size:=(Array.getElem?_eq_some_iff.1 ho).1;obtain ⟨d,r,h3,h4,h5,h6,h7⟩:=hstep i o (by rw [Array.getElem?_toList]; exact ho)
   have hkn:∀ k x,look (mi base o (rs.take i)) k=some x->look sl' k=some x:=by
    intro k x hx;unfold mi at hx;rw [fe] at hx
    cases hq:look (o.after.toList.filterMap λ e=>if Region.binds .any e then (rs.take i)[e.on]? else none) k with
    | none=>rw [hq] at hx; exact hbase k x (by simpa using hx)
    | some y=>
     rw [hq] at hx;simp only [Option.some_or,aq] at hx;subst hx;obtain ⟨e,he,hex⟩:=List.mem_filterMap.1 (fv hq);by_cases hbn:Region.binds .any e=true
     ·rw [if_pos hbn] at hex;have he':=Array.mem_toList_iff.1 he;have hlt:=hord' i o ho e he' hbn;rw [List.getElem?_take_of_lt hlt] at hex;exact hres e.on (k,y) (hafter e he' hbn) hex
     ·rw [if_neg hbn] at hex; cases hex
   have CH:=h5 sl' hkn (λ s=>s=⟨(d,r)::sl',ob⟩) rfl i ho;refine oy (CH g a w hs) ?_;rintro a' w' ⟨g',s',hs',rfl⟩;refine ih _ g' a' w' ((d,r)::sl') (by simpa using CC) ?_ hs' (λ k x hx=>?_) (λ j p hj hp=>?_)
   ·have:=oq CC hil h1; omega
   ·rw [aJ,if_neg]
    ·exact hbase k x hx
    ·intro e; subst e;exact h7 _ (fv hx) rfl
   ·rw [aJ];by_cases e:j=i
    ·subst e;rw [h3] at hp; cases hp;rw [if_pos rfl]
    ·have hjl:j<ops.size:=by have:=(List.getElem?_eq_some_iff.1 hp).1; omega
     rw [if_neg]
     ·refine hres j p ?_ hp;rw [getD_set_ne false (λ h=>e h.symm)] at hj;exact hj
     ·intro he;rcases Nat.lt_or_gt_of_ne e with hlt|hlt
      ·exact hap j i _ _ hp h3 hlt he.symm
      ·exact hap i j _ _ h3 hp hlt he
 refine wp_region_any hm ?_;refine main ops.size _ g a _ sl G ?_ hs.drew (λ i x hx=>jw hb i x hx) (λ j p hj _=>?_)
 ·unfold unl;rw [List.filter_eq_self.2,List.length_range];intro j hj;have:=List.mem_range.1 hj;simp [this]
 ·exfalso;rw [Array.getD_eq_getD_getElem?,Array.getElem?_replicate] at hj;split at hj <;> simp at hj
theorem aM {sl:List (Nat×AV)}:gx sl []=some []:=rfl
theorem am {sl:List (Nat×AV)}{x:Operand}{r:List Operand}{a:AV}{q:List AV}(h1:evo sl x=some a)(h2:gx sl r=some q):gx sl (x::r)=some (a::q):=by
 simp only [gx,h1,h2]
end Go.Ab
namespace Go.Ab
abbrev Bk:=List UInt8
def eI (n:Int):PV:=.val (.int .i64 n)
def eK (k:IntKind)(n:Int):PV:=.val (.int k n)
def eS (l:Bk):PV:=.val (.string (str l))
def eB (b:Bool):PV:=.val (.bool b)
def eL {α:Type}(f:α->PV)(l:List α):PV:=.slice (l.map f)
def byt (l:Bk)(i:Int):Int:=((l.getD i.toNat 0).toNat:Int)
def lat {α:Type} [Inhabited α] (l:List α)(i:Int):α:=l.getD i.toNat default
def sub {α:Type}(l:List α)(i j:Int):List α:=(l.take j.toNat).drop i.toNat
def ck {α:Type}(p:Prop) [Decidable p] (k:Option α):Option α:=if p then k else none
def inR (c:Int):Prop:=-9223372036854775808<=c/\c<=9223372036854775807
instance (c:Int):Decidable (inR c):=inferInstanceAs (Decidable (_/\_))
def jn {α β:Type}(o:Option (α⊕β))(k:α->Option β):Option β:=match o with
 | none=>none
 | some (.inl v)=>k v
 | some (.inr x)=>some x
theorem dX {α:Type}{p:Prop} [Decidable p] {k:Option α}(h:p):ck p k=k:=if_pos h
theorem cU {α:Type}{p:Prop} [Decidable p] {k:Option α}{r:α}(h:ck p k=some r):p/\k=some r:=by
 unfold ck at h;split at h
 ·rename_i hp; exact ⟨hp,h⟩
 ·cases h
theorem BK {α β:Type}{o:Option α}{f:α->Option β}{r:β}(h:o.bind f=some r):∃ x,o=some x/\f x=some r:=by
 cases o with
 | none=>cases h
 | some x=>exact ⟨x,Z,h⟩
theorem dl {α β:Type}{o:Option (α⊕β)}{k:α->Option β}{r:β}(h:jn o k=some r):∃ v,o=some v/\(∀ x,v=.inl x->k x=some r)/\(∀ x,v=.inr x->x=r):=by
 cases o with
 | none=>cases h
 | some v=>
  refine ⟨v,Z,λ x e=>?_,λ x e=>?_⟩
  ·subst e; exact h
  ·subst e; exact Option.some.inj h
theorem zE {α:Type}{c:Prop} [Decidable c] {a b:Option α}{r:α}(hc:c)(h:(if c then a else b)=some r):a=some r:=by rwa [if_pos hc] at h
theorem if_f {α:Type}{c:Prop} [Decidable c] {a b:Option α}{r:α}(hc:¬c)(h:(if c then a else b)=some r):b=some r:=by rwa [if_neg hc] at h
theorem zf {α:Type}{c:Bool}{a b:Option α}{r:α}(hc:c=false)(h:(if c=true then a else b)=some r):b=some r:=by subst hc; exact h
def exQ (id:Nat)(P:AS->Prop)(Q:Exit->AS->Prop):Exit->AS->Prop|.exit id',s=>if id'=id then P s else Q (.exit id') s|e,s=>Q e s
theorem zq {C:Cx}{x:Code}{Q:Exit->AS->Prop}{s:AS}(P:AS->Prop)(hP:∀ s',P s'->Q .normal s')(h:awp C x (mc P Q) s):awp C x Q s :=
 kU (λ e s' h=>by cases e <;> first|exact hP _ h|exact h) h
theorem xR {C:Cx}{x:Code}{Q:Exit->AS->Prop}{s:AS}(id:Nat)(P:AS->Prop)(hP:∀ s',P s'->Q (.exit id) s')(h:awp C x (exQ id P Q) s):awp C x Q s :=
 kU (λ e s' k=>by
  cases e with
  | exit id'=>
   simp only [exQ] at k;split at k
   ·rename_i e; rw [e]; exact hP _ k
   ·exact k
  | normal=>exact k
  | goto l=>exact k
  | ret=>exact k
  | panic ch=>exact k
  | outgrown=>exact k) h
theorem bM {id:Nat}{P:AS->Prop}{Q:Exit->AS->Prop}{s:AS}(h:P s):exQ id P Q (.exit id) s:=by simp only [exQ]; exact h
theorem a6 {id id':Nat}{P:AS->Prop}{Q:Exit->AS->Prop}{s:AS}(CQ:Nat.beq id' id=false)(h:Q (.exit id') s):exQ id P Q (.exit id') s:=by
 simp only [exQ,if_neg (show ¬ id'=id from λ e=>by subst e; simp at CQ)]; exact h
theorem bJ {id:Nat}{P:AS->Prop}{Q:Exit->AS->Prop}{s:AS}(h:Q .ret s):exQ id P Q .ret s:=h
theorem aP {id:Nat}{P:AS->Prop}{Q:Exit->AS->Prop}{s:AS}(h:Q .normal s):exQ id P Q .normal s:=h
def bY (C:Cx)(s t:AS):Prop:=∀ g a w,St C.n C.w0 C.F g s a w->∃ g',St C.n C.w0 C.F g' t a w
theorem nv {C:Cx}{c:Code}{Q:Exit->AS->Prop}{s t:AS}(hg:bY C s t)(h:awp C c Q t):awp C c Q s:=λ g a w hs=>by
 obtain ⟨g',hs'⟩:=hg g a w hs;exact h g' a w hs'
theorem uS {C:Cx}{ops:Array Oper}{r:List Oper}{K:AS->Prop}{s t:AS}(hg:bY C s t)(h:ea C ops r K t):ea C ops r K s:=λ k hk g a w hs=>by
 obtain ⟨g',hs'⟩:=hg g a w hs;exact h k hk g' a w hs'
theorem bS {C:Cx}{s t:AS}(h:s.le t):bY C s t:=λ g _ _ hs=>⟨g,hs.weaken h⟩
theorem ar:∀ {l q:List AV},jQ l q->(AV.tuple l).sub (.tuple q):=by
 intro l q hs w g v h;obtain ⟨h1,h2⟩:=ge hs
 cases h with
 | tuple hl h=>
  refine .tuple (hl.trans h1) λ i c v hc hv=>?_;have hi:i<l.length:=by have:=(List.getElem?_eq_some_iff.1 hc).1; omega
  exact h2 i l[i] c (List.getElem?_eq_getElem hi) hc _ _ _ (h i _ v (List.getElem?_eq_getElem hi) hv)
theorem iq {α:Type}(f:α->PV):(AV.p (.val (.slice none 0 0))).sub (.p (eL f [])):=AV.sub_nilv
theorem AS.le_trans {s t u:AS}(h:s.le t)(k:t.le u):s.le u:=by
 refine ⟨λ j x hx w g v hv=>?_,λ id cs hc=>?_⟩
 ·have h2:=k.sl j x hx
  cases ht:look t.sl j with
  | none=>
   have:t.get j=.undef:=by simp [AS.get,ht]
   rw [this] at h2;exact h2 w g v (.undef _)
  | some y=>
   have e:t.get j=y:=by simp [AS.get,ht]
   rw [e] at h2;exact h2 w g v (h.sl j y ht w g v hv)
 ·obtain ⟨ds,h1,h2,h3⟩:=k.ob id cs hc;obtain ⟨es,h4,h5,h6⟩:=h.ob id ds h1;refine ⟨es,h4,by omega,λ i c d hc hd w g v hv=>?_⟩;have hi:i<ds.length:=by have:=(List.getElem?_eq_some_iff.1 hc).1; omega
  exact h3 i c ds[i] hc (List.getElem?_eq_getElem hi) w g v (h6 i ds[i] d (List.getElem?_eq_getElem hi) hd w g v hv)
section
variable {C:Cx} {o:Oper} {K:AS->Prop} {sl:List (Nat×AV)} {ob:List (Nat×List AV)} {d:Nat}
theorem g6 {t:TypeId}{x y:Operand}{a:Bk}{k:IntKind}{j:Int}{i:TI}(ho:o.op=.index t x y)(hd:o.dst=some d)(hn:Nat.blt d C.n=true)
  (hi:look C.tt t=some i) (CR:i.k=.string) (hx:evo sl x=some (.p (.val (.string (str a))))) (hy:evo sl y=some (.p (.val (.int k j))))
  (hj:0<=j/\j<(a.length:Int)) (hK:K ⟨(d,.p (eK .u8 (byt a j)))::sl,ob⟩):aO C o K ⟨sl,ob⟩:=xK ho hd hn hi CR hx hy hj hK
theorem xD {t:TypeId}{x:Operand}{lo hi:Option Operand}{a:Bk}{l h:Int}{i:TI}(ho:o.op=.slice t x lo hi none)(hd:o.dst=some d)(hn:Nat.blt d C.n=true)
  (hi':look C.tt t=some i) (CR:i.k=.string) (hx:evo sl x=some (.p (.val (.string (str a))))) (hlo:loI sl lo=some l) (hhi:hiI sl (a.length:Int) hi=some h)
  (hb:0<=l/\l<=h/\h<=(a.length:Int)) (hK:K ⟨(d,.p (eS (sub a l h)))::sl,ob⟩):aO C o K ⟨sl,ob⟩:=xg ho hd hn hi' CR hx hlo hhi hb hK
theorem Af {α:Type}{t e:TypeId}{x:Operand}{y:AV}{f:α->PV}{l:List α}{i:TI}(ho:o.op=.call { callee:=.builtin .len,args:=#[x],argTypes:=#[t] })(hd:o.dst=some d)(hn:Nat.blt d C.n=true)
  (hi:look C.tt t=some i) (CR:i.k=.slice e) (hx:evo sl x=some y) (hy:y.elems? = some (l.map f)) (hK:K ⟨(d,.p (eI (l.length:Int)))::sl,ob⟩):aO C o K ⟨sl,ob⟩ :=
 Aq ho hd hn hi CR hx hy hK
theorem cO {α:Type} [Inhabited α] {t e:TypeId}{x y:Operand}{z:AV}{f:α->PV}{l:List α}{i ie:TI}{k:IntKind}{n:Int}(cs:α->List PV)(ho:o.op=.indexAddr t x y)(hd:o.dst=some d)(hn:Nat.blt d C.n=true)
  (hi:look C.tt t=some i) (CR:i.k=.slice e) (hie:look C.tt e=some ie) (hx:evo sl x=some z) (hz:z.elems? = some (l.map f))
  (hy:evo sl y=some (.p (.val (.int k n)))) (hb:0<=n/\n<(l.length:Int)) (CJ:∀ x,(f x).cells=cs x) (CC:∀ x,(cs x).length=ie.size)
  (hK:K ⟨(d,.rptr (cs (lat l n)))::sl,ob⟩):aO C o K ⟨sl,ob⟩:=by
 refine qc (el:=f (lat l n)) ho hd hn hi CR hie hx hz hy hb.1 ?_ (by rw [CJ]; exact CC _) (by rw [CJ]; exact hK);have:n.toNat<l.length:=by omega
 simp [lat,List.getD_eq_getElem?_getD,List.getElem?_eq_getElem this]
theorem qi {x:Operand}(ho:o.op=.assign x)(hd:o.dst=some d)(hn:Nat.blt d C.n=true)
  (hK:K ⟨(d,.undef)::sl,ob⟩):aO C o K ⟨sl,ob⟩ :=
 ok_one hd hn (λ g a w hs=>⟨a.eval x,by simp [execOp,ho],.undef _⟩) hK
theorem iM {α:Type}{t e:TypeId}{x:Operand}{lo hi:Option Operand}{z:AV}{f:α->PV}{l:List α}{a h:Int}{i ie:TI}(ho:o.op=.slice t x lo hi none)(hd:o.dst=some d)(hn:Nat.blt d C.n=true)
  (hi':look C.tt t=some i) (CR:i.k=.slice e) (hie:look C.tt e=some ie) (hx:evo sl x=some z) (hz:z.elems? = some (l.map f)) (hlo:loI sl lo=some a) (hhi:hiI sl (l.length:Int) hi=some h)
  (hb:0<=a/\a<=h/\h<=(l.length:Int)) (CC:∀ x,(f x).cells.length=ie.size)
  (hK:K ⟨(d,.p (eL f (sub l a h)))::sl,ob⟩):aO C o K ⟨sl,ob⟩:=by
 refine wZ ho hd hn hi' CR hie hx hz hlo (by rw [n6]; exact hhi) (by rw [n6]; exact hb) (λ y hy=>?_) ?_
 ·obtain ⟨x,_,rfl⟩:=List.mem_map.1 hy; exact CC x
 ·rw [<- List.map_take,<- List.map_drop]; exact hK
end
def vC (sl:List (Nat×AV))(k n:Nat):List Nat->Prop|[]=>True|j::r=>(∃ m,look sl j=some (.arr k 1 0 m)/\m=n)/\vC sl k n r
theorem vC.at {sl:List (Nat×AV)}{k n:Nat}:∀ {js:List Nat},vC sl k n js->∀ j∈js,look sl j=some (.arr k 1 0 n)
 | [],_,j,hj=>by simp at hj
 | i::r,h,j,hj=>by
  obtain ⟨m,h1,rfl⟩:=h.1;rcases ro.1 hj with rfl|hj
  ·exact h1
  ·exact vC.at h.2 j hj
end Go.Ab
namespace Go.Ab
abbrev Rev:=List (Nat×Nat×AV)
def nO:Rev->Nat->Option (Nat×AV)|[],_=>none|(j,p)::r,k=>bif Nat.beq j k then some p else nO r k
def kZ:Rev->List (Nat×AV)|[]=>[]|(_,p)::r=>p::kZ r
def wN (base:List (Nat×AV))(o:Oper)(rev:Rev):List (Nat×AV)->Prop|[]=>True|(i,x)::r=>(look base i=some x\/∃ k,(o.after.toList.any λ e=>Nat.beq e.on k&&Region.binds .any e)=true/\nO rev k=some (i,x))/\wN base o rev r
def nz (C:Cx)(ops:Array Oper)(ob:List (Nat×List AV))(o:Oper)(kn:List (Nat×AV))(d:Nat)(r:AV):Prop :=∀ sl,(∀ i x,look kn i=some x->look sl i=some x)->∀ K:AS->Prop,K ⟨(d,r)::sl,ob⟩->One C ops o K ⟨sl,ob⟩
def DQ (C:Cx)(ops:Array Oper)(base:List (Nat×AV))(ob:List (Nat×List AV))(K:AS->Prop):List Oper->Nat->Rev->Prop|[],_,rev=>K ⟨kZ rev++base,ob⟩|o::rest,k,rev=>∃ d r kn,o.dst=some d/\(rev.all λ p=>!(Nat.beq p.2.1 d))=true/\look base d=none/\wN base o rev kn/\nz C ops ob o kn d r/\DQ C ops base ob K rest (k+1) ((k,d,r)::rev)
theorem Bs {C:Cx}{ops:Array Oper}{base:List (Nat×AV)}{ob:List (Nat×List AV)}{K:AS->Prop}{k:Nat}{rev:Rev}(h:K ⟨kZ rev++base,ob⟩):DQ C ops base ob K [] k rev:=h
theorem vZ {C:Cx}{ops:Array Oper}{base:List (Nat×AV)}{ob:List (Nat×List AV)}{K:AS->Prop}{o:Oper}{rest:List Oper}{k:Nat}{rev:Rev}{d:Nat}(r:AV)(kn:List (Nat×AV))(hkn:wN base o rev kn)
  (hs:nz C ops ob o kn d r) (hd:o.dst=some d) (hf:(rev.all λ p=>!(Nat.beq p.2.1 d))=true) (hb:look base d=none) (h:DQ C ops base ob K rest (k+1) ((k,d,r)::rev)):DQ C ops base ob K (o::rest) k rev :=
 ⟨d,r,kn,hd,hf,hb,hkn,hs,h⟩
def A6 (rev:Rev)(rs:List (Nat×AV)):Prop:=kZ rev=rs.reverse/\∀ k p,nO rev k=some p->rs[k]? = some p
theorem xf {rev:Rev}{i:Nat}{x:AV}:(i,x)∈kZ rev->∃ j,(j,i,x)∈rev:=by
 induction rev with
 | nil=>intro h; simp [kZ] at h
 | cons q r ih=>
  obtain ⟨j,p⟩:=q;intro h;simp only [kZ] at h;rcases ro.1 h with rfl|h
  ·exact ⟨j,by simp⟩
  ·obtain ⟨j',h'⟩:=ih h;exact ⟨j',by simp [h']⟩
theorem mA {l:List (Nat×AV)}{i:Nat}(h:∀ p∈l,p.1≠i):look l i=none:=by
 cases hl:look l i with
 | none=>rfl
 | some x=>exact absurd Z (h _ (fv hl))
theorem rp {base:List (Nat×AV)}{o:Oper}{rev:Rev}{rs sl:List (Nat×AV)}(hr:A6 rev rs)
  (hap:∀ (i j:Nat) p q,rs[i]? = some p->rs[j]? = some q->p.1=q.1->i=j) (hbs:∀ p∈rs,look base p.1=none)
  (h:∀ i x,look (mi base o rs) i=some x->look sl i=some x):∀ {kn:List (Nat×AV)},wN base o rev kn->∀ i x,look kn i=some x->look sl i=some x
 | [],_,i,x,hx=>by simp [look] at hx
 | (j,y)::r,hk,i,x,hx=>by
  rw [aJ] at hx;by_cases e:j=i
  ·rw [if_pos e] at hx
   cases hx; subst e
   refine h j y ?_;unfold mi;rw [fe];rcases hk.1 with hb|⟨k,EK,D1⟩
   ·have:look (o.after.toList.filterMap λ e=>if Region.binds .any e then rs[e.on]? else none) j=none:=by
     refine mA λ p hp=>?_;obtain ⟨e,_,hex⟩:=List.mem_filterMap.1 hp;by_cases hbn:Region.binds .any e=true
     ·rw [if_pos hbn] at hex;have:=hbs p (List.mem_of_getElem? hex);intro e2; rw [e2,hb] at this; cases this
     ·rw [if_neg hbn] at hex; cases hex
    rw [this]; exact hb
   ·have hrk:=hr.2 k _ D1;obtain ⟨e,he,hbe⟩:=List.any_eq_true.1 EK;simp only [n7] at hbe;have hek:=bx hbe.1
    have hmem:(j,y)∈o.after.toList.filterMap λ e=>if Region.binds .any e then rs[e.on]? else none :=
     List.mem_filterMap.2 ⟨e,he,by rw [if_pos hbe.2,hek]; exact hrk⟩
    cases hq:look (o.after.toList.filterMap λ e=>if Region.binds .any e then rs[e.on]? else none) j with
    | none=>exact absurd Z (qM hq _ hmem)
    | some z=>
     obtain ⟨e',_,hex⟩:=List.mem_filterMap.1 (fv hq);by_cases hbn:Region.binds .any e'=true
     ·rw [if_pos hbn] at hex;have h2:=hap _ _ _ _ hex hrk rfl;rw [h2,hrk] at hex
      cases hex; rfl
     ·rw [if_neg hbn] at hex; cases hex
  ·rw [if_neg e] at hx;exact rp hr hap hbs h hk.2 i x hx
theorem A8 {C:Cx}{ops:Array Oper}{base:List (Nat×AV)}{ob:List (Nat×List AV)}{K:AS->Prop}:∀ {l:List Oper} {k:Nat} {rev:Rev} {rs:List (Nat×AV)},DQ C ops base ob K l k rev->rs.length=k->A6 rev rs ->
  (∀ (i j:Nat) p q,rs[i]? = some p->rs[j]? = some q->p.1=q.1->i=j)->(∀ p∈rs,look base p.1=none)->DR C ops base ob K l rs
 | [],k,rev,rs,h,_,hr,_,_=>by
  have h':K ⟨kZ rev++base,ob⟩:=h;rw [hr.1] at h';exact h'
 | o::rest,k,rev,rs,⟨d,r,kn,hd,hf,hb,hkn,hs,h⟩,hk,hr,hap,hbs=>by
  have hfr:∀ p∈rs,p.1≠d:=by
   intro p hp e;have h1:(p.1,p.2)∈kZ rev:=by rw [hr.1]; exact List.mem_reverse.2 hp
   obtain ⟨j,hj⟩:=xf h1;have h2:=qr.1 hf _ hj;simp [e] at h2
  refine ⟨d,r,hd,?_,λ sl Cy K hK=>hs sl (rp hr hap hbs Cy hkn) K hK,A8 h (by simp [hk]) ⟨?_,?_⟩ ?_ ?_⟩
  ·rw [fe,mA (λ p hp=>hfr p (List.mem_reverse.1 hp))];exact hb
  ·simp [kZ,hr.1]
  ·intro k' p h';simp only [nO] at h'
   cases hkk:Nat.beq k k'
   ·rw [hkk] at h';have h2:=hr.2 k' p h';have hlt:=(List.getElem?_eq_some_iff.1 h2).1;rw [List.getElem?_append_left hlt]; exact h2
   ·rw [hkk] at h';have:=bx hkk;subst this;simp only [cond_true,aq] at h';subst h';rw [<- hk]; simp
  ·intro i j p q hi hj e;have hli:i<rs.length+1:=by have:=(List.getElem?_eq_some_iff.1 hi).1; simpa using this
   have hlj:j<rs.length+1:=by have:=(List.getElem?_eq_some_iff.1 hj).1; simpa using this
   rcases Nat.lt_or_ge i rs.length with h1|h1
   ·rw [List.getElem?_append_left h1] at hi;rcases Nat.lt_or_ge j rs.length with h2|h2
    ·rw [List.getElem?_append_left h2] at hj;exact hap i j p q hi hj e
    ·have e2:j=rs.length:=by omega
     subst e2;rw [List.getElem?_append_right (bt _)] at hj;simp at hj; subst hj;exact absurd e (hfr p (List.mem_of_getElem? hi))
   ·have e1:i=rs.length:=by omega
    subst e1;rw [List.getElem?_append_right (bt _)] at hi;simp at hi; subst hi;rcases Nat.lt_or_ge j rs.length with h2|h2
    ·rw [List.getElem?_append_left h2] at hj;exact absurd e.symm (hfr q (List.mem_of_getElem? hj))
    ·omega
  ·intro p hp;rcases List.mem_append.1 hp with hp|hp
   ·exact hbs p hp
   ·simp at hp; subst hp; exact hb
theorem xx {C:Cx}{id:Nat}{ops:Array Oper}{Q:Exit->AS->Prop}{sl:List (Nat×AV)}{ob:List (Nat×List AV)}(base:List (Nat×AV))(hm:C.P.follows .mixedOrders=true)(hb:de sl base)
  (hord:(ops.toList.zipIdx.all λ p=>p.1.after.toList.all λ e=>!(Region.binds .any e)||Nat.blt e.on p.2)=true) (h:DQ C ops base ob (Q .normal) ops.toList 0 []):awp C (.region id ops true) Q ⟨sl,ob⟩ :=
 zh base hm hb hord (A8 h Z ⟨Z,λ k p h=>by simp [nO] at h⟩ (λ i j p q h=>by simp at h) (λ p h=>by simp at h))
open Go
def WTs (R:Nat->List PV->Prop):List (Nat×Nat)->List PV->Prop|[],cs=>cs=[]|(_,t)::r,cs=>∃ a b,cs=a++b/\R t a/\WTs R r b
def mkE (isAgg:Bool)(cs:List PV):PV:=bif isAgg then .agg cs else cs.headD (.agg [])
def ec:Nat:=140737488351232
def WTf (tt:List (Nat×TI)):Nat->Nat->List PV->Prop
 | 0,_,_=>False
 | n+1,t,cs=>match look tt t with
  | some ⟨.bool,_,_,_⟩=>∃ b,cs=[.val (.bool b)]
  | some ⟨.int k,_,_,_⟩=>∃ m,cs=[.val (.int k m)]/\(Lit.int k m).wf=true
  | some ⟨.string,_,_,_⟩=>∃ l,cs=[.val (.string (str l))]/\l.length<=ec
  | some ⟨.slice e,_,_,_⟩=>∃ es,cs=[.slice es]/\(es.length<=maxLen/\es.length*(((look tt e).map (·.bytes)).getD 0)<=ec)/\∀ x∈es,WTf tt n e x.cells/\x=mkE (((look tt e).map (·.k.isAgg)).getD false) x.cells
  | some ⟨.struct fs,_,_,_⟩=>WTs (WTf tt n) fs cs
  | some ⟨.array k e,_,_,_⟩=>WTs (WTf tt n) (List.replicate k (0,e)) cs
  | _=>False
def rV (tt:List (Nat×TI)):Nat->List (Nat×Nat)->Bool|_,[]=>true|k,(o,t)::r=>Nat.beq o k&&rV tt (k+((look tt t).map (·.size)).getD 0) r
def iF (tt:List (Nat×TI))(l:List Nat)(t:Nat):Bool:=match look tt t with
 | some ⟨.bool,s,_,_⟩=>Nat.beq s 1
 | some ⟨.int _,s,_,_⟩=>Nat.beq s 1
 | some ⟨.string,s,_,_⟩=>Nat.beq s 1
 | some ⟨.slice e,s,_,_⟩=>Nat.beq s 1&&l.any (Nat.beq e)&&Nat.blt 0 (((look tt e).map (·.size)).getD 0)
 | some ⟨.struct fs,s,_,_⟩=>fs.all (λ f=>l.any (Nat.beq f.2))&&rV tt 0 fs&&Nat.beq s ((fs.map λ f=>((look tt f.2).map (·.size)).getD 0).foldl (·+·) 0)
 | some ⟨.array k e,s,_,_⟩=>l.any (Nat.beq e)&&Nat.beq s (k*((look tt e).map (·.size)).getD 0)
 | _=>false
theorem nI {u:TypeDesc}{n e:Nat}(h:kindOf u=.array n e):u=.array n e:=by cases u <;> simp [kindOf] at h; obtain ⟨rfl,rfl⟩:=h; rfl
section
variable {H:Type} {enc:TypeId×Value->H} {P:Program} {tt:List (Nat×TI)} {W:World}
theorem jj (good:cj P tt){t:Nat}{i:TI}(h:look tt t=some i):P.cellsOf t=i.size:=by
 have:=(good.at h).2;simp only [ld,Prod.mk.injEq] at this;obtain ⟨j,h1,h2,_⟩:=this;simp [Program.cellsOf,h1,h2]
theorem uq (good:cj P tt){t:Nat}{i:TI}(h:look tt t=some i):P.bytesOf t=i.bytes:=by
 have:=(good.at h).2;simp only [ld,Prod.mk.injEq] at this;obtain ⟨j,h1,h2,h3,_⟩:=this;simp [Program.bytesOf,h1,h3]
theorem jd {e:TypeId}{w:Nat}:∀ {ds:List (DataW H)} {d:DataW H},d∈ds->w∈d.weights P e->w∈DataW.weightsAll P e ds
 | x::r,d,hd,hw=>by
  unfold DataW.weightsAll;rcases ro.1 hd with rfl|hd
  ·exact List.mem_append_left _ hw
  ·exact List.mem_append_right _ (jd hd hw)
theorem iG {w:Nat}:∀ {ts:List TypeId} {ds:List (DataW H)} {i:Nat} {t:TypeId} {d:DataW H},ts[i]? = some t->ds[i]? = some d->w∈d.weights P t->w∈DataW.weightsEach P ts ds
 | t0::ts,d0::ds,0,t,d,ht,hd,hw=>by
  simp only [List.getElem?_cons_zero,aq] at ht hd;subst ht hd;unfold DataW.weightsEach;exact List.mem_append_left _ hw
 | t0::ts,d0::ds,i+1,t,d,ht,hd,hw=>by
  simp only [List.getElem?_cons_succ] at ht hd;unfold DataW.weightsEach;exact List.mem_append_right _ (iG ht hd hw)
 | [],_,i,_,_,ht,_,_=>by simp at ht
 | _::_,[],i,_,_,_,hd,_=>by simp at hd
def stW (W:World):Nat->Nat->Prop:=λ b _=>b<W.heap.size
theorem mw {a:Addr}{n m:Nat}{cs:List Value}(h:W.cells? 0 (a.add m) n=some cs):cs.length=n/\∀ j v,cs[j]? = some v->W.cell? ⟨a.block,a.off+m+j,none⟩=some v/\a.block<W.heap.size:=by
 unfold World.cells? at h;rw [if_pos (Nat.zero_le _)] at h;have CE:=mapM_some_length h;refine ⟨by simpa using CE,λ j v hv=>?_⟩;have hj:j<n:=by have:=(List.getElem?_eq_some_iff.1 hv).1; simp at CE; omega
 have h2:=mapM_some_get h j j (List.getElem?_range hj);rw [hv] at h2
 have key:∀ b:Addr,W.cell? b=some v->b=⟨b.block,b.off,none⟩/\b.block<W.heap.size:=by
  intro b hb;unfold World.cell? at hb;split at hb
  ·rename_i c _ _ hc;split at hb
   ·cases hb
   ·rename_i hs;refine ⟨?_,(Array.getElem?_eq_some_iff.1 hc).1⟩
    cases b with
    | mk bl o s=>
     cases s with
     | none=>rfl
     | some x=>simp at hs
  ·cases hb
 obtain ⟨k1,k2⟩:=key _ h2
 have eb:((a.add m).add j).block=a.block:=by
  unfold Addr.add;split <;> split <;> rfl
 have eo:((a.add m).add j).off=a.off+m+j:=by
  unfold Addr.add;by_cases q1:m=0 <;> by_cases q2:j=0 <;> simp only [q1,q2,if_true,if_false] <;> omega
 rw [eb,eo] at k1;rw [k1] at h2;exact ⟨h2,by rw [<- eb]; exact k2⟩
theorem tD (good:cj P tt){l:List Nat}{e:Nat}(_hp:iF tt l e=true){n:Nat}{cs:List PV}(h:WTf tt n e cs):(mkE (((look tt e).map (·.k.isAgg)).getD false) cs).cells=cs:=by
 cases n with
 | zero=>exact h.elim
 | succ n=>
  simp only [WTf] at h;split at h
  ·rename_i hl; obtain ⟨b,rfl⟩:=h; rw [hl]; rfl
  ·rename_i hl; obtain ⟨m,rfl,_⟩:=h; rw [hl]; rfl
  ·rename_i hl; obtain ⟨m,rfl,_⟩:=h; rw [hl]; rfl
  ·rename_i hl; obtain ⟨m,rfl,_⟩:=h; rw [hl]; rfl
  ·rename_i hl; rw [hl]; rfl
  ·rename_i hl; rw [hl]; rfl
  ·exact h.elim
theorem vr (good:cj P tt){l:List Nat}(hp:l.all (iF tt l)=true):∀ (n t:Nat) (cs:List Value) (x:DataW H×List MemPlace),t∈l->DataW.trod enc P W 0 (λ _=>true) true n t cs=some x->(∀ w∈x.1.weights P t,w<=ec) ->
  ∃ ps:List PV,ps.length=cs.length/\(∀ (i:Nat) p v,ps[i]? = some p->cs[i]? = some v->PRep W (stW W) p v/\p.one=true)/\WTf tt n t ps:=by
 intro n
 induction n with
 | zero=>intro t cs x _ h _; simp [DataW.trod] at h
 | succ n ih=>
  intro t cs x ht h hwt0;have hpt:=qr.1 hp t ht;have hpt':=hpt;unfold iF at hpt
  have one:∀ {p:PV} {v:Value},PRep W (stW W) p v->p.one=true->∀ (i:Nat) p' v',[p][i]? = some p'->[v][i]? = some v'->PRep W (stW W) p' v'/\p'.one=true:=by
   intro p v h1 h2 i p' v' h3 h4
   cases i with
   | zero=>simp at h3 h4; subst h3 h4; exact ⟨h1,h2⟩
   | succ i=>simp at h3
  split at hpt
  ·rename_i s b z hl;obtain ⟨u,h1,h2⟩:=bc good hl;have h3:=lk h2; subst h3;obtain ⟨b,rfl,rfl⟩:=DataW.trod_bool h1 h;exact ⟨[.val (.bool b)],rfl,one (.val _) rfl,by simp only [WTf,hl]; exact ⟨b,rfl⟩⟩
  ·rename_i k s b z hl;obtain ⟨u,h1,h2⟩:=bc good hl;have h3:=iW h2; subst h3;obtain ⟨m,rfl,rfl,hw⟩:=DataW.trod_int h1 h;exact ⟨[.val (.int k m)],rfl,one (.val _) rfl,by simp only [WTf,hl]; exact ⟨m,rfl,hw⟩⟩
  ·rename_i s b z hl;obtain ⟨u,h1,h2⟩:=bc good hl;have h3:=fx h2; subst h3;obtain ⟨a,rfl,rfl,hw⟩:=DataW.trod_string h1 h;refine ⟨[.val (.string (str a.data.toList))],rfl,one (yj a) rfl,?_⟩;simp only [WTf,hl];refine ⟨a.data.toList,rfl,?_⟩;exact hwt0 _ (by simp [DataW.weights])
  ·rename_i e s b z hl;obtain ⟨u,h1,h2⟩:=bc good hl;have h3:=aV h2; subst h3;simp only [n7] at hpt;obtain ⟨⟨_,he⟩,hsz0⟩:=hpt
   have hel:e∈l:=by
    obtain ⟨y,hy,hye⟩:=List.any_eq_true.1 he;rw [bx hye]; exact hy
   have hpe:=qr.1 hp e hel;rcases DataW.trod_slice h1 h with ⟨rfl,rfl⟩|⟨a,len,cap,elems,rest,m,hm,rfl,rfl,hb,hlc,hcm,CE,hget,hsp,_⟩
   ·exact ⟨[.slice []],Z,one .nils Z,by simp only [WTf,hl]; exact ⟨[],Z,⟨Nat.zero_le _,by simp⟩,by simp⟩⟩
   ·obtain rfl:n=m:=by omega
    -- each element
    have each:∀ i,i<len->∃ cs' ps,W.cells? 0 (a.add (i*P.cellsOf e)) (P.cellsOf e)=some cs'/\ps.length=cs'.length/\(∀ (j:Nat) p v,ps[j]? = some p->cs'[j]? = some v->PRep W (stW W) p v/\p.one=true)/\WTf tt n e ps:=by
     intro i hi;have h4:=hget i hi;rw [List.getElem?_eq_getElem O] at h4;obtain ⟨cs',h5,h6⟩:=Option.bind_eq_some_iff.1 h4
     obtain ⟨ps,h7,h8,h9⟩:=ih e cs' _ hel h6 (λ w hw=>hwt0 w (by
      simp only [DataW.weights,h1]
      exact List.mem_cons_of_mem _ (List.mem_append_left _ (jd (List.mem_map_of_mem (List.getElem_mem _)) hw))))
     exact ⟨cs',ps,h5,h7,h8,h9⟩
    have each':∃ f:Nat->List Value×List PV,∀ i,i<len->W.cells? 0 (a.add (i*P.cellsOf e)) (P.cellsOf e)=some (f i).1/\(f i).2.length=(f i).1.length/\(∀ (j:Nat) p v,(f i).2[j]? = some p->(f i).1[j]? = some v->PRep W (stW W) p v/\p.one=true)/\WTf tt n e (f i).2:=by
     refine ⟨λ i=>if hi:i<len then (Classical.choose (each i hi),Classical.choose (Classical.choose_spec (each i hi))) else ([],[]),λ i hi=>?_⟩;simp only [dif_pos hi];exact Classical.choose_spec (Classical.choose_spec (each i hi))
    obtain ⟨f,hf⟩:=each'
    obtain ⟨ie,hie⟩:∃ ie,look tt e=some ie:=by
     cases hq:look tt e with
     | none=>unfold iF at hpe; rw [hq] at hpe; simp at hpe
     | some ie=>exact ⟨ie,Z⟩
    have CP:=jj good hie;have hszpos:0<ie.size:=by simpa [hie] using hsz0
    let es:List PV:=(List.range len).map λ i=>mkE (((look tt e).map (·.k.isAgg)).getD false) (f i).2
    have hesl:es.length=len:=by simp [es]
    have hesg:∀ (i:Nat) y,es[i]? = some y->i<len/\y.cells=(f i).2/\y=mkE (((look tt e).map (·.k.isAgg)).getD false) (f i).2:=by
     intro i y hy;simp only [es,List.getElem?_map,ld] at hy;obtain ⟨j,hj,rfl⟩:=hy;have hi:i<len:=by have:=(List.getElem?_eq_some_iff.1 hj).1; simpa using this
     rw [List.getElem?_range hi] at hj; cases hj;exact ⟨hi,tD good hpe (hf i hi).2.2.2,rfl⟩
    have hmem:∀ y∈es,∃ i,i<len/\y.cells=(f i).2/\y=mkE (((look tt e).map (·.k.isAgg)).getD false) (f i).2:=by
     intro y hy;obtain ⟨i,hi⟩:=List.mem_iff_getElem?.1 hy;exact ⟨i,hesg i y hi⟩
    have hfl:∀ i,i<len->(f i).2.length=ie.size:=by
     intro i hi;obtain ⟨g1,g2,_,_⟩:=hf i hi;rw [CP] at g1;rw [g2]; exact (mw g1).1
    have hwt:WTf tt (n+1) t [PV.slice es]:=by
     simp only [WTf,hl]
     have hw0:=hwt0 ((elems.length+rest.length)*P.bytesOf e) (by
      simp only [DataW.weights,h1,n6]
      exact List.mem_cons_self ..)
     rw [uq good hie] at hw0;refine ⟨es,rfl,⟨by rw [hesl]; omega,?_⟩,λ y hy=>?_⟩
     ·rw [hesl,hie];exact Nat.le_trans (Nat.mul_le_mul_right _ O) hw0
     obtain ⟨i,hi,h5,h6⟩:=hmem y hy;rw [h5];exact ⟨(hf i hi).2.2.2,h6⟩
    refine ⟨[.slice es],Z,one ?_ Z,hwt⟩;rw [<- hesl];by_cases hc0:cap=0
    ·have:es=[]:=List.eq_nil_of_length_eq_zero O;rw [this,hc0]; exact .nile a
    · -- some cell is read,so the address is one of a cell
     have hspot:a=⟨a.block,a.off,none⟩:=by
      by_cases hl0:0<len
      ·obtain ⟨g1,g2,_,_⟩:=hf 0 hl0;rw [CP,Nat.zero_mul] at g1;obtain ⟨k1,k2⟩:=mw g1;unfold World.cells? at g1;rw [if_pos (Nat.zero_le _)] at g1;have h2:=mapM_some_get g1 0 0 (List.getElem?_range hszpos);simp only [Addr.add,if_true] at h2;rw [List.getElem?_eq_getElem O] at h2;unfold World.cell? at h2;split at h2
       ·split at h2
        ·cases h2
        ·rename_i hs
         cases a with
         | mk bl o s=>
          cases s with
          | none=>rfl
          | some x=>simp at hs
       ·cases h2
      ·obtain rfl:len=0:=by omega
       obtain ⟨hr1,hr2⟩:=hsp rfl;have h4:=hr2 0 O;rw [List.getElem?_eq_getElem O] at h4;obtain ⟨cs',g1,_⟩:=Option.bind_eq_some_iff.1 h4;rw [CP,rd,Nat.zero_mul] at g1;have k1:=(mw g1).1;unfold World.cells? at g1;rw [if_pos (Nat.zero_le _)] at g1;have h2:=mapM_some_get g1 0 0 (List.getElem?_range hszpos);simp only [Addr.add,if_true] at h2;rw [List.getElem?_eq_getElem O] at h2;unfold World.cell? at h2;split at h2
       ·split at h2
        ·cases h2
        ·rename_i hs
         cases a with
         | mk bl o s=>
          cases s with
          | none=>rfl
          | some x=>simp at hs
       ·cases h2
     rw [hspot];refine .slice ie.size (λ i j=>((f i).1[j]?).getD .nilFunc) (by rw [hesl]; omega) (λ y hy=>?_) (λ y hy c hc=>?_) (λ i y j c hy hc=>?_) (λ i y j c hy hc=>?_)
     ·obtain ⟨i,hi,h5,_⟩:=hmem y hy;rw [h5]; exact hfl i hi
     ·obtain ⟨i,hi,h5,_⟩:=hmem y hy;rw [h5] at hc;obtain ⟨j,hj⟩:=List.mem_iff_getElem?.1 hc;obtain ⟨g1,g2,g3,_⟩:=hf i hi;have hjl:j<(f i).1.length:=by have:=(List.getElem?_eq_some_iff.1 hj).1; omega
      exact (g3 j c _ hj (List.getElem?_eq_getElem hjl)).2
     ·obtain ⟨hi,h5,_⟩:=hesg i y hy;rw [h5] at hc;obtain ⟨g1,g2,g3,_⟩:=hf i hi;rw [CP] at g1;have hjl:j<(f i).1.length:=by have:=(List.getElem?_eq_some_iff.1 hc).1; omega
      have:=(mw g1).2 j _ (List.getElem?_eq_getElem hjl);rw [List.getElem?_eq_getElem hjl];exact ⟨this.2,this.1⟩
     ·obtain ⟨hi,h5,_⟩:=hesg i y hy;rw [h5] at hc;obtain ⟨g1,g2,g3,_⟩:=hf i hi;have hjl:j<(f i).1.length:=by have:=(List.getElem?_eq_some_iff.1 hc).1; omega
      rw [List.getElem?_eq_getElem hjl];exact (g3 j c _ hc (List.getElem?_eq_getElem hjl)).1
  ·rename_i fs s b z hl;obtain ⟨u,h1,h2⟩:=bc good hl;obtain ⟨F,rfl,hF⟩:=eu h2;obtain ⟨xs,m,hm,rfl,hcl,hxs,hfld⟩:=DataW.trod_struct h1 h;obtain rfl:n=m:=by omega
   simp only [n7] at hpt;obtain ⟨⟨hall,htile⟩,hsum⟩:=hpt;have CP:=jj good hl;rw [CP] at hcl;have hcl:cs.length=s:=hcl;have hs:=bx hsum
   -- field by field
   have go:∀ (gs:List Field) (k:Nat),(∀ f∈gs,f.type∈l/\∃ y,DataW.trod enc P W 0 (λ _=>true) true n f.type ((cs.drop f.offset).take (P.cellsOf f.type))=some y/\∀ w∈y.1.weights P f.type,w<=ec)->rV tt k (gs.map λ f=>(f.offset,f.type))=true ->
     k+((gs.map λ f=>((look tt f.type).map (·.size)).getD 0).foldl (·+·) 0)=cs.length ->
     ∃ ps:List PV,ps.length=(cs.drop k).length/\(∀ (i:Nat) p v,ps[i]? = some p->(cs.drop k)[i]? = some v->PRep W (stW W) p v/\p.one=true)/\WTs (WTf tt n) (gs.map λ f=>(f.offset,f.type)) ps:=by
    intro gs
    induction gs with
    | nil=>
     intro k _ _ hk;simp at hk;refine ⟨[],?_,by simp,rfl⟩;simp; omega
    | cons f gs ihg=>
     intro k hfs htl hk;simp only [cl,rV,n7] at htl;obtain ⟨ho,htl⟩:=htl;have ho:=bx ho;obtain ⟨hfl,y,hy,hyw⟩:=hfs f G;obtain ⟨ps1,p1,p2,p3⟩:=ih f.type _ y hfl hy hyw
     obtain ⟨fi,hfi⟩:∃ fi,look tt f.type=some fi:=by
      have hpe:=qr.1 hp f.type hfl
      cases hq:look tt f.type with
      | none=>unfold iF at hpe; rw [hq] at hpe; simp at hpe
      | some ie=>exact ⟨ie,Z⟩
     have hfc:=jj good hfi;have CC:((look tt f.type).map (·.size)).getD 0=fi.size:=by rw [hfi]; rfl
     have fold_add:∀ (q:List Nat) (a:Nat),q.foldl (·+·) a=a+q.foldl (·+·) 0:=by
      intro q
      induction q with
      | nil=>intro a; simp
      | cons x q ihq=>intro a; simp only [List.foldl_cons]; rw [ihq,ihq (0+x)]; omega
     simp only [cl,List.foldl_cons] at hk;rw [fold_add] at hk;rw [CC] at hk htl;obtain ⟨ps2,q1,q2,q3⟩:=ihg (k+fi.size) (λ g hg=>hfs g (by simp [hg])) htl O;rw [ho,hfc] at p1 p2;have hl1:ps1.length=fi.size:=by rw [p1]; simp; omega
     refine ⟨ps1++ps2,?_,λ i p v hp' hv=>?_,ps1,ps2,Z,p3,q3⟩
     ·simp only [n8,List.length_drop] at q1 ⊢; omega
     ·rcases Nat.lt_or_ge i fi.size with hi|hi
      ·rw [List.getElem?_append_left O] at hp';refine p2 i p v hp' ?_;rw [List.getElem?_take_of_lt hi]; exact hv
      ·rw [List.getElem?_append_right O] at hp';refine q2 (i-ps1.length) p v hp' ?_;rw [List.getElem?_drop] at hv ⊢;rw [<- hv]; congr 1; omega
   have hFl:F.toList.map (λ f=>(f.offset,f.type))=fs:=hF
   have hz:(F.toList.map λ f=>((look tt f.type).map (·.size)).getD 0)=fs.map λ f=>((look tt f.2).map (·.size)).getD 0:=by
    rw [<- hFl,List.map_map]; rfl
   obtain ⟨ps,r1,r2,r3⟩:=go F.toList 0 (λ f hf=>by
    obtain ⟨i,hi⟩:=List.mem_iff_getElem?.1 hf;have hi':F[i]? = some f:=by simpa using hi
    have h5:=hfld i f hi';have hil:i<xs.length:=by rw [hxs]; exact (Array.getElem?_eq_some_iff.1 hi').1
    rw [List.getElem?_eq_getElem hil] at h5
    refine ⟨?_,_,h5,λ w hw=>hwt0 w (by
     simp only [DataW.weights,h1]
     exact iG (i:=i) (by simpa using ⟨f,hi',Z⟩) (by rw [List.getElem?_map,List.getElem?_eq_getElem hil]; rfl) hw)⟩
    have h6:=qr.1 hall (f.offset,f.type) (by rw [<- hFl]; exact List.mem_map.2 ⟨f,hf,rfl⟩);obtain ⟨y,hy,hye⟩:=List.any_eq_true.1 h6
    rw [show f.type=y from bx hye]; exact hy) (by rw [hFl]; exact htile) (by rw [hz,<- hs]; omega)
   refine ⟨ps,by simpa using r1,by simpa using r2,?_⟩;simp only [WTf,hl];rw [<- hFl]; exact r3
  ·rename_i k e s b z hl;obtain ⟨u,h1,h2⟩:=bc good hl;have h3:=nI h2; subst h3;obtain ⟨xs,m,hm,rfl,hcl,hxs,hel⟩:=DataW.trod_array h1 h;obtain rfl:n=m:=by omega
   simp only [n7] at hpt;obtain ⟨hany,hsum⟩:=hpt
   have hin:e∈l:=by
    obtain ⟨y,hy,hye⟩:=List.any_eq_true.1 hany;rw [show e=y from bx hye]; exact hy
   have CP:=jj good hl;rw [CP] at hcl;have hcl:cs.length=s:=hcl;have hs:=bx hsum
   obtain ⟨ie,hie⟩:∃ ie,look tt e=some ie:=by
    have hpe:=qr.1 hp e hin
    cases hq:look tt e with
    | none=>unfold iF at hpe; rw [hq] at hpe; simp at hpe
    | some ie=>exact ⟨ie,Z⟩
   have hec:=jj good hie;have CC:((look tt e).map (·.size)).getD 0=ie.size:=by rw [hie]; rfl
   rw [CC] at hs;rw [hec] at hel
   have go:∀ (r j:Nat),j+r=k->∃ ps:List PV,ps.length=(cs.drop (j*ie.size)).length/\(∀ (i:Nat) p v,ps[i]? = some p->(cs.drop (j*ie.size))[i]? = some v->PRep W (stW W) p v/\p.one=true)/\WTs (WTf tt n) (List.replicate r (0,e)) ps:=by
    intro r
    induction r with
    | zero=>
     intro j hj;have hjk:j=k:=by omega
     refine ⟨[],?_,by simp,Z⟩;rw [hjk,List.length_drop]; simp; omega
    | succ r ihr=>
     intro j hj;have hjk:j<k:=by omega
     have h5:=hel j hjk;rw [List.getElem?_eq_getElem O] at h5
     obtain ⟨ps1,p1,p2,p3⟩:=ih e _ _ hin h5 (λ w hw=>hwt0 w (by
      simp only [DataW.weights,h1]
      exact jd (List.mem_map_of_mem (List.getElem_mem _)) hw))
     obtain ⟨ps2,q1,q2,q3⟩:=ihr (j+1) O;have hmul:(j+1)*ie.size=j*ie.size+ie.size:=Nat.succ_mul ..;have hle:(j+1)*ie.size<=k*ie.size:=Nat.mul_le_mul_right _ hjk;have hl1:ps1.length=ie.size:=by rw [p1,sm,List.length_drop]; omega
     rw [hmul] at q1 q2;refine ⟨ps1++ps2,?_,λ i p v hp' hv=>?_,ps1,ps2,rfl,p3,q3⟩
     ·simp only [n8,List.length_drop] at q1 ⊢; omega
     ·rcases Nat.lt_or_ge i ie.size with hi|hi
      ·rw [List.getElem?_append_left O] at hp';refine p2 i p v hp' ?_;rw [List.getElem?_take_of_lt hi]; exact hv
      ·rw [List.getElem?_append_right O] at hp';refine q2 (i-ps1.length) p v hp' ?_;rw [List.getElem?_drop] at hv ⊢;rw [<- hv]; congr 1; omega
   obtain ⟨ps,r1,r2,r3⟩:=go k 0 O;refine ⟨ps,by simpa using r1,by simpa using r2,?_⟩;simp only [WTf,hl];exact r3
  ·cases hpt
def WTv (tt:List (Nat×TI))(t:Nat)(p:PV):Prop:=∃ n,WTf tt n t p.cells/\p=mkE (((look tt t).map (·.k.isAgg)).getD false) p.cells
def WTa (tt:List (Nat×TI)):List Nat->List PV->Prop|[],[]=>True|t::ts,p::ps=>WTv tt t p/\WTa tt ts ps|_,_=>False
theorem yi (good:cj P tt){l:List Nat}(hp:l.all (iF tt l)=true){t base:Nat}(ht:t∈l){v:Value}{d:DataW H}{ps:List MemPlace}(hv:Value.okWide P W .any base t v)(h:DataW.Trod enc P W 0 (λ _=>true) true t v d ps)(hw:∀ w∈d.weights P t,w<=ec) :
  ∃ p,PRep W (stW W) p v/\WTv tt t p:=by
 obtain ⟨n,hn⟩:=h;obtain ⟨qs,h1,h2,h3⟩:=vr good hp n t _ _ ht hn hw;have hpt:=qr.1 hp t ht;have CJ:=tD good hpt h3;refine ⟨mkE (((look tt t).map (·.k.isAgg)).getD false) qs,?_,n,by rw [CJ]; exact h3,by rw [CJ]⟩
 have single:((look tt t).map (·.k.isAgg)).getD false=false->v.cells=#[v]->qs.length=1->PRep W (stW W) (mkE (((look tt t).map (·.k.isAgg)).getD false) qs) v:=by
  intro h4 h5 h6;rw [h4];obtain ⟨q,rfl⟩:=List.length_eq_one_iff.1 h6;exact (h2 0 q v rfl (by rw [h5]; rfl)).1
 unfold iF at hpt;split at hpt
 ·rename_i s b z hl;obtain ⟨u,k1,k2⟩:=bc good hl;have k3:=lk k2; subst k3;simp only [Value.okWide,k1,Cell.okWide] at hv
  cases v <;> simp [Cell.ok,k1] at hv
  exact single (by rw [hl]; rfl) Z (by rw [h1]; rfl)
 ·rename_i k s b z hl;obtain ⟨u,k1,k2⟩:=bc good hl;have k3:=iW k2; subst k3;simp only [Value.okWide,k1,Cell.okWide] at hv
  cases v <;> simp [Cell.ok,k1] at hv
  exact single (by rw [hl]; rfl) Z (by rw [h1]; rfl)
 ·rename_i s b z hl;obtain ⟨u,k1,k2⟩:=bc good hl;have k3:=fx k2; subst k3;simp only [Value.okWide,k1,Cell.okWide] at hv
  cases v <;> simp [Cell.ok,k1] at hv
  exact single (by rw [hl]; rfl) Z (by rw [h1]; rfl)
 ·rename_i e s b z hl;obtain ⟨u,k1,k2⟩:=bc good hl;have k3:=aV k2; subst k3;simp only [Value.okWide,k1,Cell.okWide] at hv
  cases v <;> simp [Cell.ok,k1] at hv
  all_goals exact single (by rw [hl]; rfl) Z (by rw [h1]; rfl)
 ·rename_i fs s b z hl;obtain ⟨u,k1,k2⟩:=bc good hl;obtain ⟨F,rfl,_⟩:=eu k2;simp only [Value.okWide,k1] at hv;obtain ⟨vs,rfl,_⟩:=hv;rw [hl];exact .agg (by simpa [Value.cells] using h1.symm) λ i c v hc hv=>(h2 i c v hc (by simpa [Value.cells] using hv)).1
 ·rename_i k e s b z hl;obtain ⟨u,k1,k2⟩:=bc good hl;have k3:=nI k2; subst k3;simp only [Value.okWide,k1] at hv;obtain ⟨vs,rfl,_⟩:=hv;rw [hl];exact .agg (by simpa [Value.cells] using h1.symm) λ i c v hc hv=>(h2 i c v hc (by simpa [Value.cells] using hv)).1
 ·cases hpt
theorem lr {base:Nat}(good:cj P tt){l:List Nat}(hp:l.all (iF tt l)=true):∀ {ts:List Nat} {vs:List Value} {ds:List (DataW H)} {ps:List MemPlace},(∀ t∈ts,t∈l)->(∀ (j:Nat) t v,ts[j]? = some t->vs[j]? = some v->Value.okWide P W .any base t v) ->
  DataW.TrodAll enc P W 0 (λ _=>true) true ts vs ds ps->(∀ w∈DataW.weightsEach P ts ds,w<=ec)->∃ qs,qs.length=vs.length/\(∀ (i:Nat) c v,qs[i]? = some c->vs[i]? = some v->PRep W (stW W) c v)/\WTa tt ts qs
 | [],[],[],_,_,_,_,_=>⟨[],Z,by simp,trivial⟩
 | t::ts,v::vs,d::ds,ps,hts,hok,⟨p,q,h1,h2,_⟩,hw=>by
  obtain ⟨c,k1,k2⟩:=yi good hp (hts t G) (hok 0 t v Z Z) h1 (λ w hw0=>hw w (iG (i:=0) Z Z hw0));obtain ⟨qs,m1,m2,m3⟩:=lr good hp (λ t ht=>hts t (by simp [ht])) (λ j t v hj hv=>hok (j+1) t v hj hv) h2 (λ w hw0=>hw w (by unfold DataW.weightsEach; exact List.mem_append_right _ hw0));refine ⟨c::qs,by simp [m1],λ i c' v' hc hv=>?_,k2,m3⟩
  cases i with
  | zero=>simp at hc hv; subst hc hv; exact k1
  | succ i=>simp only [List.getElem?_cons_succ] at hc hv; exact m2 i c' v' hc hv
 | [],_::_,_,_,_,_,h,_=>h.elim
 | [],[],_::_,_,_,_,h,_=>h.elim
 | _::_,[],_,_,_,_,h,_=>h.elim
 | _::_,_::_,[],_,_,_,h,_=>h.elim
theorem uJ {W':World}(hg:Kept W W'){p:MemPlace}(hp:p.block<W.heap.size):W.sameAt W' p:=by
 cases p with
 | cell b o=>
  simp only [MemPlace.block] at hp;simp only [World.sameAt,World.cell?,hg.block b hp]
 | map b=>exact hg.block b hp
theorem po {W':World}(hg:Kept W W'):∀ {ts:List Nat} {vs:List Value} {ds:List (DataW H)} {ps:List MemPlace},(∀ p∈ps,p.block<W.heap.size)->DataW.TrodAll enc P W 0 (λ _=>true) true ts vs ds ps->DataW.TrodAll enc P W' 0 (λ _=>true) true ts vs ds ps
 | [],[],[],_,_,h=>h
 | _::_,_::_,_::_,_,hlt,⟨p,q,⟨n,h1⟩,h2,e⟩=>
  ⟨p,q,⟨n,DataW.trod_carry n _ _ _ h1 (λ x hx=>uJ hg (hlt x (by rw [e]; exact List.mem_append_left _ hx)))⟩,po hg (λ x hx=>hlt x (by rw [e]; exact List.mem_append_right _ hx)) h2,e⟩
 | [],_::_,_,_,_,h=>h.elim
 | [],[],_::_,_,_,h=>h.elim
 | _::_,[],_,_,_,h=>h.elim
 | _::_,_::_,[],_,_,h=>h.elim
theorem ny (hl:laidOutB P=true)(hm:mapsRowed P=true)(hz:((List.range P.types.size).all λ t=>match P.underlying t with|some (.slice e)=>decide (0<P.cellsOf e)|_=>true)=true)
  {W':World} (hg:Kept W W') {ts:List Nat} {vs:List Value} {ds:List (DataW H)} {ps:List MemPlace} (hts:(ts.all λ t=>decide (t<P.types.size))=true) (hlt:∀ p∈ps,p.block<W.heap.size)
  (h:DataW.TrodAll enc P W 0 (λ _=>true) true ts vs ds ps) (sp:Nat->Bool) (hsp:∀ p∈ps,sp p.block=true):DataW.TrodAll enc P W' 0 sp true ts vs ds ps :=
 DataW.TrodAll.respare (kids_rows hl hm) (slices_full_of P hz) (λ t ht=>by simpa using qr.1 hts t ht) (po hg hlt h) hsp
end
open Go.ChangeShapes Go.WideShapes in
theorem np {H:Type}{enc:TypeId×Value->H}{P:Program}{f:Func}{s:ChangeSpec}{apart fresh handsOn again:Bool}{W W':World}{args:Array Value}{v:Value}{ds gs:List (DataW H)}{before pa pv:List MemPlace}
  (hW:DataW.Whole enc P f.params.toList s.vars apart W args.toList ds gs before)
  (hres:∀ (b:Nat) (sp:Nat->Bool) (hd:Bool),DataW.TrodAll enc P W' b sp hd f.resultTypes.toList (v.resultList f.resultTypes.size) (s.fn H (ds++gs)).results [])
  (hargs:∀ sp:Nat->Bool,(∀ p∈before,sp p.block=true)->DataW.TrodAll enc P W' 0 sp true f.params.toList args.toList (s.fn H (ds++gs)).args pa)
  (hvars:∀ sp:Nat->Bool,(∀ p∈before,sp p.block=true)->DataW.TrodVars enc P W' sp s.vars (s.fn H (ds++gs)).vars pv)
  (hps:before=pa++pv) (hk:Kept W W')
  (hok:∀ (j:Nat) (t:TypeId) (r:Value),f.resultTypes[j]? = some t->(v.resultList f.resultTypes.size)[j]? = some r->Value.okWide P W' .any 0 t r) :
  s.post enc P f apart fresh handsOn again W args v W':=by
 have hold:∀ p∈before,(λ b=>decide (b<W.heap.size)) p.block=true:=λ p hp=>by simpa using hW.lt p hp
 have hlt:∀ p∈before,p.block<W.heap.size:=λ p hp=>hW.lt p hp;refine ⟨ds,gs,before,[],pa,pv,hW,hres _ _ _,hargs _ hold,hvars _ hold,hk.frame _,λ _=>?_⟩;obtain ⟨_,_,_,_,_,hz,hn⟩:=hW;refine ⟨hok,_,_,([]++pa)++pv,⟨[]++pa,pv,trodAll_append (hargs _ (λ _ _=>rfl)) (hres _ _ _),hvars _ (λ _ _=>rfl),rfl,?_,?_⟩,?_⟩
 ·intro b off hp;have hp':MemPlace.cell b off∈before:=by rw [hps]; simpa using hp
  rw [hk.frozen ⟨b,off,none⟩ (hlt _ hp')];exact hz b off hp'
 ·intro ha;have:=hn ha;rw [hps] at this;simpa using this
 ·intro p hp _;rw [hps];simpa using hp
section
variable {tt:List (Nat×TI)} {n t:Nat} {cs:List PV} {s b:Nat} {z:List Value}
theorem yn (hl:look tt t=some ⟨.bool,s,b,z⟩)(h:WTf tt n t cs):∃ x,cs=[eB x]:=by
 cases n with
 | zero=>exact h.elim
 | succ n=>simp only [WTf,hl] at h; exact h
theorem AW {k:IntKind}(hl:look tt t=some ⟨.int k,s,b,z⟩)(h:WTf tt n t cs):∃ x,cs=[eK k x]/\(Lit.int k x).wf=true:=by
 cases n with
 | zero=>exact h.elim
 | succ n=>simp only [WTf,hl] at h; exact h
theorem wf_i64 {x:Int}(h:(Lit.int .i64 x).wf=true):inR x:=by
 simp [Lit.wf,IntKind.min,IntKind.max,IntKind.bits,IntKind.signed] at h;exact ⟨by omega,by omega⟩
theorem ry (hl:look tt t=some ⟨.int .i64,s,b,z⟩)(h:WTf tt n t cs):∃ x,cs=[eI x]/\inR x:=by
 obtain ⟨x,h1,h2⟩:=AW hl h;exact ⟨x,h1,wf_i64 h2⟩
theorem ou (hl:look tt t=some ⟨.string,s,b,z⟩)(h:WTf tt n t cs):∃ x,cs=[eS x]/\x.length<=ec:=by
 cases n with
 | zero=>exact h.elim
 | succ n=>simp only [WTf,hl] at h; exact h
theorem xS {α:Type}(f:α->PV)(Q:α->Prop){e:Nat}(hl:look tt t=some ⟨.slice e,s,b,z⟩)(h:WTf tt (n+1) t cs)
  (he:∀ x,WTf tt n e x.cells->x=mkE (((look tt e).map (·.k.isAgg)).getD false) x.cells->∃ y,x=f y/\Q y):∃ l:List α,cs=[eL f l]/\(l.length<=maxLen/\l.length*(((look tt e).map (·.bytes)).getD 0)<=ec)/\∀ y∈l,Q y:=by
 simp only [WTf,hl] at h;obtain ⟨es,rfl,h2,h3⟩:=h
 have key:∀ es:List PV,(∀ x∈es,∃ y,x=f y/\Q y)->∃ l:List α,es=l.map f/\∀ y∈l,Q y:=by
  intro es
  induction es with
  | nil=>intro _; exact ⟨[],rfl,by simp⟩
  | cons x r ih=>
   intro h;obtain ⟨y,h1,h2⟩:=h x G;obtain ⟨l,h3,h4⟩:=ih λ z hz=>h z (by simp [hz]);refine ⟨y::l,by simp [h1,h3],λ z hz=>?_⟩;rcases ro.1 hz with rfl|hz
   ·exact h2
   ·exact h4 z hz
 obtain ⟨l,rfl,h5⟩:=key es λ x hx=>he x (h3 x hx).1 (h3 x hx).2;exact ⟨l,rfl,by simpa using h2,h5⟩
theorem B7 {x c:PV}(h1:x.cells=[c])(h2:x=mkE false x.cells):x=c:=by rw [h1] at h2; exact h2
theorem yT {x:PV}{l:List PV}(h1:x.cells=l)(h2:x=mkE true x.cells):x=.agg l:=by rw [h1] at h2; exact h2
theorem im {R:Nat->List PV->Prop}{o u:Nat}{r:List (Nat×Nat)}(h:WTs R ((o,u)::r) cs):∃ a q,cs=a++q/\R u a/\WTs R r q:=h
theorem px {fs:List (Nat×Nat)}(hl:look tt t=some ⟨.struct fs,s,b,z⟩)(h:WTf tt (n+1) t cs):WTs (WTf tt n) fs cs:=by
 simp only [WTf,hl] at h; exact h
end
end Go.Ab
end
