/- Texts of the proof, one behind the other. No statement is proved here. -/
import GoSem.PinnedTables
import GoSem.Core.Value
import Derived.WalkKit
import Derived.Deep.AppendSrc
import Derived.Great.FillDense
import Derived.Great.BuildSlice
import Derived.Deep.Upon
import Derived.Lib.Bytealg
import Derived.Scope
import Derived.RowKit3
import Derived.WideLaws
namespace Go
theorem Y.{u,v} {α:Sort u}{β:α→Sort v}{f:(x:α)→β x}(x:α):f x=f x:=rfl
theorem Z.{u} {α:Sort u} {a:α}:a=a:=rfl
theorem O {p:Prop} (h:p:=by omega):p:=h
theorem V {p:Prop} (h:p:=by first | assumption | omega):p:=h
theorem G {p:Prop} (h:p:=by simp):p:=h
end Go
section
namespace Go.Ab
open Go
inductive GC where
 | int (k:IntKind) (n:Int)
 | ifc
 | some (k:IntKind)
def FS:List GC:=[.some .i64]
def CG:List GC:=Go.Pinned.utf8FirstZ.map λ (n:Nat)=>.int .u8 (n:Int)
def Cj:List GC:=[.int .u8 128,.int .u8 191,.int .u8 160,.int .u8 191,.int .u8 128,.int .u8 159,.int .u8 144,.int .u8 191,.int .u8 128,.int .u8 143,.int .u8 0,.int .u8 0,.int .u8 0,.int .u8 0,.int .u8 0,.int .u8 0,.int .u8 0,.int .u8 0,.int .u8 0,.int .u8 0,.int .u8 0,.int .u8 0,.int .u8 0,.int .u8 0,.int .u8 0,.int .u8 0,.int .u8 0,.int .u8 0,.int .u8 0,.int .u8 0,.int .u8 0,.int .u8 0]
def FW:List GC:=[.int .u64 1,.int .u64 10,.int .u64 100,.int .u64 1000,.int .u64 10000,.int .u64 100000,.int .u64 1000000,.int .u64 10000000,.int .u64 100000000,.int .u64 1000000000,.int .u64 10000000000,.int .u64 100000000000,.int .u64 1000000000000,.int .u64 10000000000000,.int .u64 100000000000000,.int .u64 1000000000000000,.int .u64 10000000000000000,.int .u64 100000000000000000,.int .u64 1000000000000000000,.int .u64 10000000000000000000]
def F5:List GC:=[.ifc]
def F0:List GC:=[.ifc]
def F4:List GC:=[.int .u8 0,.int .u8 1,.int .u8 28,.int .u8 2,.int .u8 29,.int .u8 14,.int .u8 24,.int .u8 3,.int .u8 30,.int .u8 22,.int .u8 20,.int .u8 15,.int .u8 25,.int .u8 17,.int .u8 4,.int .u8 8,.int .u8 31,.int .u8 27,.int .u8 13,.int .u8 23,.int .u8 21,.int .u8 19,.int .u8 16,.int .u8 7,.int .u8 26,.int .u8 12,.int .u8 18,.int .u8 6,.int .u8 11,.int .u8 5,.int .u8 10,.int .u8 9]
def FO:List GC:=[.int .u8 0,.int .u8 1,.int .u8 56,.int .u8 2,.int .u8 57,.int .u8 49,.int .u8 28,.int .u8 3,.int .u8 61,.int .u8 58,.int .u8 42,.int .u8 50,.int .u8 38,.int .u8 29,.int .u8 17,.int .u8 4,.int .u8 62,.int .u8 47,.int .u8 59,.int .u8 36,.int .u8 45,.int .u8 43,.int .u8 51,.int .u8 22,.int .u8 53,.int .u8 39,.int .u8 33,.int .u8 30,.int .u8 24,.int .u8 18,.int .u8 12,.int .u8 5,.int .u8 63,.int .u8 55,.int .u8 48,.int .u8 27,.int .u8 60,.int .u8 41,.int .u8 37,.int .u8 16,.int .u8 46,.int .u8 35,.int .u8 44,.int .u8 21,.int .u8 52,.int .u8 32,.int .u8 23,.int .u8 11,.int .u8 54,.int .u8 26,.int .u8 40,.int .u8 15,.int .u8 34,.int .u8 20,.int .u8 31,.int .u8 10,.int .u8 25,.int .u8 14,.int .u8 19,.int .u8 9,.int .u8 13,.int .u8 8,.int .u8 7,.int .u8 6]
def qz:List (Nat×List GC):=[(0,FS),(1,CG),(2,Cj),(3,FW),(4,F5),(5,F0),(6,F4),(7,FO)]
end Go.Ab
end
section
namespace Go.Ab
inductive PV where
 | val (v:Value)
 | agg (cs:List PV)
 | slice (es:List PV)
 | ifc
 | aint (k:IntKind)
def PV.cells:PV→List PV
 | .agg cs=>cs
 | .val v=>[.val v]
 | .slice es=>[.slice es]
 | .ifc=>[.ifc]
 | .aint k=>[.aint k]
def PV.one:PV→Bool
 | .val v=>v.oneCell'
 | .slice _=>true
 | .ifc=>true
 | .aint _=>true
 | .agg _=>false
structure Gh where
 st:Nat→Nat→Prop
 ow:Nat→Option Nat
inductive PRep (w:World)(st:Nat→Nat→Prop):PV→Value→Prop
 | val (v:Value):PRep w st (.val v) v
 | agg {cs:List PV} {vs:Array Value} (hl:vs.size=cs.length)
   (h:∀ (i:Nat) c v,cs[i]? = some c→vs[i]? = some v→PRep w st c v):PRep w st (.agg cs) (.agg vs)
 | ifc (t:TypeId) (v:Value):PRep w st .ifc (.iface t v)
 | aint (k:IntKind) (n:Int):PRep w st (.aint k) (.int k n)
 | nils:PRep w st (.slice []) (.slice none 0 0)
 | nile (a:Addr):PRep w st (.slice []) (.slice (some a) 0 0)
 | slice {es:List PV} {b off cap:Nat} (sz:Nat) (cf:Nat→Nat→Value) (hcap:es.length≤cap)
   (hsz:∀ e,e∈es→e.cells.length=sz) (hone:∀ e,e∈es→∀ c,c∈e.cells→c.one=true)
   (hc:∀ (i:Nat) e (j:Nat) c,es[i]? = some e→e.cells[j]? = some c→st b (off+i*sz+j)∧w.cell? ⟨b,off+i*sz+j,none⟩=some (cf i j))
   (hr:∀ (i:Nat) e (j:Nat) c,es[i]? = some e→e.cells[j]? = some c→PRep w st c (cf i j)) :
   PRep w st (.slice es) (.slice (some ⟨b,off,none⟩) es.length cap)
def Ev (w:World)(st:Nat→Nat→Prop)(w':World)(st':Nat→Nat→Prop):Prop :=
 ∀ b o,st b o→st' b o∧w'.cell? ⟨b,o,none⟩=w.cell? ⟨b,o,none⟩
theorem Ev.refl (w:World)(st:Nat→Nat→Prop):Ev w st w st:=λ _ _ h=>⟨h,Z⟩
theorem Ev.trans {w w' w'':World}{st st' st'':Nat→Nat→Prop}(h:Ev w st w' st')(k:Ev w' st' w'' st''):Ev w st w'' st'' :=
 λ b o hs=>⟨(k b o (h b o hs).1).1,(k b o (h b o hs).1).2.trans (h b o hs).2⟩
theorem PRep.mono {w w':World}{st st':Nat→Nat→Prop}(hev:Ev w st w' st'){x:PV}{v:Value}(h:PRep w st x v):PRep w' st' x v:=by
 induction h with
 | val v=>exact .val v
 | agg hl h ih=>exact .agg hl ih
 | ifc t v=>exact .ifc t v
 | aint k n=>exact .aint k n
 | nils=>exact .nils
 | nile a=>exact .nile a
 | slice sz cf hcap hsz hone hc hr ih =>
  refine .slice sz cf hcap hsz hone (λ i e j c h1 h2=>?_) ih
  have h3:=hc i e j c h1 h2
  exact ⟨(hev _ _ h3.1).1,(hev _ _ h3.1).2.trans h3.2⟩
def look {α:Type}:List (Nat×α)→Nat→Option α
 | [],_=>none
 | (j,v)::r,i=>bif Nat.beq j i then some v else look r i
def GC.pv:GC→PV
 | .int k n=>.val (.int k n)
 | .ifc=>.ifc
 | .some k=>.aint k
def nK (g:Nat):Option (List PV):=(look qz g).map λ l=>l.map GC.pv
def lj (w:World)(st:Nat→Nat→Prop):Prop :=
 ∀ g cs,nK g=some cs→(∀ (j:Nat) c,cs[j]? = some c→st g j∧∃ v,w.cell? ⟨g,j,none⟩=some v∧PRep w st c v)∧(st g cs.length∧w.cell? ⟨g,cs.length,none⟩=none)
theorem lj.mono {w w':World}{st st':Nat→Nat→Prop}(h:lj w st)(hev:Ev w st w' st'):lj w' st':=λ g cs hg=>by
 obtain ⟨h0,h1,h2⟩:=h g cs hg
 refine ⟨λ j c hc=>?_,(hev _ _ h1).1,(hev _ _ h1).2.trans h2⟩
 obtain ⟨h1,v,h2,h3⟩:=h0 j c hc
 exact ⟨(hev _ _ h1).1,v,(hev _ _ h1).2.trans h2,h3.mono hev⟩
structure Ok0 (w:World)(st:Nat→Nat→Prop):Prop where
 lt:∀ b o,st b o→b < w.heap.size
 gl:lj w st
inductive AV where
 | undef
 | p (x:PV)
 | agg (cs:List AV)
 | vec (tok sz ty:Nat) (es:List PV)
 | arr (id sz off n:Nat)
 | ptr (id off:Nat)
 | bptr (T sz id:Nat)
 | rptr (cs:List PV)
 | tuple (vs:List AV)
 | func (f:Fn) (caps:List AV)
 | mp (tok:Nat) (kvs:List (List UInt8×PV))
 | mpr (tok sz ty:Nat) (tk:Option (List UInt8)) (kvs:List (List UInt8×List PV))
 | stk (tok sz:Nat) (es:List PV)
 | sem (R:World→Gh→Value→Prop)
 | it (tok:Nat) (s:List UInt8) (pos:Nat)
 | vecp (tok sz ty:Nat) (es:List PV)
 | elp (tok sz:Nat)
def M1:Nat:=1000000
def MZ:Nat:=10000000
theorem vA:2*M1≤MZ:=by decide
theorem vn {i:Nat}(h:MZ≤i):M1≤i:=Nat.le_trans (by decide) h
def nr (tok sz ty:Nat)(tk:Option (List UInt8))(i:Nat)(kv:List UInt8×List PV):AV:=if tk=some kv.1 then .p (.slice kv.2) else .vec (tok+MZ*(i+1)) sz ty kv.2
structure EvO (D:Nat→Bool)(w:World)(g:Gh)(w':World)(g':Gh):Prop where
 ev:Ev w g.st w' g'.st
 ow:∀ id b,D id=false→g.ow id=some b→g'.ow id=some b
 shape:∀ id b c e,D id=false→g.ow id=some b→w.heap[b]? = some (.cells c e (0,0)) →
  ∃ c':Array Value,w'.heap[b]? = some (.cells c' e (0,0))∧c'.size=c.size
 tip:∀ id b o,D id=false→g.ow id=some b→g'.st b o→g.st b o
 mp:∀ id b es k,D id=false→g.ow id=some b→w.heap[b]? = some (.map es k)→w'.heap[b]? = some (.map es k)
 lo:∀ i,MZ≤i→D i=false
 stab:∀ id b o,D id=false→g.ow id=some b→g.st b o→w'.heap[b]? = w.heap[b]?
theorem EvO.trans {D E:Nat→Bool}{w w' w'':World}{g g' g'':Gh}(h:EvO D w g w' g')(k:EvO E w' g' w'' g''):EvO (λ i=>D i||E i) w g w'' g'':=by
 have hD:∀ id,(D id||E id)=false→D id=false∧E id=false:=λ id h=>by simpa using h
 refine ⟨h.ev.trans k.ev,λ id b hd hb=>k.ow id b (hD id hd).2 (h.ow id b (hD id hd).1 hb),λ id b c e hd hb hc=>?_,λ id b o hd hb ho=>h.tip id b o (hD id hd).1 hb (k.tip id b o (hD id hd).2 (h.ow id b (hD id hd).1 hb) ho),
  λ id b es n hd hb hc=>k.mp id b es n (hD id hd).2 (h.ow id b (hD id hd).1 hb) (h.mp id b es n (hD id hd).1 hb hc),λ i hi=>by rw [h.lo i hi,k.lo i hi]; rfl,
  λ id b o hd hb ho=>(k.stab id b o (hD id hd).2 (h.ow id b (hD id hd).1 hb) (h.ev _ _ ho).1).trans (h.stab id b o (hD id hd).1 hb ho)⟩
 obtain ⟨c1,h1,h2⟩:=h.shape id b c e (hD id hd).1 hb hc
 obtain ⟨c2,h3,h4⟩:=k.shape id b c1 e (hD id hd).2 (h.ow id b (hD id hd).1 hb) h1
 exact ⟨c2,h3,h4.trans h2⟩
inductive ARep (w:World)(g:Gh):AV→Value→Prop
 | undef (v:Value):ARep w g .undef v
 | p {x:PV} {v:Value} (h:PRep w g.st x v):ARep w g (.p x) v
 | agg {cs:List AV} {vs:Array Value} (hl:vs.size=cs.length)
   (h:∀ (i:Nat) c v,cs[i]? = some c→vs[i]? = some v→ARep w g c v):ARep w g (.agg cs) (.agg vs)
 | vecn (tok sz ty:Nat):ARep w g (.vec tok sz ty []) (.slice none 0 0)
 | vece (tok sz:Nat) (a:Addr):ARep w g (.vec tok sz 0 []) (.slice (some a) 0 0)
 | vec {tok sz ty:Nat} {es:List PV} {b off cap:Nat} {c:Array Value} {e:TypeId} (how:g.ow tok=some b)
   (hb:w.heap[b]? = some (.cells c e (0,0))) (hcs:c.size=off+cap*sz)
   (hsz:∀ e,e∈es→e.cells.length=sz) (hst:∀ o,g.st b o↔o < off+es.length*sz)
   (hr:PRep w g.st (.slice es) (.slice (some ⟨b,off,none⟩) es.length cap)) (hty:ty=0∨ty=e+1∧off=0) :
   ARep w g (.vec tok sz ty es) (.slice (some ⟨b,off,none⟩) es.length cap)
 | arr {id sz off n b cap:Nat} {c:Array Value} {e:TypeId} (how:g.ow id=some b) (hb:w.heap[b]? = some (.cells c e (0,0)))
   (hcs:c.size=off+cap*sz) (hn:n≤cap):ARep w g (.arr id sz off n) (.slice (some ⟨b,off,none⟩) n cap)
 | ptr {id off b:Nat} (how:g.ow id=some b):ARep w g (.ptr id off) (.pointer (some ⟨b,off,none⟩))
 | bptrn {T sz id b:Nat} {c:Array Value} (how:g.ow id=some b) (hb:w.heap[b]? = some (.cells c T (0,0))) (hcs:c.size=sz):ARep w g (.bptr T sz id) (.pointer none)
 | bptr {T sz id b:Nat} {c:Array Value} (how:g.ow id=some b) (hb:w.heap[b]? = some (.cells c T (0,0))) (hcs:c.size=sz):ARep w g (.bptr T sz id) (.pointer (some ⟨b,0,none⟩))
 | rptr {cs:List PV} {b off:Nat} (cf:Nat→Value)
   (hc:∀ (j:Nat) c,cs[j]? = some c→g.st b (off+j)∧w.cell? ⟨b,off+j,none⟩=some (cf j))
   (hr:∀ (j:Nat) c,cs[j]? = some c→PRep w g.st c (cf j)):ARep w g (.rptr cs) (.pointer (some ⟨b,off,none⟩))
 | tuple {cs:List AV} {vs:Array Value} (hl:vs.size=cs.length)
   (h:∀ (i:Nat) c v,cs[i]? = some c→vs[i]? = some v→ARep w g c v):ARep w g (.tuple cs) (.tuple vs)
 | func {f:Fn} {cs:List AV} {vs:Array Value} (hl:vs.size=cs.length)
   (h:∀ (i:Nat) c v,cs[i]? = some c→vs[i]? = some v→ARep w g c v):ARep w g (.func f cs) (.func f #[] vs)
 | mp {tok:Nat} {kvs:List (List UInt8×PV)} {b k:Nat} {es:Array MapEntry} (how:g.ow tok=some b) (hb:w.heap[b]? = some (.map es k)) (hn:es.size=kvs.length) (hd:(kvs.map Prod.fst).Nodup)
   (hk:∀ (i:Nat) e kv,es[i]? = some e→kvs[i]? = some kv→e.key=.string ⟨kv.1.toArray⟩) (hv:∀ (i:Nat) e kv,es[i]? = some e→kvs[i]? = some kv→PRep w g.st kv.2 e.val):ARep w g (.mp tok kvs) (.map (some b))
 | mpr {tok sz ty:Nat} {tk:Option (List UInt8)} {kvs:List (List UInt8×List PV)} {b k:Nat} {es:Array MapEntry} (how:g.ow tok=some b) (hb:w.heap[b]? = some (.map es k)) (hn:es.size=kvs.length) (hd:(kvs.map Prod.fst).Nodup)
   (hk:∀ (i:Nat) e kv,es[i]? = some e→kvs[i]? = some kv→e.key=.string ⟨kv.1.toArray⟩) (hv:∀ (i:Nat) e kv,es[i]? = some e→kvs[i]? = some kv→ARep w g (nr tok sz ty tk i kv) e.val):ARep w g (.mpr tok sz ty tk kvs) (.map (some b))
 | stkn (tok sz:Nat):ARep w g (.stk tok sz []) (.slice none 0 0)
 | stke (tok sz:Nat) (a:Addr):ARep w g (.stk tok sz []) (.slice (some a) 0 0)
 | stk {tok sz:Nat} {es:List PV} {b cap:Nat} {c:Array Value} {e:TypeId} (how:g.ow tok=some b) (hb:w.heap[b]? = some (.cells c e (0,0))) (hcs:c.size=cap*sz) (hlen:es.length≤cap)
   (hsz:∀ e,e∈es→e.cells.length=sz) (hone:∀ e,e∈es→∀ c,c∈e.cells→c.one=true) (hst:∀ o,g.st b o↔o=cap*sz)
   (hr:∀ (i:Nat) x (j:Nat) p,es[i]? = some x→x.cells[j]? = some p→∃ v,c[i*sz+j]? = some v∧PRep w g.st p v):ARep w g (.stk tok sz es) (.slice (some ⟨b,0,none⟩) es.length cap)
 | sem {R:World→Gh→Value→Prop} {v:Value} (h1:v.oneCell'=true) (h:∀ (D:Nat→Bool) (w':World) (g':Gh),EvO D w g w' g'→R w' g' v):ARep w g (.sem R) v
 | it {tok:Nat} {s:List UInt8} {pos b:Nat} (how:g.ow tok=some b) (hb:w.heap[b]? = some (.stringIter ⟨s.toArray⟩ pos)) (hm:g.st b 0):ARep w g (.it tok s pos) (.pointer (some ⟨b,0,none⟩))
 | vecp {tok sz ty:Nat} {es:List PV} {b off cap:Nat} {c:Array Value} {e:TypeId} (how:g.ow tok=some b) (hb:w.heap[b]? = some (.cells c e (0,0))) (hcs:c.size=off+cap*sz) (hcap:es.length+1≤cap)
   (hsz:∀ e,e∈es→e.cells.length=sz) (hst:∀ o,g.st b o↔o < off+es.length*sz)
   (hr:PRep w g.st (.slice es) (.slice (some ⟨b,off,none⟩) es.length cap)) (hty:ty=0∨ty=e+1∧off=0):ARep w g (.vecp tok sz ty es) (.slice (some ⟨b,off,none⟩) (es.length+1) cap)
 | elp {tok sz b p:Nat} {c:Array Value} {e:TypeId} (how:g.ow tok=some b) (hb:w.heap[b]? = some (.cells c e (0,0))) (hp:p+sz≤c.size) (hst:∀ o,g.st b o↔o < p):ARep w g (.elp tok sz) (.pointer (some ⟨b,p,none⟩))
/- An own identity D is given up: what was known through it is no longer,but for settled contents. -/
mutual
def AV.dem (D:Nat→Bool):AV→AV
 | .undef=>.undef
 | .p x=>.p x
 | .agg cs=>.agg (ls D cs)
 | .vec tok sz ty es=>bif D tok then .p (.slice es) else .vec tok sz ty es
 | .arr id sz off n=>bif D id then .undef else .arr id sz off n
 | .ptr id off=>bif D id then .undef else .ptr id off
 | .bptr T sz id=>bif D id then .undef else .bptr T sz id
 | .rptr cs=>.rptr cs
 | .tuple cs=>.tuple (ls D cs)
 | .func f cs=>.func f (ls D cs)
 | .mp tok kvs=>bif D tok then .undef else .mp tok kvs
 | .mpr tok sz ty tk kvs=>bif D tok then .undef else .mpr tok sz ty tk kvs
 | .stk tok sz es=>bif D tok then .undef else .stk tok sz es
 | .sem R=>.sem R
 | .it tok s pos=>bif D tok then .undef else .it tok s pos
 | .vecp tok sz ty es=>bif D tok then .undef else .vecp tok sz ty es
 | .elp tok sz=>bif D tok then .undef else .elp tok sz
def ls (D:Nat→Bool):List AV→List AV
 | []=>[]
 | x::r=>x.dem D::ls D r
end
theorem io (D:Nat→Bool):∀ l,ls D l=l.map (AV.dem D)
 | []=>rfl
 | x::r=>by simp [ls,io D r]
theorem z7 {D:Nat→Bool}(lo:∀ i,MZ≤i→D i=false)(tok sz ty:Nat)(tk:Option (List UInt8))(i:Nat)(kv:List UInt8×List PV):(nr tok sz ty tk i kv).dem D=nr tok sz ty tk i kv:=by
 unfold nr
 split
 ·rfl
 ·simp only [AV.dem]
  rw [lo (tok+MZ*(i+1)) (by unfold MZ; omega)]
  rfl
theorem ARep.dem {D:Nat→Bool}{w w':World}{g g':Gh}(hev:EvO D w g w' g'){x:AV}{v:Value}(h:ARep w g x v):ARep w' g' (x.dem D) v:=by
 induction h with
 | undef v=>simp only [AV.dem]; exact .undef _
 | p h=>simp only [AV.dem]; exact .p (h.mono hev.ev)
 | agg hl h ih =>
  simp only [AV.dem,io]
  refine .agg (by simpa using hl) λ i c v h1 h2=>?_
  simp only [List.getElem?_map,Option.map_eq_some_iff] at h1
  obtain ⟨c0,h1,rfl⟩:=h1
  exact ih i c0 v h1 h2
 | vecn tok sz ty =>
  simp only [AV.dem]
  cases D tok
  ·exact .vecn _ _ _
  ·exact .p .nils
 | vece tok sz a =>
  simp only [AV.dem]
  cases D tok
  ·exact .vece _ _ _
  ·exact .p (.nile a)
 | vec how hb hcs hsz hst hr hty =>
  simp only [AV.dem]
  cases hD:D _
  ·obtain ⟨c',hb',hs'⟩:=hev.shape _ _ _ _ hD how hb
   refine .vec (hev.ow _ _ hD how) hb' (hs'.trans hcs) hsz (λ o=>⟨λ h=>(hst o).1 (hev.tip _ _ o hD how h),λ h=>(hev.ev _ _ ((hst o).2 h)).1⟩) (hr.mono hev.ev) hty
  ·exact .p (hr.mono hev.ev)
 | arr how hb hcs hn =>
  simp only [AV.dem]
  cases hD:D _
  ·obtain ⟨c',hb',hs'⟩:=hev.shape _ _ _ _ hD how hb
   exact .arr (hev.ow _ _ hD how) hb' (hs'.trans hcs) hn
  ·exact .undef _
 | ptr how =>
  simp only [AV.dem]
  cases hD:D _
  ·exact .ptr (hev.ow _ _ hD how)
  ·exact .undef _
 | bptrn how hb hcs =>
  simp only [AV.dem]
  cases hD:D _
  ·obtain ⟨c',hb',hs'⟩:=hev.shape _ _ _ _ hD how hb
   exact .bptrn (hev.ow _ _ hD how) hb' (hs'.trans hcs)
  ·exact .undef _
 | bptr how hb hcs =>
  simp only [AV.dem]
  cases hD:D _
  ·obtain ⟨c',hb',hs'⟩:=hev.shape _ _ _ _ hD how hb
   exact .bptr (hev.ow _ _ hD how) hb' (hs'.trans hcs)
  ·exact .undef _
 | rptr cf hc hr =>
  simp only [AV.dem]
  exact .rptr cf (λ j c h=>⟨(hev.ev _ _ (hc j c h).1).1,(hev.ev _ _ (hc j c h).1).2.trans (hc j c h).2⟩) (λ j c h=>(hr j c h).mono hev.ev)
 | tuple hl h ih =>
  simp only [AV.dem,io]
  refine .tuple (by simpa using hl) λ i c v h1 h2=>?_
  simp only [List.getElem?_map,Option.map_eq_some_iff] at h1
  obtain ⟨c0,h1,rfl⟩:=h1
  exact ih i c0 v h1 h2
 | func hl h ih =>
  simp only [AV.dem,io]
  refine .func (by simpa using hl) λ i c v h1 h2=>?_
  simp only [List.getElem?_map,Option.map_eq_some_iff] at h1
  obtain ⟨c0,h1,rfl⟩:=h1
  exact ih i c0 v h1 h2
 | mp how hb hn hd hk hv =>
  simp only [AV.dem]
  cases hD:D _
  ·exact .mp (hev.ow _ _ hD how) (hev.mp _ _ _ _ hD how hb) hn hd hk (λ i e kv h1 h2=>(hv i e kv h1 h2).mono hev.ev)
  ·exact .undef _
 | mpr how hb hn hd hk hv ih =>
  simp only [AV.dem]
  cases hD:D _
  ·exact .mpr (hev.ow _ _ hD how) (hev.mp _ _ _ _ hD how hb) hn hd hk (λ i e kv h1 h2=>by have:=ih i e kv h1 h2; rwa [z7 hev.lo] at this)
  ·exact .undef _
 | stkn tok sz =>
  simp only [AV.dem]
  cases D tok
  ·exact .stkn _ _
  ·exact .undef _
 | stke tok sz a =>
  simp only [AV.dem]
  cases D tok
  ·exact .stke _ _ _
  ·exact .undef _
 | stk how hb hcs hlen hsz hone hst hr =>
  simp only [AV.dem]
  cases hD:D _
  ·exact .stk (hev.ow _ _ hD how) ((hev.stab _ _ _ hD how ((hst _).2 rfl)).trans hb) hcs hlen hsz hone (λ o=>⟨λ h=>(hst o).1 (hev.tip _ _ o hD how h),λ h=>(hev.ev _ _ ((hst o).2 h)).1⟩) (λ i x j p h1 h2=>by obtain ⟨v,h3,h4⟩:=hr i x j p h1 h2; exact ⟨v,h3,h4.mono hev.ev⟩)
  ·exact .undef _
 | sem h1 h =>
  simp only [AV.dem]
  exact .sem h1 (λ D2 w2 g2 hev2=>h _ _ _ (hev.trans hev2))
 | it how hb hm =>
  simp only [AV.dem]
  cases hD:D _
  ·exact .it (hev.ow _ _ hD how) ((hev.stab _ _ _ hD how hm).trans hb) (hev.ev _ _ hm).1
  ·exact .undef _
 | vecp how hb hcs hcap hsz hst hr hty =>
  simp only [AV.dem]
  cases hD:D _
  ·obtain ⟨c',hb',hs'⟩:=hev.shape _ _ _ _ hD how hb
   exact .vecp (hev.ow _ _ hD how) hb' (hs'.trans hcs) hcap hsz (λ o=>⟨λ h=>(hst o).1 (hev.tip _ _ o hD how h),λ h=>(hev.ev _ _ ((hst o).2 h)).1⟩) (hr.mono hev.ev) hty
  ·exact .undef _
 | elp how hb hp hst =>
  simp only [AV.dem]
  cases hD:D _
  ·obtain ⟨c',hb',hs'⟩:=hev.shape _ _ _ _ hD how hb
   exact .elp (hev.ow _ _ hD how) hb' O (λ o=>⟨λ h=>(hst o).1 (hev.tip _ _ o hD how h),λ h=>(hev.ev _ _ ((hst o).2 h)).1⟩)
  ·exact .undef _
theorem ARep.mono {w w':World}{g g':Gh}(hev:EvO (λ _=>false) w g w' g'){x:AV}{v:Value}(h:ARep w g x v):ARep w' g' x v:=by
 induction h with
 | undef v=>exact .undef _
 | p h=>exact .p (h.mono hev.ev)
 | agg hl h ih=>exact .agg hl ih
 | vecn tok sz ty=>exact .vecn _ _ _
 | vece tok sz a=>exact .vece _ _ _
 | vec how hb hcs hsz hst hr hty =>
  obtain ⟨c',hb',hs'⟩:=hev.shape _ _ _ _ rfl how hb
  exact .vec (hev.ow _ _ Z how) hb' (hs'.trans hcs) hsz (λ o=>⟨λ h=>(hst o).1 (hev.tip _ _ o Z how h),λ h=>(hev.ev _ _ ((hst o).2 h)).1⟩) (hr.mono hev.ev) hty
 | arr how hb hcs hn =>
  obtain ⟨c',hb',hs'⟩:=hev.shape _ _ _ _ rfl how hb
  exact .arr (hev.ow _ _ Z how) hb' (hs'.trans hcs) hn
 | ptr how=>exact .ptr (hev.ow _ _ Z how)
 | bptrn how hb hcs =>
  obtain ⟨c',hb',hs'⟩:=hev.shape _ _ _ _ rfl how hb
  exact .bptrn (hev.ow _ _ Z how) hb' (hs'.trans hcs)
 | bptr how hb hcs =>
  obtain ⟨c',hb',hs'⟩:=hev.shape _ _ _ _ rfl how hb
  exact .bptr (hev.ow _ _ Z how) hb' (hs'.trans hcs)
 | rptr cf hc hr=>exact .rptr cf (λ j c h=>⟨(hev.ev _ _ (hc j c h).1).1,(hev.ev _ _ (hc j c h).1).2.trans (hc j c h).2⟩) (λ j c h=>(hr j c h).mono hev.ev)
 | tuple hl h ih=>exact .tuple hl ih
 | func hl h ih=>exact .func hl ih
 | mp how hb hn hd hk hv=>exact .mp (hev.ow _ _ Z how) (hev.mp _ _ _ _ Z how hb) hn hd hk (λ i e kv h1 h2=>(hv i e kv h1 h2).mono hev.ev)
 | mpr how hb hn hd hk hv ih=>exact .mpr (hev.ow _ _ Z how) (hev.mp _ _ _ _ Z how hb) hn hd hk ih
 | stkn tok sz=>exact .stkn _ _
 | stke tok sz a=>exact .stke _ _ _
 | stk how hb hcs hlen hsz hone hst hr =>
  exact .stk (hev.ow _ _ rfl how) ((hev.stab _ _ _ rfl how ((hst _).2 rfl)).trans hb) hcs hlen hsz hone (λ o=>⟨λ h=>(hst o).1 (hev.tip _ _ o rfl how h),λ h=>(hev.ev _ _ ((hst o).2 h)).1⟩) (λ i x j p h1 h2=>by obtain ⟨v,h3,h4⟩:=hr i x j p h1 h2; exact ⟨v,h3,h4.mono hev.ev⟩)
 | sem h1 h=>exact .sem h1 (λ D2 w2 g2 hev2=>h _ _ _ (hev.trans hev2))
 | it how hb hm=>exact .it (hev.ow _ _ Z how) ((hev.stab _ _ _ Z how hm).trans hb) (hev.ev _ _ hm).1
 | vecp how hb hcs hcap hsz hst hr hty =>
  obtain ⟨c',hb',hs'⟩:=hev.shape _ _ _ _ rfl how hb
  exact .vecp (hev.ow _ _ Z how) hb' (hs'.trans hcs) hcap hsz (λ o=>⟨λ h=>(hst o).1 (hev.tip _ _ o Z how h),λ h=>(hev.ev _ _ ((hst o).2 h)).1⟩) (hr.mono hev.ev) hty
 | elp how hb hp hst =>
  obtain ⟨c',hb',hs'⟩:=hev.shape _ _ _ _ rfl how hb
  exact .elp (hev.ow _ _ Z how) hb' O (λ o=>⟨λ h=>(hst o).1 (hev.tip _ _ o Z how h),λ h=>(hev.ev _ _ ((hst o).2 h)).1⟩)
structure AS where
 sl:List (Nat×AV)
 ob:List (Nat×List AV)
def AS.get (s:AS)(i:Nat):AV:=(look s.sl i).getD .undef
def AS.put (s:AS)(dst:Option Nat)(x:AV):AS :=
 match dst with
 | some d=>{ s with sl:=(d,x)::s.sl }
 | none=>s
def jb (w:World)(g:Gh)(id:Nat)(cs:List AV):Prop :=
 ∃ b c e,g.ow id=some b∧w.heap[b]? = some (.cells c e (0,0))∧cs.length≤c.size∧(∀ o,¬ g.st b o) ∧
  ∀ (i:Nat) x,cs[i]? = some x→∃ v,c[i]? = some v∧ARep w g x v
structure Base where
 w:World
 st:Nat→Nat→Prop
 ow:Nat→Option Nat
 gl:lj w st
 lo:∀ i b,ow i=some b→i < MZ
 df:List Deferred
def jZ (ow:Nat→Option Nat)(w w':World):Prop:=∀ (i b:Nat) (c:Array Value) (e:TypeId),M1≤i→ow i=some b→w.heap[b]? = some (.cells c e (0,0))→∃ c':Array Value,w'.heap[b]? = some (.cells c' e (0,0))∧c'.size=c.size
theorem jZ.refl (ow:Nat→Option Nat)(w:World):jZ ow w w:=λ _ _ c _ _ _ h=>⟨c,h,Z⟩
theorem jZ.next {ow:Nat→Option Nat}{w w' w'':World}(h:jZ ow w w')
  (k:∀ (i b:Nat) (c:Array Value) (e:TypeId),M1≤i→ow i=some b→w'.heap[b]? = some (.cells c e (0,0))→∃ c':Array Value,w''.heap[b]? = some (.cells c' e (0,0))∧c'.size=c.size):jZ ow w w'':=by
 intro i b c e h1 h2 h3
 obtain ⟨c1,h4,h5⟩:=h i b c e h1 h2 h3
 obtain ⟨c2,h6,h7⟩:=k i b c1 e h1 h2 h4
 exact ⟨c2,h6,h7.trans h5⟩
def EK (w w':World):Prop:=(∀ (b:Nat) (c:Array Value) (e:TypeId),w.heap[b]? = some (.cells c e (0,0))→∃ c':Array Value,w'.heap[b]? = some (.cells c' e (0,0))∧c'.size=c.size) ∧
 ∀ (b:Nat) (o:Obj),w.heap.size≤b→w'.heap[b]? = some o→∃ c e,o=.cells c e (0,0)
structure St (n:Nat)(w0:Base)(F:Nat→Prop)(g:Gh)(s:AS)(a:Act)(w:World):Prop where
 nd:a.defers=w0.df
 sz:a.tmps.size=n
 sl:∀ i,ARep w g (s.get i) (a.tmps.getD i Go.undef)
 ob:∀ id cs,look s.ob id=some cs→jb w g id cs
 inj:∀ i j b,g.ow i=some b→g.ow j=some b→i=j
 own:∀ i b,g.ow i=some b→b < w.heap.size∧¬ F b
 lt:∀ b o,g.st b o→b < w.heap.size
 fl:∀ b,F b→b < w0.w.heap.size
 fr:∀ b,F b→w.heap[b]? = w0.w.heap[b]?
 os:w.os=w0.w.os
 out:w.output=w0.w.output
 tape:w.tape=w0.w.tape
 size:w0.w.heap.size≤w.heap.size
 stf:∀ b,F b→∀ o,g.st b o↔w0.st b o
 owf:∀ i,M1≤i→i < MZ→g.ow i=w0.ow i
 shf:jZ w0.ow w0.w w
 nst:∀ i b,M1≤i→w0.ow i=some b→∀ o,¬ g.st b o
 ev0:Ev w0.w w0.st w g.st
theorem St.ok0 {n:Nat}{w0:Base}{F:Nat→Prop}{g:Gh}{s:AS}{a:Act}{w:World}(h:St n w0 F g s a w):Ok0 w g.st:=⟨h.lt,w0.gl.mono h.ev0⟩
theorem bf {α:Type}(j i:Nat)(v:α)(r:List (Nat×α)):look ((j,v)::r) i=if j=i then some v else look r i:=by
 simp only [look]
 cases h:Nat.beq j i
 ·have:j≠i:=λ e=>by subst e; simp at h
  simp [this]
 ·have:j=i:=Nat.eq_of_beq_eq_true h
  simp [this]
theorem St.put {n:Nat}{w0:Base}{w:World}{F:Nat→Prop}{g:Gh}{s:AS}{a:Act}(h:St n w0 F g s a w){d:Option Nat}(hd:∀ t,d=some t→t < n)
  {x:AV} {v:Value} (hx:ARep w g x v):St n w0 F g (s.put d x) (a.put d v) w:=by
 cases d with
 | none=>exact h
 | some t =>
  have ht:=hd t Z
  refine { h with sz:=by simpa [Act.put] using h.sz,sl:=λ i=>?_,nd:=h.nd }
  simp only [AS.get,AS.put,bf,Act.put]
  by_cases e:t=i
  ·subst e
   have:t < a.tmps.size:=by rw [h.sz]; exact ht
   simpa [Array.getD,this] using hx
  ·have h2:=h.sl i
   simp only [AS.get] at h2
   simp only [if_neg e]
   have e3:(a.tmps.setIfInBounds t v).getD i Go.undef=a.tmps.getD i Go.undef:=by
    simp only [Array.getD_eq_getD_getElem?,Array.getElem?_setIfInBounds,if_neg e]
   rw [e3]; exact h2
def AV.sub (x y:AV):Prop:=∀ w g v,ARep w g x v→ARep w g y v
theorem AV.sub_refl (x:AV):x.sub x:=λ _ _ _ h=>h
theorem AV.sub_of_eq {x y:AV}(h:x=y):x.sub y:=h ▸ AV.sub_refl x
theorem PRep.nil_inv {w:World}{st:Nat→Nat→Prop}{v:Value}(h:PRep w st (.slice []) v) :
  v=.slice none 0 0∨∃ a cap,v=.slice (some a) 0 cap:=by
 cases h with
 | nils=>exact .inl Z
 | nile a=>exact .inr ⟨_,_,Z⟩
 | slice sz cf hcap hsz hone hc hr=>exact .inr ⟨_,_,Z⟩
theorem AV.sub_vec (tok sz ty:Nat)(es:List PV):(AV.vec tok sz ty es).sub (.p (.slice es)):=by
 intro w g v h
 cases h with
 | vecn=>exact .p .nils
 | vece _ _ a=>exact .p (.nile a)
 | vec how hb hcs hsz hst hr hty=>exact .p hr
theorem AV.sub_nilv:(AV.p (.val (.slice none 0 0))).sub (.p (.slice [])):=by
 intro w g v h
 cases h with
 | p h=>cases h; exact .p .nils
theorem AV.sub_nilvec (tok sz ty:Nat):(AV.p (.val (.slice none 0 0))).sub (.vec tok sz ty []):=by
 intro w g v h
 cases h with
 | p h=>cases h; exact .vecn _ _ _
structure AS.le (s t:AS):Prop where
 sl:∀ j x,look t.sl j=some x→(s.get j).sub x
 ob:∀ id cs,look t.ob id=some cs→∃ ds,look s.ob id=some ds∧cs.length≤ds.length∧∀ (i:Nat) c d,cs[i]? = some c→ds[i]? = some d→d.sub c
theorem St.weaken {n:Nat}{w0:Base}{w:World}{F:Nat→Prop}{g:Gh}{s t:AS}{a:Act}(h:St n w0 F g s a w)(hle:s.le t):St n w0 F g t a w:=by
 refine { h with sl:=λ i=>?_,ob:=λ id cs hc=>?_ }
 ·unfold AS.get
  cases ht:look t.sl i with
  | none=>exact .undef _
  | some x=>exact hle.sl i x ht _ _ _ (h.sl i)
 ·obtain ⟨ds,h1,h2,h3⟩:=hle.ob id cs hc
  obtain ⟨b,c,e,k1,k2,k3,k4,k5⟩:=h.ob id ds h1
  refine ⟨b,c,e,k1,k2,by omega,k4,λ i x hx=>?_⟩
  have hi:i < ds.length:=by
   have:=(List.getElem?_eq_some_iff.1 hx).1; omega
  obtain ⟨v,hv,hr⟩:=k5 i ds[i] (List.getElem?_eq_getElem hi)
  exact ⟨v,hv,h3 i x _ hx (List.getElem?_eq_getElem hi) _ _ _ hr⟩
inductive TK where
 | bool | int (k:IntKind) | string | ptr (e:Nat) | slice (e:Nat) | array (len e:Nat) | struct (fs:List (Nat×Nat)) | iface | map (k e:Nat) | other
def kindOf:TypeDesc→TK
 | .bool=>.bool
 | .int k=>.int k
 | .string=>.string
 | .pointer e=>.ptr e
 | .slice e=>.slice e
 | .array n e=>.array n e
 | .struct fs=>.struct (fs.toList.map λ f=>(f.offset,f.type))
 | .interface _=>.iface
 | .map k e=>.map k e
 | _=>.other
structure TI where
 k:TK
 size:Nat
 bytes:Nat
 zero:List Value
def tyOk (P:Program)(t:Nat)(i:TI):Prop :=
 (P.underlying t).map kindOf=some i.k∧(P.info? t).map (λ j=>(j.size,j.bytes,j.zero.map (·.cells.toList)))=some (i.size,i.bytes,some i.zero)
def dv (P:Program):List (Nat×TI)→Prop
 | []=>True
 | (t,i)::r=>tyOk P t i∧dv P r
structure Cx where
 P:Program
 tt:List (Nat×TI)
 good:dv P tt
 n:Nat
 nl:Nat.ble n M1=true
 w0:Base
 F:Nat→Prop
def awp (C:Cx)(c:Code)(Q:Exit→AS→Prop)(s:AS):Prop :=
 ∀ g a w,St C.n C.w0 C.F g s a w→c.wp C.P (λ e a' w'=>∃ g' s',St C.n C.w0 C.F g' s' a' w'∧Q e s') a w
def rwp (C:Cx)(ops:Array Oper)(l:List Nat)(K:AS→Prop)(s:AS):Prop :=
 ∀ g a w,St C.n C.w0 C.F g s a w→wpOps C.P ops (λ e a' w'=>e=.normal∧∃ g' s',St C.n C.w0 C.F g' s' a' w'∧K s') l a w
def aW (C:Cx)(o:Oper)(K:AS→Prop)(s:AS):Prop :=
 ∀ g a w,St C.n C.w0 C.F g s a w→o.wp C.P a w (λ a' w'=>∃ g' s',St C.n C.w0 C.F g' s' a' w'∧K s') (λ _ _ _=>False)
theorem na {P:Program}{o:Oper}{a:Act}{next next':Act→World→Prop}{Q Q':Exit→Act→World→Prop}{r:Result Next}
  (hn:∀ a w,next a w→next' a w) (hq:∀ e a w,Q e a w→Q' e a w) (h:o.upon P a next Q r):o.upon P a next' Q' r:=by
 cases r with
 | halt x w =>
  cases x <;> simp only [Oper.upon] at h ⊢
  exact hq _ _ _ h
 | ok x w =>
  cases x <;> simp only [Oper.upon] at h ⊢
  case value v=>exact hn _ _ h
  case skip=>exact hn _ _ h
  case defer d=>exact hn _ _ h
  case enter f args =>
   refine h.mono λ e w' h=>?_
   cases e with
   | returned v=>exact hn _ _ h
   | panicked c=>exact hq _ _ _ h
   | outgrown=>obtain ⟨a0,w1,h⟩:=h; exact ⟨a0,w1,hq _ _ _ h⟩
  case row r args=>exact h.mono λ v w' h=>hn _ _ h
theorem aW.mono {C:Cx}{o:Oper}{K K':AS→Prop}{s:AS}(hk:∀ s,K s→K' s)(h:aW C o K s):aW C o K' s :=
 λ g a w hs=>na (λ _ _ ⟨g',s',h1,h2⟩=>⟨g',s',h1,hk _ h2⟩) (λ _ _ _ h=>h) (h g a w hs)
def pg (K:AS→Prop)(Q:Exit→AS→Prop):Exit→AS→Prop
 | .normal,s=>K s
 | e,s=>Q e s
def j1 (id:Nat)(Q:Exit→AS→Prop):Exit→AS→Prop
 | .exit id',s=>if id'=id then Q .normal s else Q (.exit id') s
 | e,s=>Q e s
theorem oZ {C:Cx}{c:Code}{Q Q':Exit→AS→Prop}{s:AS}(hq:∀ e s,Q e s→Q' e s)(h:awp C c Q s):awp C c Q' s :=
 λ g a w hs=>wp_mono (h g a w hs) λ _ _ _ ⟨g',s',h1,h2⟩=>⟨g',s',h1,hq _ _ h2⟩
theorem x5 {C:Cx}{c:Code}{Q:Exit→AS→Prop}{s t:AS}(hle:s.le t)(h:awp C c Q t):awp C c Q s :=
 λ g a w hs=>h g a w (hs.weaken hle)
theorem bI {C:Cx}{x y:Code}{Q:Exit→AS→Prop}{s:AS}(h:awp C x (pg (awp C y Q) Q) s):awp C (.seq x y) Q s:=by
 intro g a w hs
 refine wp_seq (wp_mono (h g a w hs) ?_)
 rintro e a' w' ⟨g',s',h1,h2⟩
 cases e with
 | normal=>exact h2 g' a' w' h1
 | exit id=>exact ⟨g',s',h1,h2⟩
 | goto l=>exact ⟨g',s',h1,h2⟩
 | ret=>exact ⟨g',s',h1,h2⟩
 | panic ch=>exact ⟨g',s',h1,h2⟩
 | outgrown=>exact ⟨g',s',h1,h2⟩
theorem dT {C:Cx}{id:Nat}{c:Code}{Q:Exit→AS→Prop}{s:AS}(h:awp C c (j1 id Q) s):awp C (.block id c) Q s:=by
 intro g a w hs
 refine wp_block (wp_mono (h g a w hs) ?_)
 rintro e a' w' ⟨g',s',h1,h2⟩
 cases e with
 | exit id' =>
  simp only [j1] at h2
  simp only [Exit.inBlock]
  split
  ·rename_i e; rw [if_pos e] at h2; exact ⟨g',s',h1,h2⟩
  ·rename_i e; rw [if_neg e] at h2; exact ⟨g',s',h1,h2⟩
 | normal=>exact ⟨g',s',h1,h2⟩
 | goto l=>exact ⟨g',s',h1,h2⟩
 | ret=>exact ⟨g',s',h1,h2⟩
 | panic ch=>exact ⟨g',s',h1,h2⟩
 | outgrown=>exact ⟨g',s',h1,h2⟩
theorem de {C:Cx}{Q:Exit→AS→Prop}{s:AS}(h:Q .normal s):awp C .skip Q s :=
 λ g a w hs=>wp_skip ⟨g,s,hs,h⟩
theorem dU {C:Cx}{l:Nat}{Q:Exit→AS→Prop}{s:AS}(h:Q .normal s):awp C (.label l) Q s :=
 λ g a w hs=>wp_label ⟨g,s,hs,h⟩
theorem eF {C:Cx}{id:Nat}{Q:Exit→AS→Prop}{s:AS}(h:Q (.exit id) s):awp C (.exit id) Q s :=
 λ g a w hs=>wp_exit ⟨g,s,hs,h⟩
theorem di {C:Cx}{Q:Exit→AS→Prop}{s:AS}(h:Q .ret s):awp C .ret Q s :=
 λ g a w hs=>wp_ret ⟨g,s,hs,h⟩
def cst:Value→PV
 | .agg vs=>.agg (vs.toList.map .val)
 | v=>.val v
def AS.ev (s:AS):Operand→AV
 | .tmp t=>s.get t
 | .const v=>.p (cst v)
 | .global g=>((nK g).map .rptr).getD .undef
 | .func f=>.func (.func f) []
theorem DG (w:World)(st:Nat→Nat→Prop)(v:Value):PRep w st (cst v) v:=by
 unfold cst
 split
 ·rename_i vs
  refine .agg G λ i c v h1 h2=>?_
  simp only [List.getElem?_map,Array.getElem?_toList,h2,Option.map_some,Option.some.injEq] at h1
  subst h1
  exact .val _
 ·exact .val _
theorem BP {n:Nat}{w0:Base}{w:World}{F:Nat→Prop}{g:Gh}{s:AS}{a:Act}(h:St n w0 F g s a w)(x:Operand):ARep w g (s.ev x) (a.eval x):=by
 cases x with
 | tmp t=>exact h.sl t
 | const v=>exact .p (DG _ _ _)
 | global q =>
  simp only [AS.ev]
  cases h2:nK q with
  | none=>exact .undef _
  | some cs =>
   have hg:=w0.gl.mono h.ev0
   refine .rptr (λ j=>(w.cell? ⟨q,j,none⟩).getD Go.undef) (λ j c hc=>?_) (λ j c hc=>?_)
   ·obtain ⟨k1,v,k2,k3⟩:=(hg q cs h2).1 j c hc
    rw [Nat.zero_add,k2]; exact ⟨k1,rfl⟩
   ·obtain ⟨k1,v,k2,k3⟩:=(hg q cs h2).1 j c hc
    rw [k2]; exact k3
 | func f=>exact .func Z (λ i c v h=>by simp at h)
theorem tf {w:World}{g:Gh}{x v:Value}(h:ARep w g (.p (.val x)) v):v=x:=by
 cases h with
 | p h=>cases h; rfl
theorem EN {n:Nat}{w0:Base}{w:World}{F:Nat→Prop}{g:Gh}{s:AS}{a:Act}(h:St n w0 F g s a w){x:Operand}{v:Value}(hx:s.ev x=.p (.val v)):a.eval x=v:=by
 have:=BP h x
 rw [hx] at this
 exact tf this
theorem tT {C:Cx}{c:Operand}{x y:Code}{Q:Exit→AS→Prop}{s:AS}{b:Bool}(hc:s.ev c=.p (.val (.bool b)))
  (h1:b=true→awp C x Q s) (h2:b=false→awp C y Q s):awp C (.cond c x y) Q s:=by
 intro g a w hs
 have he:=EN hs hc
 cases b
 ·exact wp_cond_false he (h2 Z g a w hs)
 ·exact wp_cond_true he (h1 Z g a w hs)
theorem CI {C:Cx}{c:Operand}{x y:Code}{Q:Exit→AS→Prop}{s:AS}{b:Bool}(hc:s.ev c=.p (.val (.bool b)))(hb:b=true)
  (h1:awp C x Q s):awp C (.cond c x y) Q s:=tT hc (λ _=>h1) (λ h=>by rw [hb] at h; cases h)
theorem Al {C:Cx}{c:Operand}{x y:Code}{Q:Exit→AS→Prop}{s:AS}{b:Bool}(hc:s.ev c=.p (.val (.bool b)))(hb:b=false)
  (h1:awp C y Q s):awp C (.cond c x y) Q s:=tT hc (λ h=>by rw [hb] at h; cases h) (λ _=>h1)
theorem nh {C:Cx}{c:Code}{Q:Exit→AS→Prop}{s:AS}{σ:Type}(mk:σ→AS)(I:σ→Prop)(μ:σ→Nat)(k0:σ)
  (h0:I k0) (hle:s.le (mk k0))
  (round:∀ k,I k→awp C c (pg (λ s'=>∃ k',I k'∧μ k' < μ k∧s'.le (mk k')) Q) (mk k)):awp C (.loop c) Q s:=by
 refine x5 hle ?_
 intro g a w hs
 let J:Act→World→Nat→Prop:=λ a w m=>∃ g k,St C.n C.w0 C.F g (mk k) a w∧I k∧μ k=m
 have hJ:∀ a w m,J a w m→∃ m0,J a w m0∧∀ m',J a w m'→m0≤m':=by
  intro a w m
  induction m using Nat.strongRecOn with
  | _ m ih =>
   intro hm
   by_cases h:∃ m',m' < m∧J a w m'
   ·obtain ⟨m',h1,h2⟩:=h; exact ih m' h1 h2
   ·exact ⟨m,hm,λ m' h'=>Nat.le_of_not_lt λ hlt=>h ⟨m',hlt,h'⟩⟩
 let M:Act→World→Nat:=λ a w=>by
  classical
  exact if h:∃ m0,J a w m0∧∀ m',J a w m'→m0≤m' then Classical.choose h else 0
 have hM:∀ a w m,J a w m→J a w (M a w)∧M a w≤m:=by
  intro a w m hm
  have h:=hJ a w m hm
  have e:M a w=Classical.choose h:=by simp only [M]; rw [dif_pos h]
  rw [e]
  exact ⟨(Classical.choose_spec h).1,(Classical.choose_spec h).2 m hm⟩
 refine wp_loop (λ a w=>∃ m,J a w m) M ⟨μ k0,g,k0,hs,h0,rfl⟩ ?_
 rintro a w ⟨m,hm⟩
 obtain ⟨⟨g1,k1,hs1,hI1,hμ1⟩,_⟩:=hM a w m hm
 refine wp_mono (round k1 hI1 g1 a w hs1) ?_
 rintro e a' w' ⟨g',s',h1,h2⟩
 cases e with
 | normal =>
  obtain ⟨k',hI',hlt,hle'⟩:=h2
  have hj:J a' w' (μ k'):=⟨g',k',h1.weaken hle',hI',Z⟩
  refine ⟨⟨_,hj⟩,?_⟩
  have:=(hM a' w' _ hj).2
  omega
 | exit id=>exact ⟨g',s',h1,h2⟩
 | goto l=>exact ⟨g',s',h1,h2⟩
 | ret=>exact ⟨g',s',h1,h2⟩
 | panic ch=>exact ⟨g',s',h1,h2⟩
 | outgrown=>exact ⟨g',s',h1,h2⟩
theorem yt {C:Cx}{id:Nat}{ops:Array Oper}{Q:Exit→AS→Prop}{s:AS}{l:List Nat}(hl:List.range ops.size=l)
  (h:rwp C ops l (Q .normal) s):awp C (.region id ops false) Q s:=by
 intro g a w hs
 refine wp_region ?_
 rw [hl]
 have:=h g a w hs
 have mono:∀ (l:List Nat) (a:Act) (w:World) (Q1 Q2:Exit→Act→World→Prop),(∀ e a w,Q1 e a w→Q2 e a w)→wpOps C.P ops Q1 l a w→wpOps C.P ops Q2 l a w:=by
  intro l
  induction l with
  | nil=>intro a w Q1 Q2 h12 h; exact h12 _ _ _ h
  | cons i r ih =>
   intro a w Q1 Q2 h12 h
   simp only [wpOps] at h ⊢
   cases ho:ops[i]? with
   | none=>simp only [ho] at h; exact ih _ _ _ _ h12 h
   | some o =>
    simp only [ho] at h
    dsimp only
    split
    ·rename_i hw
     rw [if_pos hw] at h
     rcases h with h | ⟨h,a0,w1,hq⟩
     ·exact .inl (na (λ a w h=>ih a w _ _ h12 h) h12 h)
     ·exact .inr ⟨h,a0,w1,h12 _ _ _ hq⟩
    ·rename_i hw
     rw [if_neg hw] at h
     exact ih _ _ _ _ h12 h
 refine mono _ _ _ _ _ ?_ this
 rintro e a' w' ⟨rfl,g',s',h1,h2⟩
 exact ⟨g',s',h1,h2⟩
theorem qA {C:Cx}{ops:Array Oper}{K:AS→Prop}{s:AS}(h:K s):rwp C ops [] K s :=
 λ g a w hs=>⟨Z,g,s,hs,h⟩
theorem Cl {C:Cx}{ops:Array Oper}{K:AS→Prop}{s:AS}{i:Nat}{r:List Nat}{o:Oper}(ho:ops[i]? = some o)(hg:o.guard=none)
  (h:aW C o (rwp C ops r K) s):rwp C ops (i::r) K s:=by
 intro g a w hs
 simp only [wpOps,ho,Region.wanted,hg,if_true]
 exact .inl (na (λ a' w' ⟨g',s',h1,h2⟩=>h2 g' a' w' h1) (λ _ _ _ h=>h.elim) (h g a w hs))
theorem tW {n:Nat}{w0:Base}{w:World}{F:Nat→Prop}{g:Gh}{s:AS}{a:Act}(hs:St n w0 F g s a w){ops:Array Oper}{j t:Nat}(hj:(ops[j]?).bind (·.dst)=some t)
  {b:Bool} (hv:s.get t=.p (.val (.bool b))):yielded ops a.tmps j=some b:=by
 have h1:=hs.sl t
 rw [hv] at h1
 have h2:=tf h1
 simp only [yielded,hj,Option.bind_some]
 rw [Array.getD_eq_getD_getElem?] at h2
 cases h3:a.tmps[t]? with
 | none=>rw [h3] at h2; simp [Go.undef] at h2
 | some v=>rw [h3] at h2; simp only [Option.getD_some] at h2; subst h2; rfl
theorem vU {C:Cx}{ops:Array Oper}{K:AS→Prop}{s:AS}{i:Nat}{r:List Nat}{o:Oper}{j:Nat}{want:Bool}{t:Nat}{b:Bool}(ho:ops[i]? = some o)(hg:o.guard=some (j,want))
  (hj:(ops[j]?).bind (·.dst)=some t) (hv:s.get t=.p (.val (.bool b))) (hd:∀ t,o.dst=some t→t < C.n)
  (h1:b=want→aW C o (rwp C ops r K) s) (h2:b=!want→rwp C ops r K (s.put o.dst (.p (.val Go.undef)))):rwp C ops (i::r) K s:=by
 intro g a w hs
 have hy:=tW hs hj hv
 simp only [wpOps,ho,Region.wanted,hg,hy]
 by_cases e:b=want
 ·subst e
  simp only [BEq.rfl,if_true]
  exact .inl (na (λ a' w' ⟨g',s',h1,h2⟩=>h2 g' a' w' h1) (λ _ _ _ h=>h.elim) (h1 Z g a w hs))
 ·have e2:b=!want:=by
   cases b <;> cases want <;> first | rfl | exact absurd rfl e
  have e3:(some b == some want)=false:=by
   cases b <;> cases want <;> first | rfl | exact absurd rfl e
  rw [e3]
  simp only [Bool.false_eq_true,if_false]
  exact h2 e2 g _ w (hs.put hd (.p (.val _)))
theorem pR {C:Cx}{ops:Array Oper}{K:AS→Prop}{s:AS}{i:Nat}{r:List Nat}{o:Oper}{j:Nat}{want:Bool}{t:Nat}{b:Bool}(ho:ops[i]? = some o)(hg:o.guard=some (j,want))
  (hj:(ops[j]?).bind (·.dst)=some t) (hv:s.get t=.p (.val (.bool b))) (hb:b=want)
  (h1:aW C o (rwp C ops r K) s):rwp C ops (i::r) K s:=by
 intro g a w hs
 have hy:=tW hs hj hv
 simp only [wpOps,ho,Region.wanted,hg,hy]
 subst hb
 simp only [BEq.rfl,if_true]
 exact .inl (na (λ a' w' ⟨g',s',h1,h2⟩=>h2 g' a' w' h1) (λ _ _ _ h=>h.elim) (h1 g a w hs))
theorem wQ {C:Cx}{ops:Array Oper}{K:AS→Prop}{s:AS}{i:Nat}{r:List Nat}{o:Oper}{j:Nat}{want:Bool}{t:Nat}{b:Bool}(ho:ops[i]? = some o)(hg:o.guard=some (j,want))
  (hj:(ops[j]?).bind (·.dst)=some t) (hv:s.get t=.p (.val (.bool b))) (hb:b=!want) (hd:∀ t,o.dst=some t→t < C.n)
  (h2:rwp C ops r K (s.put o.dst (.p (.val Go.undef)))):rwp C ops (i::r) K s :=
 vU ho hg hj hv hd (λ e=>by subst e; cases b <;> simp at hb) (λ _=>h2)
theorem oT {C:Cx}{ops:Array Oper}{K:AS→Prop}{s:AS}{i:Nat}{r:List Nat}{o:Oper}{j:Nat}{want:Bool}{t:Nat}(ho:ops[i]? = some o)(hg:o.guard=some (j,want))
  (hj:(ops[j]?).bind (·.dst)=some t) (hv:s.get t=.p (.val Go.undef)) (hd:∀ t,o.dst=some t→t < C.n)
  (h2:rwp C ops r K (s.put o.dst (.p (.val Go.undef)))):rwp C ops (i::r) K s:=by
 intro g a w hs
 have h1:=hs.sl t
 rw [hv] at h1
 have h3:=tf h1
 have hy:yielded ops a.tmps j=none:=by
  simp only [yielded,hj,Option.bind_some]
  rw [Array.getD_eq_getD_getElem?] at h3
  cases h4:a.tmps[t]? with
  | none=>rfl
  | some v=>rw [h4] at h3; simp only [Option.getD_some] at h3; subst h3; rfl
 simp only [wpOps,ho,Region.wanted,hg,hy]
 rw [if_neg G]
 exact h2 g _ w (hs.put hd (.p (.val _)))
def eC (C:Cx)(ops:Array Oper)(rest:List Oper)(K:AS→Prop)(s:AS):Prop :=
 ∀ k,ops.toList.drop k=rest→rwp C ops (List.range' k rest.length) K s
theorem cj {C:Cx}{id:Nat}{ops:Array Oper}{Q:Exit→AS→Prop}{s:AS}(h:eC C ops ops.toList (Q .normal) s):awp C (.region id ops false) Q s:=by
 refine yt (l:=List.range' 0 ops.toList.length) ?_ (h 0 Z)
 rw [List.range_eq_range',Array.length_toList]
theorem bz {C:Cx}{ops:Array Oper}{K:AS→Prop}{s:AS}(h:K s):eC C ops [] K s :=
 λ _ _=>qA h
theorem drop_at {ops:Array Oper}{k:Nat}{o:Oper}{r:List Oper}(h:ops.toList.drop k=o::r):ops[k]? = some o∧ops.toList.drop (k+1)=r:=by
 constructor
 ·have:=congrArg List.head? h
  simpa [List.head?_drop] using this
 ·have:=congrArg List.tail h
  simpa [List.tail_drop] using this
theorem aZ {C:Cx}{ops:Array Oper}{K:AS→Prop}{s:AS}{r:List Oper}{o:Oper}(hg:o.guard=none)
  (h:aW C o (eC C ops r K) s):eC C ops (o::r) K s:=by
 intro k hk
 obtain ⟨h1,h2⟩:=drop_at hk
 rw [List.length_cons,List.range'_succ]
 exact Cl h1 hg (h.mono λ s h=>h (k+1) h2)
theorem yK {C:Cx}{ops:Array Oper}{K:AS→Prop}{s:AS}{r:List Oper}{o:Oper}{j:Nat}{want:Bool}{t:Nat}{b:Bool}(hg:o.guard=some (j,want))
  (hj:(ops.toList[j]?).bind (·.dst)=some t) (hv:look s.sl t=some (.p (.val (.bool b)))) {d:Nat} (hd:o.dst=some d) (hn:Nat.blt d C.n=true)
  (h1:b=want→aW C o (eC C ops r K) s) (h2:b=!want→eC C ops r K ⟨(d,.p (.val Go.undef))::s.sl,s.ob⟩):eC C ops (o::r) K s:=by
 intro k hk
 obtain ⟨h3,h4⟩:=drop_at hk
 rw [List.length_cons,List.range'_succ]
 refine vU h3 hg (t:=t) (b:=b) (by simpa using hj) (by simp [AS.get,hv]) (λ t ht=>by rw [hd] at ht; cases ht; exact Nat.blt_eq ▸ hn) (λ e=>(h1 e).mono λ s h=>h (k+1) h4) (λ e=>?_)
 have:=h2 e (k+1) h4
 rw [hd]
 exact this
theorem lL {C:Cx}{ops:Array Oper}{K:AS→Prop}{s:AS}{r:List Oper}{o:Oper}{j:Nat}{want:Bool}{t:Nat}{b:Bool}(hg:o.guard=some (j,want))
  (hj:(ops.toList[j]?).bind (·.dst)=some t) (hv:look s.sl t=some (.p (.val (.bool b)))) (hb:b=want)
  (h1:aW C o (eC C ops r K) s):eC C ops (o::r) K s:=by
 intro k hk
 obtain ⟨h3,h4⟩:=drop_at hk
 rw [List.length_cons,List.range'_succ]
 exact pR h3 hg (t:=t) (b:=b) (by simpa using hj) (by simp [AS.get,hv]) hb (h1.mono λ s h=>h (k+1) h4)
theorem mF {C:Cx}{ops:Array Oper}{K:AS→Prop}{s:AS}{r:List Oper}{o:Oper}{j:Nat}{want:Bool}{t:Nat}{b:Bool}(hg:o.guard=some (j,want))
  (hj:(ops.toList[j]?).bind (·.dst)=some t) (hv:look s.sl t=some (.p (.val (.bool b)))) (hb:b=!want) {d:Nat} (hd:o.dst=some d) (hn:Nat.blt d C.n=true)
  (h2:eC C ops r K ⟨(d,.p (.val Go.undef))::s.sl,s.ob⟩):eC C ops (o::r) K s :=
 yK hg hj hv hd hn (λ e=>by subst e; cases b <;> simp at hb) (λ _=>h2)
theorem og {C:Cx}{ops:Array Oper}{K:AS→Prop}{s:AS}{r:List Oper}{o:Oper}{j:Nat}{want:Bool}{t:Nat}(hg:o.guard=some (j,want))
  (hj:(ops.toList[j]?).bind (·.dst)=some t) (hv:look s.sl t=some (.p (.val Go.undef))) {d:Nat} (hd:o.dst=some d) (hn:Nat.blt d C.n=true)
  (h2:eC C ops r K ⟨(d,.p (.val Go.undef))::s.sl,s.ob⟩):eC C ops (o::r) K s:=by
 intro k hk
 obtain ⟨h3,h4⟩:=drop_at hk
 rw [List.length_cons,List.range'_succ]
 refine oT h3 hg (t:=t) (by simpa using hj) (by simp [AS.get,hv]) (λ t ht=>by rw [hd] at ht; cases ht; exact Nat.blt_eq ▸ hn) ?_
 have:=h2 (k+1) h4
 rw [hd]
 exact this
structure After (w:World)(st:Nat→Nat→Prop)(w':World)(g':Gh):Prop where
 os:w'.os=w.os
 out:w'.output=w.output
 tape:w'.tape=w.tape
 size:w.heap.size≤w'.heap.size
 fr:∀ b,b < w.heap.size→w'.heap[b]? = w.heap[b]?
 own:∀ i b,g'.ow i=some b→w.heap.size≤b∧b < w'.heap.size
 inj:∀ i j b,g'.ow i=some b→g'.ow j=some b→i=j
 lt:∀ b o,g'.st b o→b < w'.heap.size
 stf:∀ b,b < w.heap.size→∀ o,g'.st b o↔st b o
def aA (P:Program)(f:FuncId)(args:List PV)(R:AV→Prop):Prop :=
 ∀ (w:World) (st:Nat→Nat→Prop) (vs:Array Value),Ok0 w st→vs.size=args.length →
  (∀ (i:Nat) c v,args[i]? = some c→vs[i]? = some v→PRep w st c v) →
  Calls P f vs w λ e w'=>∃ v r g',e=.returned v∧R r∧ARep w' g' r v∧After w st w' g'
def lh:List ResultVar→AS→Option (List AV)
 | [],_=>some []
 | .tmp t::r,s=>match look s.sl t,lh r s with
  | some x,some l=>some (x::l)
  | _,_=>none
 | .cell _ _::_,_=>none
def np:List AV→AV
 | [x]=>x
 | l=>.tuple l
def Fz (fn:Func)(R:AV→Prop)(e:Exit)(s:AS):Prop:=(e=.normal∨e=.ret)∧∃ l,lh fn.results.toList s=some l∧R (np l)
def vi (tmps:Array Value):ResultVar→Sem Value
 | .tmp t=>pure (tmps.getD t Go.undef)
 | .cell c t=>do loadVar t (← asAddr (tmps.getD c Go.undef))
theorem tL (fn:Func)(tmps:Array Value):results fn tmps=(do let vs ← fn.results.mapM (vi tmps); pure (if h:vs.size=1 then vs[0] else .tuple vs)):=rfl
theorem Cb {P:Program}{n:Nat}{w0:Base}{w:World}{F:Nat→Prop}{g:Gh}{s:AS}{a:Act}(hs:St n w0 F g s a w)(rs:List ResultVar) :
  ∀ l,lh rs s=some l→∃ vs:List Value,
   (rs.mapM (vi a.tmps)).run P w=.ok vs w∧vs.length=l.length ∧
    ∀ (i:Nat) c v,l[i]? = some c→vs[i]? = some v→ARep w g c v:=by
 induction rs with
 | nil=>intro l h; simp only [lh,Option.some.injEq] at h; subst h; exact ⟨[],by simp,rfl,by simp⟩
 | cons r rs ih =>
  intro l h
  cases r with
  | cell c t=>simp [lh] at h
  | tmp t =>
   have ht:=hs.sl t
   simp only [lh] at h
   split at h
   case h_2=>cases h
   rename_i x l' hx h1
   cases h
   simp only [AS.get,hx,Option.getD_some] at ht
   obtain ⟨vs,h2,h3,h4⟩:=ih l' h1
   refine ⟨a.tmps.getD t Go.undef::vs,?_,by simp [h3],?_⟩
   ·simp only [List.mapM_cons,vi,Sem.run_bind,Sem.run_pure,Result.andThen_ok,h2]
   ·intro i c v h5 h6
    cases i with
    | zero=>simp only [List.getElem?_cons_zero,Option.some.injEq] at h5 h6; subst h5 h6; exact ht
    | succ i=>simp only [List.getElem?_cons_succ] at h5 h6; exact h4 i c v h5 h6
theorem iD {fn:Func}{R:AV→Prop}{s:AS}{l:List AV}(h:lh fn.results.toList s=some l)(hR:R (np l)):Fz fn R .ret s:=⟨.inr Z,l,h,hR⟩
theorem cp {σ:Type}{mk:σ→AS}{I:σ→Prop}{μ:σ→Nat}{k:σ}{Q:Exit→AS→Prop}{s:AS}(k':σ)(h1:I k')(h2:μ k' < μ k)(h3:s.le (mk k')) :
  pg (λ s'=>∃ k',I k'∧μ k' < μ k∧s'.le (mk k')) Q .normal s:=⟨k',h1,h2,h3⟩
theorem sA {P:Program}{n:Nat}{w0:Base}{w:World}{F:Nat→Prop}{g:Gh}{s:AS}{a:Act}(hs:St n w0 F g s a w)(fn:Func)(l:List AV)(h:lh fn.results.toList s=some l) :
  ∃ v,(results fn a.tmps).run P w=.ok v w∧ARep w g (np l) v:=by
 obtain ⟨vs,h2,h3,h4⟩:=Cb (P:=P) hs _ l h
 refine ⟨if h:vs.length=1 then vs[0] else .tuple vs.toArray,?_,?_⟩
 ·rw [tL,Array.mapM_eq_mapM_toList]
  simp only [Sem.run_bind,Sem.run_map,h2,Result.andThen_ok,Sem.run_pure,List.size_toArray]
  congr 1
 ·by_cases e:vs.length=1
  ·rw [dif_pos e]
   obtain ⟨v,rfl⟩:=List.length_eq_one_iff.1 e
   obtain ⟨x,rfl⟩:=List.length_eq_one_iff.1 (h3.symm.trans e)
   exact h4 0 x v Z Z
  ·rw [dif_neg e]
   have e2:np l=.tuple l:=by
    match l,h3 with
    | [],_=>rfl
    | [x],h3=>exact absurd h3 e
    | x::y::r,_=>rfl
   rw [e2]
   exact .tuple (by simpa using h3) (λ i c v h5 h6=>h4 i c v h5 (by simpa using h6))
def md (args:List PV):List (Nat×AV):=(args.zipIdx).map λ (x,i)=>(i,.p x)
theorem dv.at {P:Program}:∀ {tt:List (Nat×TI)},dv P tt→∀ {t:Nat} {i:TI},look tt t=some i→tyOk P t i
 | [],_,_,_,h=>by simp [look] at h
 | (u,j)::r,hg,t,i,h=>by
  rw [bf] at h
  split at h
  ·rename_i e; subst e; cases h; exact hg.1
  ·exact dv.at hg.2 h
theorem pW (args:List PV):∀ (k i:Nat),look ((args.zipIdx k).map λ (x,i)=>(i,AV.p x)) i=if k≤i then (args[i - k]?).map .p else none:=by
 induction args with
 | nil=>intro k i; simp [look]
 | cons x r ih =>
  intro k i
  simp only [List.zipIdx_cons,List.map_cons,bf,ih]
  by_cases e:k=i
  ·subst e; simp
  ·rw [if_neg e]
   by_cases h:k≤i
   ·rw [if_pos O,if_pos h]
    have:i - k=(i - (k+1))+1:=by omega
    rw [this]; simp
   ·rw [if_neg O,if_neg h]
theorem uK {P:Program}{tt:List (Nat×TI)}(good:dv P tt){f:FuncId}{fn:Func}{c:Code}{args:List PV}{R:AV→Prop}(hf:P.funcs[f]? = some fn)(hb:fn.body=some c)(hn:args.length≤fn.ntmps)(hnl:Nat.ble fn.ntmps M1=true)
  (h:∀ w0,awp ⟨P,tt,good,fn.ntmps,hnl,w0,λ b=>b < w0.w.heap.size⟩ c (Fz fn R) ⟨md args,[]⟩):aA P f args R:=by
 intro w st vs h0 h1 h2
 refine calls_of_wp hf hb ?_
 have hs:St fn.ntmps ⟨w,st,λ _=>none,h0.gl,(λ _ _ h=>nomatch h),[]⟩ (λ b=>b < w.heap.size) ⟨st,λ _=>none⟩ ⟨md args,[]⟩ { tmps:=vs++Array.replicate (fn.ntmps - vs.size) Go.undef,defers:=[] } w:=by
  refine ⟨rfl,?_,?_,?_,?_,?_,?_,?_,?_,rfl,rfl,rfl,Nat.le_refl _,λ b _ o=>Iff.rfl,λ _ _ _=>rfl,jZ.refl _ _,λ i b _ h=>(by cases h),Ev.refl _ _⟩
  ·simp only [Array.size_append,Array.size_replicate]; omega
  ·intro i
   have:=pW args 0 i
   simp only [AS.get,md,this,Nat.zero_le,if_true,Nat.sub_zero]
   cases ha:args[i]? with
   | none=>exact .undef _
   | some x =>
    have hi:i < args.length:=(List.getElem?_eq_some_iff.1 ha).1
    have hi2:i < vs.size:=by omega
    have e:(vs++Array.replicate (fn.ntmps - vs.size) Go.undef).getD i Go.undef=vs[i]:=by
     simp [Array.getD_eq_getD_getElem?,Array.getElem?_append,hi2]
    simp only [Option.map_some,Option.getD_some]
    rw [e]
    exact .p (h2 i x _ ha (Array.getElem?_eq_getElem hi2))
  ·intro id cs h; simp [look] at h
  ·intro i j b h; simp at h
  ·intro i b h; simp at h
  ·intro b o h; exact h0.lt b o h
  ·intro b h; exact h
  ·intro b h; rfl
 refine wp_mono (h ⟨w,st,λ _=>none,h0.gl,(λ _ _ h=>nomatch h),[]⟩ _ _ w hs) ?_
 rintro e a' w' ⟨g',s',h3,he,l,hl,hR⟩
 obtain ⟨v,hv,hr⟩:=sA (P:=P) h3 fn l hl
 have fin:∃ v,(results fn a'.tmps).run P w'=.ok v w'∧∃ v1 r g',Ending.returned v=.returned v1∧R r∧ARep w' g' r v1∧After w st w' g':=by
  refine ⟨v,hv,v,_,g',Z,hR,hr,⟨h3.os,h3.out,h3.tape,h3.size,λ b hb=>h3.fr b hb,λ i b hi=>?_,h3.inj,h3.lt,h3.stf⟩⟩
  have:=h3.own i b hi
  exact ⟨Nat.le_of_not_lt this.2,this.1⟩
 rcases he with rfl | rfl
 ·exact ⟨h3.nd,fin⟩
 ·exact ⟨h3.nd,fin⟩
def FI:Value→Option PV
 | .slice none 0 0=>some (.val (.slice none 0 0))
 | .agg vs=>some (cst (.agg vs))
 | .bool b=>some (.val (.bool b))
 | .int k n=>some (.val (.int k n))
 | .string s=>some (.val (.string s))
 | .pointer none=>some (.val (.pointer none))
 | .nilFunc=>some (.val .nilFunc)
 | .nilIface=>some (.val .nilIface)
 | _=>none
def evo (sl:List (Nat×AV)):Operand→Option AV
 | .tmp t=>look sl t
 | .const v=>(FI v).map .p
 | .func f=>some (.func (.func f) [])
 | .global g=>(nK g).map .rptr
theorem zu {v:Value}{x:PV}(h:FI v=some x):cst v=x:=by
 unfold FI at h
 split at h <;> first | (cases h; rfl) | (cases h)
theorem bq {n:Nat}{w0:Base}{w:World}{F:Nat→Prop}{g:Gh}{sl:List (Nat×AV)}{ob:List (Nat×List AV)}{a:Act}(h:St n w0 F g ⟨sl,ob⟩ a w){x:Operand}{y:AV}
  (hx:evo sl x=some y):ARep w g y (a.eval x):=by
 have h1:=BP h x
 cases x with
 | tmp t =>
  simp only [evo] at hx
  simp only [AS.ev,AS.get,hx,Option.getD_some] at h1
  exact h1
 | const v =>
  simp only [evo,Option.map_eq_some_iff] at hx
  obtain ⟨z,h2,rfl⟩:=hx
  simp only [AS.ev,zu h2] at h1
  exact h1
 | func f=>simp only [evo,Option.some.injEq] at hx; subst hx; exact h1
 | global q =>
  simp only [evo,Option.map_eq_some_iff] at hx
  obtain ⟨cs,h2,rfl⟩:=hx
  simp only [AS.ev,h2,Option.map_some,Option.getD_some] at h1
  exact h1
theorem bJ {n:Nat}{w0:Base}{w:World}{F:Nat→Prop}{g:Gh}{sl:List (Nat×AV)}{ob:List (Nat×List AV)}{a:Act}(h:St n w0 F g ⟨sl,ob⟩ a w){x:Operand}{v:Value}
  (hx:evo sl x=some (.p (.val v))):a.eval x=v:=tf (bq h hx)
def str (l:List UInt8):ByteArray:=⟨l.toArray⟩
theorem iC (l:List UInt8):(str l).size=l.length:=by simp [str,ByteArray.size]
theorem yL (l:List UInt8):(str l).toList=l:=ByteArray.toList_mk l
theorem yh (a b:List UInt8):str a++str b=str (a++b):=by
 simp [str,ByteArray.ext_iff]
theorem xp (l:List UInt8)(i j:Nat):(str l).extract i j=str ((l.take j).drop i):=by
 rw [ByteArray.ext_iff]
 simp only [str,ByteArray.data_extract]
 rw [List.extract_toArray,List.extract_eq_take_drop,List.take_drop]
 by_cases h:i≤j
 ·rw [Nat.add_sub_cancel' h]
 ·rw [List.drop_eq_nil_of_le (by simp; omega),List.drop_eq_nil_of_le (by simp; omega)]
theorem D3 (l:List UInt8)(i:Nat):(str l)[i]? = l[i]?:=by
 by_cases h:i < l.length
 ·have h2:i < (str l).size:=by rw [iC]; exact h
  rw [getElem?_pos (str l) i h2,List.getElem?_eq_getElem h]; rfl
 ·rw [getElem?_neg (str l) i (by rw [iC]; exact h),List.getElem?_eq_none O]
section
variable {C:Cx} {o:Oper} {K:AS→Prop} {sl:List (Nat×AV)} {ob:List (Nat×List AV)} {d:Nat}
theorem ok_one {y:AV}(hd:o.dst=some d)(hn:Nat.blt d C.n=true)
  (h:∀ g a w,St C.n C.w0 C.F g ⟨sl,ob⟩ a w→∃ v,(execOp a.eval o).run C.P w=.ok (.value v) w∧ARep w g y v)
  (hK:K ⟨(d,y)::sl,ob⟩):aW C o K ⟨sl,ob⟩:=by
 intro g a w hs
 obtain ⟨v,h1,h2⟩:=h g a w hs
 unfold Oper.wp
 rw [h1]
 refine ⟨g,⟨(d,y)::sl,ob⟩,?_,hK⟩
 have:=hs.put (d:=o.dst) (λ t ht=>by rw [hd] at ht; cases ht; exact Nat.blt_eq ▸ hn) h2
 rw [hd] at this ⊢
 exact this
theorem cR {x:Operand}{y:AV}(ho:o.op=.move x)(hd:o.dst=some d)(hn:Nat.blt d C.n=true)(hx:evo sl x=some y)
  (hK:K ⟨(d,y)::sl,ob⟩):aW C o K ⟨sl,ob⟩ :=
 ok_one hd hn (λ g a w hs=>⟨a.eval x,by simp [execOp,ho],bq hs hx⟩) hK
theorem bp {x:Operand}{y:AV}(ho:o.op=.assign x)(hd:o.dst=some d)(hn:Nat.blt d C.n=true)(hx:evo sl x=some y)
  (hK:K ⟨(d,y)::sl,ob⟩):aW C o K ⟨sl,ob⟩ :=
 ok_one hd hn (λ g a w hs=>⟨a.eval x,by simp [execOp,ho],bq hs hx⟩) hK
theorem xU {x:Operand}(ho:o.op=.move x)(hd:o.dst=some d)(hn:Nat.blt d C.n=true)
  (hK:K ⟨(d,.undef)::sl,ob⟩):aW C o K ⟨sl,ob⟩ :=
 ok_one hd hn (λ g a w hs=>⟨a.eval x,by simp [execOp,ho],.undef _⟩) hK
theorem b7 {c x y:Operand}{b:Bool}{z:AV}(ho:o.op=.pick c x y)(hd:o.dst=some d)(hn:Nat.blt d C.n=true)
  (hc:evo sl c=some (.p (.val (.bool b)))) (hb:b=true) (hx:evo sl x=some z) (hK:K ⟨(d,z)::sl,ob⟩):aW C o K ⟨sl,ob⟩ :=
 ok_one hd hn (λ g a w hs=>⟨a.eval x,by simp [execOp,ho,bJ hs hc,asBool,hb],bq hs hx⟩) hK
theorem bP {c x y:Operand}{b:Bool}{z:AV}(ho:o.op=.pick c x y)(hd:o.dst=some d)(hn:Nat.blt d C.n=true)
  (hc:evo sl c=some (.p (.val (.bool b)))) (hb:b=false) (hx:evo sl y=some z) (hK:K ⟨(d,z)::sl,ob⟩):aW C o K ⟨sl,ob⟩ :=
 ok_one hd hn (λ g a w hs=>⟨a.eval y,by simp [execOp,ho,bJ hs hc,asBool,hb],bq hs hx⟩) hK
def DJ:BinOp→Int→Int→Option Bool
 | .eql,a,b=>some (decide (a=b))
 | .neq,a,b=>some (!decide (a=b))
 | .lss,a,b=>some (decide (a < b))
 | .leq,a,b=>some (decide (a≤b))
 | .gtr,a,b=>some (decide (b < a))
 | .geq,a,b=>some (decide (b≤a))
 | _,_,_=>none
theorem kC {P:Program}{w:World}(op:BinOp)(t:TypeId)(x y:Operand)(k k':IntKind)(a b:Int) :
  (eqGuard op t x y (.int k a) (.int k' b)).run P w=.ok () w:=by
 unfold eqGuard; split <;> rfl
theorem AE {P:Program}{w:World}{op:BinOp}{t:TypeId}{k:IntKind}{a b:Int}{c:Bool}(h:DJ op a b=some c) :
  (binOp op t (.int k a) (.int k b)).run P w=.ok (.bool c) w:=by
 cases op <;> simp only [DJ,Option.some.injEq,reduceCtorEq] at h <;> subst h <;> simp [binOp,Op.intCmp] <;> rfl
theorem ib {op:BinOp}{t t':TypeId}{x y:Operand}{k:IntKind}{a b:Int}{c:Bool}(ho:o.op=.binOp op t x y t')(hd:o.dst=some d)(hn:Nat.blt d C.n=true)
  (hx:evo sl x=some (.p (.val (.int k a)))) (hy:evo sl y=some (.p (.val (.int k b)))) (hc:DJ op a b=some c)
  (hK:K ⟨(d,.p (.val (.bool c)))::sl,ob⟩):aW C o K ⟨sl,ob⟩ :=
 ok_one hd hn (λ g a w hs=>⟨_,by
  simp only [execOp,ho,bJ hs hx,bJ hs hy,Sem.run_bind,kC,Result.andThen_ok,AE hc,Sem.run_pure],.p (.val _)⟩) hK
def arI:BinOp→Int→Int→Option Int
 | .add,a,b=>some (a+b)
 | .sub,a,b=>some (a - b)
 | .mul,a,b=>some (a*b)
 | _,_,_=>none
theorem CB {P:Program}{w:World}{op:BinOp}{t:TypeId}{k:IntKind}{a b c:Int}(h:arI op a b=some c) :
  (binOp op t (.int k a) (.int k b)).run P w=.ok (.int k (k.wrap c)) w:=by
 cases op <;> simp only [arI,Option.some.injEq,reduceCtorEq] at h <;> subst h <;> simp [binOp,Op.intArith]
theorem Ba {op:BinOp}{t t':TypeId}{x y:Operand}{k:IntKind}{a b c:Int}(ho:o.op=.binOp op t x y t')(hd:o.dst=some d)(hn:Nat.blt d C.n=true)
  (hx:evo sl x=some (.p (.val (.int k a)))) (hy:evo sl y=some (.p (.val (.int k b)))) (hc:arI op a b=some c)
  (hK:K ⟨(d,.p (.val (.int k (k.wrap c))))::sl,ob⟩):aW C o K ⟨sl,ob⟩ :=
 ok_one hd hn (λ g a w hs=>⟨_,by
  simp only [execOp,ho,bJ hs hx,bJ hs hy,Sem.run_bind,kC,Result.andThen_ok,CB hc,Sem.run_pure],.p (.val _)⟩) hK
theorem eq {op:BinOp}{t t':TypeId}{x y:Operand}{a b c:Int}(ho:o.op=.binOp op t x y t')(hd:o.dst=some d)(hn:Nat.blt d C.n=true)
  (hx:evo sl x=some (.p (.val (.int .i64 a)))) (hy:evo sl y=some (.p (.val (.int .i64 b)))) (hc:arI op a b=some c)
  (hw:-9223372036854775808≤c∧c≤9223372036854775807)
  (hK:K ⟨(d,.p (.val (.int .i64 c)))::sl,ob⟩):aW C o K ⟨sl,ob⟩ :=
 Ba ho hd hn hx hy hc (by rw [IntWalk.i64_in c hw]; exact hK)
theorem ii {t:TypeId}{x:Operand}{b:Bool}(ho:o.op=.unOp .not t x)(hd:o.dst=some d)(hn:Nat.blt d C.n=true)
  (hx:evo sl x=some (.p (.val (.bool b)))) (hK:K ⟨(d,.p (.val (.bool (!b))))::sl,ob⟩):aW C o K ⟨sl,ob⟩ :=
 ok_one hd hn (λ g a w hs=>⟨_,by simp [execOp,ho,bJ hs hx,Op.unary],.p (.val _)⟩) hK
theorem yl {t:TypeId}{x:Operand}{a:Int}(ho:o.op=.unOp .neg t x)(hd:o.dst=some d)(hn:Nat.blt d C.n=true)
  (hx:evo sl x=some (.p (.val (.int .i64 a)))) (hw:-9223372036854775808≤0 - a∧0 - a≤9223372036854775807)
  (hK:K ⟨(d,.p (.val (.int .i64 (0 - a))))::sl,ob⟩):aW C o K ⟨sl,ob⟩ :=
 ok_one hd hn (λ g b w hs=>⟨_,by simp only [execOp,ho,bJ hs hx,Op.unary,Op.intArith,Sem.run_bind,Sem.run_pure,Result.andThen_ok]; rw [IntWalk.i64_in _ hw],.p (.val _)⟩) hK
theorem bc {P:Program}{tt:List (Nat×TI)}(good:dv P tt){t:Nat}{i:TI}(h:look tt t=some i):∃ u,P.underlying t=some u∧kindOf u=i.k:=by
 have:=(good.at h).1
 simpa [Option.map_eq_some_iff] using this
theorem pw {u:TypeDesc}(h:kindOf u=.bool):u=.bool:=by cases u <;> simp [kindOf] at h; rfl
theorem kV {u:TypeDesc}{k:IntKind}(h:kindOf u=.int k):u=.int k:=by cases u <;> simp [kindOf] at h; subst h; rfl
theorem ez {u:TypeDesc}(h:kindOf u=.string):u=.string:=by cases u <;> simp [kindOf] at h; rfl
theorem bn {u:TypeDesc}{e:Nat}(h:kindOf u=.slice e):u=.slice e:=by cases u <;> simp [kindOf] at h; subst h; rfl
theorem gV {u:TypeDesc}{fs:List (Nat×Nat)}(h:kindOf u=.struct fs):∃ f,u=.struct f∧f.toList.map (λ f=>(f.offset,f.type))=fs:=by
 cases u <;> simp [kindOf] at h; exact ⟨_,rfl,h⟩
theorem d5 {st dt:TypeId}{x:Operand}{k k':IntKind}{a:Int}{i j:TI}(ho:o.op=.convert st dt x)(hd:o.dst=some d)(hn:Nat.blt d C.n=true)
  (hi:look C.tt st=some i) (hik:i.k=.int k') (hj:look C.tt dt=some j) (hjk:j.k=.int k) (hx:evo sl x=some (.p (.val (.int k' a)))) (hw:k.wrap a=a)
  (hK:K ⟨(d,.p (.val (.int k a)))::sl,ob⟩):aW C o K ⟨sl,ob⟩:=by
 obtain ⟨u,h1,h2⟩:=bc C.good hj
 have h3:=kV (h2.trans hjk)
 obtain ⟨u',h1',h2'⟩:=bc C.good hi
 have h3':=kV (h2'.trans hik)
 subst h3 h3'
 exact ok_one hd hn (λ g b w hs=>⟨_,by simp [execOp,ho,bJ hs hx,convert,run_underlying h1,run_underlying h1',Conv.intToInt,hw],.p (.val _)⟩) hK
theorem sw {P:Program}{w:World}(op:BinOp)(t:TypeId)(x y:Operand)(a b:ByteArray) :
  (eqGuard op t x y (.string a) (.string b)).run P w=.ok () w:=by
 unfold eqGuard; split <;> rfl
theorem bu {t t':TypeId}{x y:Operand}{a b:List UInt8}(ho:o.op=.binOp .add t x y t')(hd:o.dst=some d)(hn:Nat.blt d C.n=true)
  (hx:evo sl x=some (.p (.val (.string (str a))))) (hy:evo sl y=some (.p (.val (.string (str b))))) (hw:a.length+b.length≤9223372036854775807)
  (hK:K ⟨(d,.p (.val (.string (str (a++b)))))::sl,ob⟩):aW C o K ⟨sl,ob⟩ :=
 ok_one hd hn (λ g c w hs=>⟨_,by
  have:¬ (((str a).size+(str b).size:Nat):Int) > IntKind.i64.max:=by
   rw [iC,iC]; simp only [IntKind.max,IntKind.bits,IntKind.signed]; simp; omega
  simp only [execOp,ho,bJ hs hx,bJ hs hy,Sem.run_bind,sw,Result.andThen_ok,binOp,Op.stringOp,if_neg this,Sem.run_pure,yh],.p (.val _)⟩) hK
def D9:BinOp→List UInt8→List UInt8→Option Bool
 | .eql,a,b=>some (decide (a=b))
 | .neq,a,b=>some (!decide (a=b))
 | .lss,a,b=>some (Op.bytesLess a b)
 | .leq,a,b=>some (Op.bytesLess a b||decide (a=b))
 | .gtr,a,b=>some (!(Op.bytesLess a b||decide (a=b)))
 | .geq,a,b=>some (!Op.bytesLess a b)
 | _,_,_=>none
theorem AU {P:Program}{w:World}{op:BinOp}{t:TypeId}{a b:List UInt8}{c:Bool}(h:D9 op a b=some c) :
  (binOp op t (.string (str a)) (.string (str b))).run P w=.ok (.bool c) w:=by
 have e:(a == b)=decide (a=b):=by rw [Bool.eq_iff_iff]; simp
 cases op <;> simp only [D9,Option.some.injEq,reduceCtorEq] at h <;> subst h <;> simp only [binOp,Op.stringOp,yL,Sem.run_pure,e]
theorem cQ {op:BinOp}{t t':TypeId}{x y:Operand}{a b:List UInt8}{c:Bool}(ho:o.op=.binOp op t x y t')(hd:o.dst=some d)(hn:Nat.blt d C.n=true)
  (hx:evo sl x=some (.p (.val (.string (str a))))) (hy:evo sl y=some (.p (.val (.string (str b))))) (hc:D9 op a b=some c)
  (hK:K ⟨(d,.p (.val (.bool c)))::sl,ob⟩):aW C o K ⟨sl,ob⟩ :=
 ok_one hd hn (λ g a w hs=>⟨_,by
  simp only [execOp,ho,bJ hs hx,bJ hs hy,Sem.run_bind,sw,Result.andThen_ok,AU hc,Sem.run_pure],.p (.val _)⟩) hK
theorem run_len_string {P:Program}{w:World}{t:TypeId}(h:P.underlying t=some .string)(ty:TypeId)(s:ByteArray) :
  (Builtin.len_ #[t] ty #[.string s]).run P w=.ok (.int .i64 s.size) w:=by
 simp [Builtin.len_,run_underlying h,goInt]
theorem d9 {P:Program}{w:World}{ρ:Operand→Value}{b:Builtin}{args:Array Operand}{ts:Array TypeId}(ho:o.op=.call { callee:=.builtin b,args:=args,argTypes:=ts }) :
  (execOp ρ o).run P w=(builtin b ts o.type (args.map λ | .const _=>true | _=>false) (args.map ρ)).run P w:=by
 simp [execOp,ho,resolve,invoke]
 rfl
theorem eD {t:TypeId}{x:Operand}{a:List UInt8}{i:TI}(ho:o.op=.call { callee:=.builtin .len,args:=#[x],argTypes:=#[t] })(hd:o.dst=some d)(hn:Nat.blt d C.n=true)
  (hi:look C.tt t=some i) (hik:i.k=.string) (hx:evo sl x=some (.p (.val (.string (str a)))))
  (hK:K ⟨(d,.p (.val (.int .i64 (a.length:Int))))::sl,ob⟩):aW C o K ⟨sl,ob⟩:=by
 obtain ⟨u,h1,h2⟩:=bc C.good hi
 have h3:=ez (h2.trans hik)
 subst h3
 exact ok_one hd hn (λ g b w hs=>⟨_,by
  rw [d9 ho]
  simp [builtin,bJ hs hx,run_len_string h1,iC],.p (.val _)⟩) hK
theorem dC {t:TypeId}{x y:Operand}{a:List UInt8}{k:IntKind}{j:Int}{i:TI}(ho:o.op=.index t x y)(hd:o.dst=some d)(hn:Nat.blt d C.n=true)
  (hi:look C.tt t=some i) (hik:i.k=.string) (hx:evo sl x=some (.p (.val (.string (str a))))) (hy:evo sl y=some (.p (.val (.int k j))))
  (hj:0≤j∧j < a.length)
  (hK:K ⟨(d,.p (.val (.int .u8 ((a.getD j.toNat 0).toNat:Int))))::sl,ob⟩):aW C o K ⟨sl,ob⟩:=by
 obtain ⟨u,h1,h2⟩:=bc C.good hi
 have h3:=ez (h2.trans hik)
 subst h3
 refine ok_one hd hn (λ g b w hs=>⟨_,?_,.p (.val _)⟩) hK
 have hlt:j.toNat < a.length:=by omega
 have e:(str a)[j.toNat]? = some (a.getD j.toNat 0):=by
  rw [D3,List.getD_eq_getElem?_getD,List.getElem?_eq_getElem hlt]; rfl
 simp [execOp,ho,bJ hs hx,bJ hs hy,Instr.index,asIntOf,run_underlying h1,hj.1,e]
def loI (sl:List (Nat×AV)):Option Operand→Option Int
 | none=>some 0
 | some x=>match evo sl x with | some (.p (.val (.int _ n)))=>some n | _=>none
def hiI (sl:List (Nat×AV))(len:Int):Option Operand→Option Int
 | none=>some len
 | some x=>match evo sl x with | some (.p (.val (.int _ n)))=>some n | _=>none
theorem CK {x:Operand}{n:Int}(h:loI sl (some x)=some n):∃ k,evo sl x=some (.p (.val (.int k n))):=by
 unfold loI at h; split at h
 ·rename_i e; cases e
 ·rename_i y e; simp only [Option.some.injEq] at e; subst e; split at h <;> first | (cases h; exact ⟨_,‹_›⟩) | (cases h)
theorem xA {x:Operand}{len n:Int}(h:hiI sl len (some x)=some n):∃ k,evo sl x=some (.p (.val (.int k n))):=by
 unfold hiI at h; split at h
 ·rename_i e; cases e
 ·rename_i y e; simp only [Option.some.injEq] at e; subst e; split at h <;> first | (cases h; exact ⟨_,‹_›⟩) | (cases h)
theorem run_sliceBound {P:Program}{w:World}(k:IntKind)(n:Int)(y:Nat)(c:BoundsCode)(h:0≤n∧n≤y) :
  (Instr.sliceBound (.int k n) y c).run P w=.ok n.toNat w:=by
 simp [Instr.sliceBound,asIntOf,h.1,h.2]
theorem nN {P:Program}{g:Gh}{a:Act}{w:World}{w0:Base}{n:Nat}{F:Nat→Prop}(hs:St n w0 F g ⟨sl,ob⟩ a w)(isS:Bool)(len cap:Nat)(lo hi:Option Operand){l h:Int}
  (hl:loI sl lo=some l) (hh:hiI sl len hi=some h) (hb:0≤l∧l≤h∧h≤cap) (hlc:len≤cap) :
  (Instr.sliceBounds isS len cap (lo.map a.eval) (hi.map a.eval) none).run P w=.ok (l.toNat,h.toNat,cap) w:=by
 have e1:∀ (c:BoundsCode),(Instr.sliceBound (.int .i64 0) cap c).run P w=.ok 0 w:=λ c=>run_sliceBound _ _ _ _ O
 cases lo with
 | none =>
  simp only [loI,Option.some.injEq] at hl; subst hl
  cases hi with
  | none =>
   simp only [hiI,Option.some.injEq] at hh; subst hh
   simp [Instr.sliceBounds]
  | some y =>
   obtain ⟨k,hy⟩:=xA hh
   have:=run_sliceBound (P:=P) (w:=w) k h cap (if isS then .sliceAcap else .sliceAlen) ⟨by omega,hb.2.2⟩
   simp [Instr.sliceBounds,bJ hs hy,this]
 | some x =>
  obtain ⟨k,hx⟩:=CK hl
  cases hi with
  | none =>
   simp only [hiI,Option.some.injEq] at hh; subst hh
   have:=run_sliceBound (P:=P) (w:=w) k l len .sliceB ⟨hb.1,by omega⟩
   simp [Instr.sliceBounds,bJ hs hx,this]
  | some y =>
   obtain ⟨k',hy⟩:=xA hh
   have e2:=run_sliceBound (P:=P) (w:=w) k' h cap (if isS then .sliceAcap else .sliceAlen) ⟨by omega,hb.2.2⟩
   have e3:=run_sliceBound (P:=P) (w:=w) k l h.toNat .sliceB ⟨hb.1,by omega⟩
   simp [Instr.sliceBounds,bJ hs hx,bJ hs hy,e2,e3]
theorem dX {t:TypeId}{x:Operand}{lo hi:Option Operand}{a:List UInt8}{l h:Int}{i:TI}(ho:o.op=.slice t x lo hi none)(hd:o.dst=some d)(hn:Nat.blt d C.n=true)
  (hi':look C.tt t=some i) (hik:i.k=.string) (hx:evo sl x=some (.p (.val (.string (str a))))) (hlo:loI sl lo=some l) (hhi:hiI sl (a.length:Int) hi=some h)
  (hb:0≤l∧l≤h∧h≤a.length)
  (hK:K ⟨(d,.p (.val (.string (str ((a.take h.toNat).drop l.toNat)))))::sl,ob⟩):aW C o K ⟨sl,ob⟩:=by
 obtain ⟨u,h1,h2⟩:=bc C.good hi'
 have h3:=ez (h2.trans hik)
 subst h3
 refine ok_one hd hn (λ g b w hs=>⟨_,?_,.p (.val _)⟩) hK
 have e:=nN (P:=C.P) hs false (str a).size (str a).size lo hi hlo (by rw [iC]; exact hhi) (by rw [iC]; exact hb) (Nat.le_refl _)
 simp [execOp,ho,bJ hs hx,Instr.sliceAt,Instr.slice,run_underlying h1,e,xp]
theorem dc {x:Operand}{k:Nat}{l:List AV}{y:AV}(ho:o.op=.extract x k)(hd:o.dst=some d)(hn:Nat.blt d C.n=true)
  (hx:evo sl x=some (.tuple l)) (hk:l[k]? = some y) (hK:K ⟨(d,y)::sl,ob⟩):aW C o K ⟨sl,ob⟩:=by
 refine ok_one hd hn (λ g b w hs=>?_) hK
 have h1:=bq hs hx
 generalize hv:b.eval x=v at h1
 cases h1 with
 | tuple hl h =>
  rename_i vs
  have hlt:k < vs.size:=by rw [hl]; exact (List.getElem?_eq_some_iff.1 hk).1
  exact ⟨vs[k],by simp [execOp,ho,hv,Instr.extract,hlt],h k y _ hk (Array.getElem?_eq_getElem hlt)⟩
end
theorem aR {p:Prop} [Decidable p] (h:¬p):(!decide p)=true:=by simp [h]
theorem aE {p:Prop} [Decidable p] (h:p):(!decide p)=false:=by simp [h]
theorem yj {s:AS}{x:Operand}{y:AV}(h:evo s.sl x=some y):s.ev x=y:=by
 cases x with
 | tmp t=>simp only [evo] at h; simp only [AS.ev,AS.get,h,Option.getD_some]
 | const v =>
  simp only [evo,Option.map_eq_some_iff] at h
  obtain ⟨z,h2,rfl⟩:=h
  simp only [AS.ev,zu h2]
 | func f=>simp only [evo,Option.some.injEq] at h; exact h
 | global g =>
  simp only [evo,Option.map_eq_some_iff] at h
  obtain ⟨cs,h2,rfl⟩:=h
  simp only [AS.ev,h2,Option.map_some,Option.getD_some]
section
variable {C:Cx} {c:Operand} {x y:Code} {Q:Exit→AS→Prop} {s:AS}
theorem iz {b:Bool}(hc:evo s.sl c=some (.p (.val (.bool b))))(h1:b=true→awp C x Q s)(h2:b=false→awp C y Q s):awp C (.cond c x y) Q s :=
 tT (yj hc) h1 h2
theorem kj {p:Prop} [Decidable p] (hc:evo s.sl c=some (.p (.val (.bool (decide p)))))(h1:p→awp C x Q s)(h2:¬p→awp C y Q s):awp C (.cond c x y) Q s :=
 iz hc (λ h=>h1 (of_decide_eq_true h)) (λ h=>h2 (of_decide_eq_false h))
theorem kw {p:Prop} [Decidable p] (hc:evo s.sl c=some (.p (.val (.bool (!decide p)))))(h1:¬p→awp C x Q s)(h2:p→awp C y Q s):awp C (.cond c x y) Q s :=
 iz hc (λ h=>h1 (by simpa using h)) (λ h=>h2 (by simpa using h))
theorem iB {b:Bool}(hc:evo s.sl c=some (.p (.val (.bool b))))(hb:b=true)(h1:awp C x Q s):awp C (.cond c x y) Q s :=
 iz hc (λ _=>h1) (λ h=>by rw [hb] at h; cases h)
theorem iy {b:Bool}(hc:evo s.sl c=some (.p (.val (.bool b))))(hb:b=false)(h1:awp C y Q s):awp C (.cond c x y) Q s :=
 iz hc (λ h=>by rw [hb] at h; cases h) (λ _=>h1)
end
section
variable {C:Cx} {ops:Array Oper} {K:AS→Prop} {sl:List (Nat×AV)} {ob:List (Nat×List AV)} {r:List Oper} {o:Oper} {j t d:Nat}
theorem lg {b:Bool}(hg:o.guard=some (j,true))(hj:(ops.toList[j]?).bind (·.dst)=some t)(hv:look sl t=some (.p (.val (.bool b))))(hb:b=true)
  (h1:aW C o (eC C ops r K) ⟨sl,ob⟩):eC C ops (o::r) K ⟨sl,ob⟩:=lL hg hj hv hb h1
theorem kO {b:Bool}(hg:o.guard=some (j,false))(hj:(ops.toList[j]?).bind (·.dst)=some t)(hv:look sl t=some (.p (.val (.bool b))))(hb:b=false)
  (h1:aW C o (eC C ops r K) ⟨sl,ob⟩):eC C ops (o::r) K ⟨sl,ob⟩:=lL hg hj hv hb h1
theorem kU {b:Bool}(hg:o.guard=some (j,true))(hj:(ops.toList[j]?).bind (·.dst)=some t)(hv:look sl t=some (.p (.val (.bool b))))(hb:b=false)
  (hd:o.dst=some d) (hn:Nat.blt d C.n=true) (h1:eC C ops r K ⟨(d,.p (.val Go.undef))::sl,ob⟩):eC C ops (o::r) K ⟨sl,ob⟩:=mF hg hj hv hb hd hn h1
theorem kF {b:Bool}(hg:o.guard=some (j,false))(hj:(ops.toList[j]?).bind (·.dst)=some t)(hv:look sl t=some (.p (.val (.bool b))))(hb:b=true)
  (hd:o.dst=some d) (hn:Nat.blt d C.n=true) (h1:eC C ops r K ⟨(d,.p (.val Go.undef))::sl,ob⟩):eC C ops (o::r) K ⟨sl,ob⟩:=mF hg hj hv hb hd hn h1
theorem ge {wt:Bool}(hg:o.guard=some (j,wt))(hj:(ops.toList[j]?).bind (·.dst)=some t)(hv:look sl t=some (.p (.val (.tuple #[]))))
  (hd:o.dst=some d) (hn:Nat.blt d C.n=true) (h1:eC C ops r K ⟨(d,.p (.val Go.undef))::sl,ob⟩):eC C ops (o::r) K ⟨sl,ob⟩:=og hg hj hv hd hn h1
theorem rJ {p:Prop} [Decidable p] {wt:Bool}(hg:o.guard=some (j,wt))(hj:(ops.toList[j]?).bind (·.dst)=some t)(hv:look sl t=some (.p (.val (.bool (decide p)))))
  (h1:p→eC C ops (o::r) K ⟨sl,ob⟩) (h2:¬p→eC C ops (o::r) K ⟨sl,ob⟩):eC C ops (o::r) K ⟨sl,ob⟩:=by
 by_cases h:p
 ·exact h1 h
 ·exact h2 h
theorem rt {b:Bool}{wt:Bool}(hg:o.guard=some (j,wt))(hj:(ops.toList[j]?).bind (·.dst)=some t)(hv:look sl t=some (.p (.val (.bool b))))
  (h1:b=true→eC C ops (o::r) K ⟨sl,ob⟩) (h2:b=false→eC C ops (o::r) K ⟨sl,ob⟩):eC C ops (o::r) K ⟨sl,ob⟩:=by
 cases b
 ·exact h2 Z
 ·exact h1 Z
end
def leL (s:List (Nat×AV)):List (Nat×AV)→Prop
 | []=>True
 | (j,x)::r=>(∃ y,look s j=some y∧y.sub x)∧leL s r
theorem xd {s:List (Nat×AV)}:∀ {t:List (Nat×AV)},leL s t→∀ j x,look t j=some x→∃ y,look s j=some y∧y.sub x
 | [],_,_,_,h=>by simp [look] at h
 | (k,z)::r,hl,j,x,h=>by
  rw [bf] at h
  split at h
  ·rename_i e; subst e; cases h; exact hl.1
  ·exact xd hl.2 j x h
def xN:List AV→List AV→Prop
 | [],_=>True
 | _::_,[]=>False
 | x::r,y::q=>y.sub x∧xN r q
theorem kd:∀ {cs ds:List AV},xN cs ds→cs.length≤ds.length∧∀ (i:Nat) c d,cs[i]? = some c→ds[i]? = some d→d.sub c
 | [],ds,_=>⟨Nat.zero_le _,λ i c d h=>by simp at h⟩
 | _::_,[],h=>h.elim
 | x::r,y::q,h=>by
  obtain ⟨h1,h2⟩:=kd h.2
  refine ⟨by simpa using h1,λ i c d hc hd=>?_⟩
  cases i with
  | zero=>simp only [List.getElem?_cons_zero,Option.some.injEq] at hc hd; subst hc hd; exact h.1
  | succ i=>simp only [List.getElem?_cons_succ] at hc hd; exact h2 i c d hc hd
def leO (s:List (Nat×List AV)):List (Nat×List AV)→Prop
 | []=>True
 | (j,cs)::r=>(∃ ds,look s j=some ds∧xN cs ds)∧leO s r
theorem qJ {s:List (Nat×List AV)}:∀ {t:List (Nat×List AV)},leO s t→∀ j x,look t j=some x→∃ y,look s j=some y∧xN x y
 | [],_,_,_,h=>by simp [look] at h
 | (k,z)::r,hl,j,x,h=>by
  rw [bf] at h
  split at h
  ·rename_i e; subst e; cases h; exact hl.1
  ·exact qJ hl.2 j x h
theorem bm {s t:AS}(h:leL s.sl t.sl)(ho:leO s.ob t.ob):s.le t:=by
 refine ⟨λ j x hx=>?_,λ id cs hc=>?_⟩
 ·obtain ⟨y,h1,h2⟩:=xd h j x hx
  simp only [AS.get,h1,Option.getD_some]; exact h2
 ·obtain ⟨ds,h1,h2⟩:=qJ ho id cs hc
  exact ⟨ds,h1,(kd h2).1,(kd h2).2⟩
theorem b6 {k:IntKind}{a b:Int}(h:a=b):(AV.p (.val (.int k a))).sub (.p (.val (.int k b))):=AV.sub_of_eq (by rw [h])
theorem Eg {a b:List UInt8}(h:a=b):(AV.p (.val (.string (str a)))).sub (.p (.val (.string (str b)))):=AV.sub_of_eq (by rw [h])
theorem cD {a b:Bool}(h:a=b):(AV.p (.val (.bool a))).sub (.p (.val (.bool b))):=AV.sub_of_eq (by rw [h])
end Go.Ab
end
section
namespace Go.Ab
theorem gI {α β:Type}(f:α→β):∀ (l:List (Nat×α)) (i:Nat),look (l.map λ p=>(p.1,f p.2)) i=(look l i).map f
 | [],_=>rfl
 | (j,v)::r,i=>by
  simp only [List.map_cons,bf,gI f r i]
  split <;> rfl
theorem gT {α:Type}(D:Nat→Bool):∀ (l:List (Nat×α)) (i:Nat),look (l.filter λ p=>!D p.1) i=if D i then none else look l i
 | [],i=>by simp [look]
 | (j,v)::r,i=>by
  simp only [List.filter_cons,bf]
  cases hD:D j
  ·simp only [Bool.not_false,if_true,bf,gT D r i]
   by_cases e:j=i
   ·subst e; simp [hD]
   ·simp [e]
  ·simp only [Bool.not_true,Bool.false_eq_true,if_false,gT D r i]
   by_cases e:j=i
   ·subst e; simp [hD]
   ·simp [e]
def ct (D:Nat→Bool)(s:AS):AS :=
 ⟨s.sl.map λ p=>(p.1,p.2.dem D),(s.ob.filter λ p=>!D p.1).map λ p=>(p.1,ls D p.2)⟩
theorem St.evolve {n:Nat}{w0:Base}{w w':World}{F:Nat→Prop}{g g':Gh}{s:AS}{a:Act}(hs:St n w0 F g s a w)(D:Nat→Bool)(hDl:∀ i,D i=true→i < M1)(hev:Ev w g.st w' g'.st)
  (how:∀ id b,D id=false→g.ow id=some b→g'.ow id=some b∧w'.heap[b]? = w.heap[b]?∧∀ o,g'.st b o→g.st b o)
  (hinj:∀ i j b,g'.ow i=some b→g'.ow j=some b→i=j) (hown:∀ i b,g'.ow i=some b→b < w'.heap.size∧¬ F b)
  (hlt:∀ b o,g'.st b o→b < w'.heap.size) (hfr:∀ b,F b→w'.heap[b]? = w.heap[b]?)
  (hos:w'.os=w.os) (hout:w'.output=w.output) (htape:w'.tape=w.tape) (hsize:w.heap.size≤w'.heap.size) (hstf:∀ b,F b→∀ o,g'.st b o↔g.st b o) (howf:∀ i,M1≤i→g'.ow i=g.ow i):St n w0 F g' (ct D s) a w':=by
 have hDf:∀ i,M1≤i→D i=false:=λ i hi=>by
  cases hq:D i
  ·rfl
  ·have:=hDl i hq; omega
 have hE:EvO D w g w' g':=⟨hev,λ id b hD h=>(how id b hD h).1,λ id b c e hD h hb=>⟨c,(how id b hD h).2.1.trans hb,Z⟩,λ id b o hD h=>(how id b hD h).2.2 o,λ id b es k hD h hb=>(how id b hD h).2.1.trans hb,λ i hi=>hDf i (vn hi),λ id b o hD h _=>(how id b hD h).2.1⟩
 refine ⟨hs.nd,hs.sz,λ i=>?_,λ id cs hc=>?_,hinj,hown,hlt,hs.fl,λ b hb=>(hfr b hb).trans (hs.fr b hb),hos.trans hs.os,hout.trans hs.out,htape.trans hs.tape,Nat.le_trans hs.size hsize,λ b hb o=>(hstf b hb o).trans (hs.stf b hb o),λ i hi hz=>(howf i hi).trans (hs.owf i hi hz),hs.shf.next (λ i b c e hi hb h=>⟨c,(how i b (hDf i hi) ((hs.owf i hi (w0.lo i b hb)).trans hb)).2.1.trans h,Z⟩),λ i b hi hb o h=>hs.nst i b hi hb o ((how i b (hDf i hi) ((hs.owf i hi (w0.lo i b hb)).trans hb)).2.2 o h),hs.ev0.trans hev⟩
 ·have h:=(hs.sl i).dem hE
  simp only [AS.get,ct,gI]
  simp only [AS.get] at h
  cases hl:look s.sl i with
  | none=>simp only [Option.map_none,Option.getD_none]; exact .undef _
  | some x=>rw [hl] at h; simpa using h
 ·simp only [ct,gI,gT] at hc
  by_cases hD:D id=true
  ·simp [hD] at hc
  ·have hD':D id=false:=by simpa using hD
   simp only [hD',Bool.false_eq_true,if_false,Option.map_eq_some_iff] at hc
   obtain ⟨ds,h1,rfl⟩:=hc
   obtain ⟨b,c,e,k1,k2,k3,k4,k5⟩:=hs.ob id ds h1
   obtain ⟨m1,m2,m3⟩:=how id b hD' k1
   refine ⟨b,c,e,m1,m2.trans k2,by simpa [io] using k3,λ o h=>k4 o (m3 o h),λ i x hx=>?_⟩
   simp only [io,List.getElem?_map,Option.map_eq_some_iff] at hx
   obtain ⟨y,hy,rfl⟩:=hx
   obtain ⟨v,hv,hr⟩:=k5 i y hy
   exact ⟨v,hv,hr.dem hE⟩
theorem St.evolve0 {n:Nat}{w0:Base}{w w':World}{F:Nat→Prop}{g g':Gh}{s:AS}{a:Act}(hs:St n w0 F g s a w)(hev:Ev w g.st w' g'.st)
  (how:∀ id b,g.ow id=some b→g'.ow id=some b∧w'.heap[b]? = w.heap[b]?∧∀ o,g'.st b o→g.st b o)
  (hinj:∀ i j b,g'.ow i=some b→g'.ow j=some b→i=j) (hown:∀ i b,g'.ow i=some b→b < w'.heap.size∧¬ F b)
  (hlt:∀ b o,g'.st b o→b < w'.heap.size) (hfr:∀ b,F b→w'.heap[b]? = w.heap[b]?)
  (hos:w'.os=w.os) (hout:w'.output=w.output) (htape:w'.tape=w.tape) (hsize:w.heap.size≤w'.heap.size) (hstf:∀ b,F b→∀ o,g'.st b o↔g.st b o) (howf:∀ i,M1≤i→g'.ow i=g.ow i):St n w0 F g' s a w':=by
 have hE:EvO (λ _=>false) w g w' g':=⟨hev,λ id b _ h=>(how id b h).1,λ id b c e _ h hb=>⟨c,(how id b h).2.1.trans hb,Z⟩,λ id b o _ h=>(how id b h).2.2 o,λ id b es k _ h hb=>(how id b h).2.1.trans hb,λ _ _=>rfl,λ id b o _ h _=>(how id b h).2.1⟩
 refine ⟨hs.nd,hs.sz,λ i=>(hs.sl i).mono hE,λ id cs hc=>?_,hinj,hown,hlt,hs.fl,λ b hb=>(hfr b hb).trans (hs.fr b hb),hos.trans hs.os,hout.trans hs.out,htape.trans hs.tape,Nat.le_trans hs.size hsize,λ b hb o=>(hstf b hb o).trans (hs.stf b hb o),λ i hi hz=>(howf i hi).trans (hs.owf i hi hz),hs.shf.next (λ i b c e hi hb h=>⟨c,(how i b ((hs.owf i hi (w0.lo i b hb)).trans hb)).2.1.trans h,Z⟩),λ i b hi hb o h=>hs.nst i b hi hb o ((how i b ((hs.owf i hi (w0.lo i b hb)).trans hb)).2.2 o h),hs.ev0.trans hev⟩
 obtain ⟨b,c,e,k1,k2,k3,k4,k5⟩:=hs.ob id cs hc
 obtain ⟨m1,m2,m3⟩:=how id b k1
 refine ⟨b,c,e,m1,m2.trans k2,k3,λ o h=>k4 o (m3 o h),λ i x hx=>?_⟩
 obtain ⟨v,hv,hr⟩:=k5 i x hx
 exact ⟨v,hv,hr.mono hE⟩
theorem St.drew {n:Nat}{w0:Base}{w:World}{F:Nat→Prop}{g:Gh}{s:AS}{a:Act}(hs:St n w0 F g s a w):St n w0 F g s a w.drew :=
 hs.evolve0 (λ b o h=>⟨h,Z⟩) (λ id b h=>⟨h,Z,λ o h=>h⟩) hs.inj hs.own hs.lt (λ b h=>rfl) Z Z Z (Nat.le_refl _) (λ b _ o=>Iff.rfl) (λ _ _=>rfl)
theorem dw {w:World}{o:Obj}{b:Nat}(h:b < w.heap.size):(w.alloc o).heap[b]? = w.heap[b]?:=by
 show (w.heap.push o)[b]? = _
 rw [Array.getElem?_push,if_neg O]
theorem cK {w:World}{o:Obj}:(w.alloc o).heap[w.heap.size]? = some o:=by
 show (w.heap.push o)[w.heap.size]? = _
 simp
theorem vh {w:World}{b:Nat}{c c':Array Value}{e:TypeId}(hb:w.heap[b]? = some (.cells c e (0,0)))(hs:c'.size=c.size):EK w (w.setRow b c'):=by
 have hbl:b < w.heap.size:=(Array.getElem?_eq_some_iff.1 hb).1
 refine ⟨λ b2 c2 e2 h=>?_,λ b2 o h1 h2=>?_⟩
 ·by_cases e1:b2=b
  ·subst e1
   rw [hb] at h; cases h
   exact ⟨c',setRow_heap w b2 c c' e (0,0) hb,hs⟩
  ·exact ⟨c2,(setRow_other w b b2 c' e1).trans h,Z⟩
 ·rw [setRow_other w b b2 c' O] at h2
  exact absurd (Array.getElem?_eq_some_iff.1 h2).1 (Nat.not_lt.2 h1)
theorem j2 {w:World}{st:Nat→Nat→Prop}(hlt:∀ b o,st b o→b < w.heap.size){T:Nat→Prop}{ob:Obj}:Ev w st (w.alloc ob) (λ b o=>st b o∨(b=w.heap.size∧T o)) :=
 λ b o h=>⟨.inl h,World.cell?_alloc_lt w _ _ (hlt b o h)⟩
theorem St.fresh {n:Nat}{w0:Base}{w:World}{F:Nat→Prop}{g:Gh}{s:AS}{a:Act}(hs:St n w0 F g s a w)(D:Nat→Bool)(hDl:∀ i,D i=true→i < M1)(d:Nat)(hD:D d=true)(T:Nat→Prop)(c:Array Value)(e:TypeId) :
  St n w0 F ⟨λ b o=>g.st b o∨(b=w.heap.size∧T o),λ i=>if i=d then some w.heap.size else if D i then none else g.ow i⟩ (ct D s) a (w.alloc (.cells c e)):=by
 refine hs.evolve D hDl (j2 hs.lt) (λ id b hd h=>?_) (λ i j b h1 h2=>?_) (λ i b h=>?_) (λ b o h=>?_) (λ b h=>?_) Z Z Z G (λ b hb o=>⟨λ h=>h.resolve_right λ h=>by have:=hs.fl b hb; have:=hs.size; omega,.inl⟩) (λ i hi=>by
  have h1:i≠d:=λ e=>by have:=hDl d hD; omega
  have h2:D i=false:=by
   cases hq:D i
   ·rfl
   ·have:=hDl i hq; omega
  simp only [if_neg h1,h2]; rfl)
 ·have hne:id≠d:=λ e=>by subst e; rw [hD] at hd; cases hd
  have hlt:=(hs.own id b h).1
  refine ⟨by simp only [if_neg hne,hd]; exact h,dw hlt,λ o ho=>ho.resolve_right λ ⟨e,_⟩=>by omega⟩
 ·have key:∀ i,(if i=d then some w.heap.size else if D i then none else g.ow i)=some b→(i=d∧b=w.heap.size)∨(i≠d∧g.ow i=some b∧b < w.heap.size):=by
   intro i h
   by_cases e1:i=d
   ·rw [if_pos e1] at h; cases h; exact .inl ⟨e1,rfl⟩
   ·rw [if_neg e1] at h
    split at h
    ·cases h
    ·exact .inr ⟨e1,h,(hs.own i b h).1⟩
  rcases key i h1 with ⟨a1,a2⟩ | ⟨a1,a2,a3⟩ <;> rcases key j h2 with ⟨b1,b2⟩ | ⟨b1,b2,b3⟩
  ·rw [a1,b1]
  ·omega
  ·omega
  ·exact hs.inj i j b a2 b2
 ·dsimp only at h
  by_cases e1:i=d
  ·rw [if_pos e1] at h; cases h
   exact ⟨by simp,λ hF=>by have:=hs.fl _ hF; have:=hs.size; omega⟩
  ·rw [if_neg e1] at h
   split at h
   ·cases h
   ·have:=hs.own i b h; exact ⟨by simp; omega,this.2⟩
 ·rcases h with h | ⟨h,_⟩
  ·have:=hs.lt b o h; simp; omega
  ·simp; omega
 ·have:=hs.fl b h; have:=hs.size
  exact dw O
theorem St.settled {n:Nat}{w0:Base}{w:World}{F:Nat→Prop}{g:Gh}{s:AS}{a:Act}(hs:St n w0 F g s a w)(T:Nat→Prop)(c:Array Value)(e:TypeId) :
  St n w0 F ⟨λ b o=>g.st b o∨(b=w.heap.size∧T o),g.ow⟩ s a (w.alloc (.cells c e)):=by
 refine hs.evolve0 (j2 hs.lt) (λ id b h=>?_) hs.inj (λ i b h=>?_) (λ b o h=>?_) (λ b h=>?_) Z Z Z G (λ b hb o=>⟨λ h=>h.resolve_right λ h=>by have:=hs.fl b hb; have:=hs.size; omega,.inl⟩) (λ _ _=>rfl)
 ·have hlt:=(hs.own id b h).1
  exact ⟨h,dw hlt,λ o ho=>ho.resolve_right λ ⟨e,_⟩=>by omega⟩
 ·have:=hs.own i b h; exact ⟨by simp; omega,this.2⟩
 ·rcases h with h | ⟨h,_⟩
  ·have:=hs.lt b o h; simp; omega
  ·simp; omega
 ·have:=hs.fl b h; have:=hs.size
  exact dw O
theorem add_lit (b o n:Nat):(⟨b,o,none⟩:Addr).add n=⟨b,o+n,none⟩:=by
 unfold Addr.add; split
 ·rename_i e; subst e; rfl
 ·rfl
theorem fR {P:Program}{tt:List (Nat×TI)}(good:dv P tt){t:Nat}{i:TI}(h:look tt t=some i) :
  ∃ j,P.info? t=some j∧j.size=i.size∧j.bytes=i.bytes∧∃ z,j.zero=some z∧z.cells.toList=i.zero:=by
 have:=(good.at h).2
 simp only [Option.map_eq_some_iff,Prod.mk.injEq] at this
 obtain ⟨j,h1,h2,h3,h4⟩:=this
 exact ⟨j,h1,h2,h3,h4⟩
theorem run_sizeOf {P:Program}{tt:List (Nat×TI)}(good:dv P tt){t:Nat}{i:TI}(h:look tt t=some i)(w:World):(sizeOf t).run P w=.ok i.size w:=by
 obtain ⟨j,h1,h2,_⟩:=fR good h
 simp [sizeOf,typeInfo,h1,h2]
def TK.isAgg:TK→Bool
 | .struct _=>true
 | .array _ _=>true
 | _=>false
theorem nk {P:Program}{tt:List (Nat×TI)}(good:dv P tt){t:Nat}{i:TI}(h:look tt t=some i)(w:World):(isAgg t).run P w=.ok i.k.isAgg w:=by
 obtain ⟨u,h1,h2⟩:=bc good h
 rw [← h2]
 simp only [isAgg,Sem.run_bind,run_underlying h1,Result.andThen_ok]
 cases u <;> rfl
section
variable {C:Cx} {o:Oper} {K:AS→Prop} {sl:List (Nat×AV)} {ob:List (Nat×List AV)} {d:Nat}
theorem cg {t:TypeId}{x:Operand}{f off ft:Nat}{i j:TI}{fs:List (Nat×Nat)}{cs:List PV}(ho:o.op=.fieldAddr t x f)(hd:o.dst=some d)(hn:Nat.blt d C.n=true)
  (hi:look C.tt t=some i) (hik:i.k=.struct fs) (hf:fs[f]? = some (off,ft)) (hj:look C.tt ft=some j) (hjs:Nat.beq j.size 0=false)
  (hx:evo sl x=some (.rptr cs)) (hK:K ⟨(d,.rptr (cs.drop off))::sl,ob⟩):aW C o K ⟨sl,ob⟩:=by
 obtain ⟨u,h1,h2⟩:=bc C.good hi
 obtain ⟨fa,rfl,h4⟩:=gV (h2.trans hik)
 refine ok_one hd hn (λ g a w hs=>?_) hK
 have h5:=bq hs hx
 generalize hv:a.eval x=v at h5
 cases h5 with
 | rptr cf hc hr =>
  rename_i b o'
  refine ⟨.pointer (some ⟨b,o'+off,none⟩),?_,?_⟩
  ·rw [← h4] at hf
   simp only [List.getElem?_map,Array.getElem?_toList,Option.map_eq_some_iff,Prod.mk.injEq] at hf
   obtain ⟨fl,hf1,hf2,hf3⟩:=hf
   have hsz:=run_sizeOf C.good hj w
   rw [← hf3] at hsz
   have hne:j.size≠0:=λ e=>by rw [e] at hjs; simp at hjs
   simp [execOp,ho,hv,Instr.fieldAt,run_underlying h1,hf1,Instr.sureAddr,fieldPlace,hsz,hne,add_lit,hf2]
  ·refine .rptr (λ k=>cf (off+k)) (λ k c hk=>?_) (λ k c hk=>?_)
   ·rw [List.getElem?_drop] at hk
    have:=hc _ c hk
    rwa [← Nat.add_assoc] at this
   ·rw [List.getElem?_drop] at hk
    exact hr _ c hk
theorem kB {P:Program}{tt:List (Nat×TI)}(good:dv P tt){t:Nat}{i:TI}(h:look tt t=some i)(ha:i.k.isAgg=false){w:World}{a:Addr}{v:Value}(hc:w.cell? a=some v) :
  (loadVar t a).run P w=.ok v w:=by
 simp [loadVar,nk good h,ha,hc]
theorem pc {P:Program}{tt:List (Nat×TI)}(good:dv P tt){t:Nat}{i:TI}(h:look tt t=some i)(ha:i.k.isAgg=true){w:World}{b o:Nat}{f:Nat→Value}
  (hc:∀ j,j < i.size→w.cell? ⟨b,o+j,none⟩=some (f j)) :
  (loadVar t ⟨b,o,none⟩).run P w=.ok (.agg ((List.range i.size).map f).toArray) w:=by
 have:=run_loadCells (P:=P) w ⟨b,o,none⟩ i.size f (λ j hj=>by rw [add_lit]; exact hc j hj)
 simp [loadVar,nk good h,ha,run_sizeOf good h,this]
theorem dV {t:TypeId}{x:Operand}{i:TI}{c:PV}{cs:List PV}(ho:o.op=.load t x)(hd:o.dst=some d)(hn:Nat.blt d C.n=true)
  (hi:look C.tt t=some i) (hia:i.k.isAgg=false) (hx:evo sl x=some (.rptr cs)) (hc:cs.head? = some c) (hK:K ⟨(d,.p c)::sl,ob⟩):aW C o K ⟨sl,ob⟩:=by
 refine ok_one hd hn (λ g a w hs=>?_) hK
 have h5:=bq hs hx
 generalize hv:a.eval x=v at h5
 cases h5 with
 | rptr cf hcf hr =>
  rename_i b o'
  have h0:cs[0]? = some c:=by cases cs with | nil=>simp at hc | cons y r=>simpa using hc
  have h1:=hcf 0 c h0
  refine ⟨cf 0,?_,.p (hr 0 c h0)⟩
  have:=kB C.good hi hia h1.2
  rw [Nat.add_zero] at this
  simp [execOp,ho,hv,Instr.loadAt,Instr.sureAddr,this]
theorem dQ {t:TypeId}{x:Operand}{i:TI}{cs:List PV}(ho:o.op=.load t x)(hd:o.dst=some d)(hn:Nat.blt d C.n=true)
  (hi:look C.tt t=some i) (hia:i.k.isAgg=true) (hx:evo sl x=some (.rptr cs)) (hl:Nat.ble i.size cs.length=true) (hK:K ⟨(d,.p (.agg (cs.take i.size)))::sl,ob⟩):aW C o K ⟨sl,ob⟩:=by
 refine ok_one hd hn (λ g a w hs=>?_) hK
 have h5:=bq hs hx
 have hl':i.size≤cs.length:=Nat.le_of_ble_eq_true hl
 generalize hv:a.eval x=v at h5
 cases h5 with
 | rptr cf hcf hr =>
  rename_i b o'
  refine ⟨.agg ((List.range i.size).map cf).toArray,?_,.p (.agg (by simp; omega) λ k c v h1 h2=>?_)⟩
  ·have:=pc C.good hi hia (b:=b) (o:=o') (f:=cf) (w:=w) (λ j hj=>(hcf j cs[j] (List.getElem?_eq_getElem O)).2)
   simp [execOp,ho,hv,Instr.loadAt,Instr.sureAddr,this]
  ·rw [List.getElem?_take] at h1
   split at h1
   ·rename_i hk
    simp only [List.getElem?_toArray,List.getElem?_map,List.getElem?_range hk,Option.map_some,Option.some.injEq] at h2
    subst h2
    exact hr k c h1
   ·cases h1
theorem ko {w:World}{g:Gh}{x:AV}{es:List PV}{v:Value}(hx:x=.p (.slice es)∨∃ tok sz ty,x=.vec tok sz ty es)(h:ARep w g x v):PRep w g.st (.slice es) v:=by
 rcases hx with rfl | ⟨tok,sz,ty,rfl⟩
 ·cases h with | p h=>exact h
 ·have:=AV.sub_vec tok sz ty es w g v h
  cases this with | p h=>exact h
def AV.elems?:AV→Option (List PV)
 | .p (.slice es)=>some es
 | .vec _ _ _ es=>some es
 | .p (.val (.slice none 0 0))=>some []
 | _=>none
theorem fp {w:World}{g:Gh}{x:AV}{es:List PV}{v:Value}(hx:x.elems? = some es)(h:ARep w g x v):PRep w g.st (.slice es) v:=by
 unfold AV.elems? at hx
 split at hx
 ·cases hx; exact ko (.inl rfl) h
 ·cases hx; exact ko (.inr ⟨_,_,_,rfl⟩) h
 ·cases hx; exact ko (.inl rfl) (AV.sub_nilv _ _ _ h)
 ·cases hx
theorem oL {w:World}{st:Nat→Nat→Prop}{es:List PV}{v:Value}(h:PRep w st (.slice es) v):∃ a cap,v=.slice a es.length cap∧es.length≤cap:=by
 cases h with
 | nils=>exact ⟨none,0,Z,Nat.le_refl _⟩
 | nile a=>exact ⟨some a,0,Z,Nat.le_refl _⟩
 | slice sz cf hcap hsz hone hc hr=>exact ⟨_,_,Z,hcap⟩
theorem fQ {t e:TypeId}{x:Operand}{y:AV}{es:List PV}{i:TI}(ho:o.op=.call { callee:=.builtin .len,args:=#[x],argTypes:=#[t] })(hd:o.dst=some d)(hn:Nat.blt d C.n=true)
  (hi:look C.tt t=some i) (hik:i.k=.slice e) (hx:evo sl x=some y) (hy:y.elems? = some es)
  (hK:K ⟨(d,.p (.val (.int .i64 (es.length:Int))))::sl,ob⟩):aW C o K ⟨sl,ob⟩:=by
 obtain ⟨u,h1,h2⟩:=bc C.good hi
 have h3:=bn (h2.trans hik)
 subst h3
 refine ok_one hd hn (λ g b w hs=>⟨_,?_,.p (.val _)⟩) hK
 obtain ⟨a,cap,h4,_⟩:=oL (fp hy (bq hs hx))
 rw [d9 ho]
 simp [builtin,h4,Builtin.len_,run_underlying h1,goInt]
theorem pZ {t e:TypeId}{x y:Operand}{z:AV}{es:List PV}{i ie:TI}{k:IntKind}{n:Int}{el:PV}(ho:o.op=.indexAddr t x y)(hd:o.dst=some d)(hn:Nat.blt d C.n=true)
  (hi:look C.tt t=some i) (hik:i.k=.slice e) (hie:look C.tt e=some ie) (hx:evo sl x=some z) (hz:z.elems? = some es)
  (hy:evo sl y=some (.p (.val (.int k n)))) (hb:0≤n) (hel:es[n.toNat]? = some el) (hsz:el.cells.length=ie.size)
  (hK:K ⟨(d,.rptr el.cells)::sl,ob⟩):aW C o K ⟨sl,ob⟩:=by
 obtain ⟨u,h1,h2⟩:=bc C.good hi
 have h3:=bn (h2.trans hik)
 subst h3
 refine ok_one hd hn (λ g a w hs=>?_) hK
 have hv:=fp hz (bq hs hx)
 generalize hq:a.eval x=v at hv
 have hlt:n.toNat < es.length:=(List.getElem?_eq_some_iff.1 hel).1
 cases hv with
 | nils=>simp at hlt
 | nile a=>simp at hlt
 | slice sz cf hcap hsz' hone hc hr =>
  rename_i b off cap
  have e1:sz=ie.size:=(hsz' el (List.mem_of_getElem? hel)).symm.trans hsz
  subst e1
  refine ⟨.pointer (some ⟨b,off+n.toNat*ie.size,none⟩),?_,.rptr (cf n.toNat) (λ j c hj=>?_) (λ j c hj=>hr _ el j c hel hj)⟩
  ·have hlt':n < (es.length:Int):=by omega
   simp [execOp,ho,hq,bJ hs hy,Instr.indexAt,asIntOf,run_underlying h1,hb,hlt',run_sizeOf C.good hie,add_lit]
  ·exact hc _ el j c hel hj
end
end Go.Ab
end
section
namespace Go.Ab
def PV.onesB:List PV→Bool
 | []=>true
 | c::r=>c.one&&onesB r
theorem iQ:∀ {l:List PV},PV.onesB l=true→∀ c,c∈l→c.one=true
 | [],_,_,h=>by simp at h
 | x::r,h,c,hc=>by
  simp only [PV.onesB,Bool.and_eq_true] at h
  rcases List.mem_cons.1 hc with rfl | hc
  ·exact h.1
  ·exact iQ h.2 c hc
def AV.one:AV→Bool
 | .p c=>c.one
 | .vec _ _ _ _=>true
 | .arr _ _ _ _=>true
 | .ptr _ _=>true
 | .bptr _ _ _=>true
 | .rptr _=>true
 | .func _ _=>true
 | .mp _ _=>true
 | .mpr ..=>true
 | .stk ..=>true
 | .sem _=>true
 | .it ..=>true
 | .vecp ..=>true
 | .elp ..=>true
 | _=>false
def AV.onesB:List AV→Bool
 | []=>true
 | c::r=>c.one&&onesB r
theorem AV.onesB_mem:∀ {l:List AV},AV.onesB l=true→∀ c,c∈l→c.one=true
 | [],_,_,h=>by simp at h
 | x::r,h,c,hc=>by
  simp only [AV.onesB,Bool.and_eq_true] at h
  rcases List.mem_cons.1 hc with rfl | hc
  ·exact h.1
  ·exact AV.onesB_mem h.2 c hc
theorem PV.one_rep {w:World}{st:Nat→Nat→Prop}{x:PV}{v:Value}(h:PRep w st x v)(ho:x.one=true):v.oneCell'=true:=by
 cases h with
 | val v=>exact ho
 | agg hl h=>simp [PV.one] at ho
 | ifc=>rfl
 | aint=>rfl
 | nils=>rfl
 | nile a=>rfl
 | slice=>rfl
theorem AV.one_rep {w:World}{g:Gh}{x:AV}{v:Value}(h:ARep w g x v)(ho:x.one=true):v.oneCell'=true:=by
 cases h with
 | undef=>simp [AV.one] at ho
 | p h=>exact PV.one_rep h ho
 | agg=>simp [AV.one] at ho
 | vecn=>rfl
 | vece=>rfl
 | vec=>rfl
 | arr=>rfl
 | ptr=>rfl
 | bptrn=>rfl
 | bptr=>rfl
 | rptr=>rfl
 | tuple=>simp [AV.one] at ho
 | func=>rfl
 | mp=>rfl
 | mpr=>rfl
 | stkn=>rfl
 | stke=>rfl
 | stk=>rfl
 | sem h1 _=>exact h1
 | it=>rfl
 | vecp=>rfl
 | elp=>rfl
theorem qK {v:Value}(h:v.oneCell'=true):v.cells=#[v]:=by
 cases v <;> first | rfl | simp [Value.oneCell'] at h
def AV.cellsA:AV→Option (List AV)
 | .p (.agg cs)=>bif PV.onesB cs then some (cs.map .p) else none
 | .agg cs=>bif AV.onesB cs then some cs else none
 | .p (.val v)=>bif v.oneCell' then some [.p (.val v)] else none
 | .p (.slice es)=>some [.p (.slice es)]
 | .vec t s y es=>some [.vec t s y es]
 | .arr i s o n=>some [.arr i s o n]
 | .ptr i o=>some [.ptr i o]
 | .bptr T sz i=>some [.bptr T sz i]
 | .rptr cs=>some [.rptr cs]
 | .func f cs=>some [.func f cs]
 | .stk t s es=>some [.stk t s es]
 | .sem R=>some [.sem R]
 | .vecp a b c e=>some [.vecp a b c e]
 | _=>none
theorem mi {w:World}{g:Gh}{x:AV}{xs:List AV}{v:Value}(hx:x.cellsA=some xs)(h:ARep w g x v) :
  v.cells.size=xs.length∧∀ (i:Nat) c u,xs[i]? = some c→v.cells[i]? = some u→ARep w g c u∧u.oneCell'=true:=by
 have single:∀ {y:AV},ARep w g y v→y.one=true→xs=[y]→v.cells.size=xs.length∧∀ (i:Nat) c u,xs[i]? = some c→v.cells[i]? = some u→ARep w g c u∧u.oneCell'=true:=by
  intro y hy ho e
  have h1:=AV.one_rep hy ho
  rw [qK h1,e]
  refine ⟨Z,λ i c u h2 h3=>?_⟩
  cases i with
  | zero=>simp only [List.getElem?_cons_zero,Option.some.injEq] at h2; simp at h3; subst h2 h3; exact ⟨hy,h1⟩
  | succ i=>simp at h2
 unfold AV.cellsA at hx
 split at hx
 ·rename_i cs
  cases ho:PV.onesB cs <;> rw [ho] at hx <;> simp only [cond_true,cond_false,Option.some.injEq,reduceCtorEq] at hx
  subst hx
  cases h with
  | p h =>
   cases h with
   | agg hl h =>
    refine ⟨by simpa [Value.cells] using hl,λ i c u h2 h3=>?_⟩
    simp only [List.getElem?_map,Option.map_eq_some_iff] at h2
    obtain ⟨c',h2,rfl⟩:=h2
    have h4:=h i c' u h2 h3
    exact ⟨.p h4,PV.one_rep h4 (iQ ho c' (List.mem_of_getElem? h2))⟩
 ·rename_i cs
  cases ho:AV.onesB cs <;> rw [ho] at hx <;> simp only [cond_true,cond_false,Option.some.injEq,reduceCtorEq] at hx
  subst hx
  cases h with
  | agg hl h =>
   refine ⟨hl,λ i c u h2 h3=>?_⟩
   have h4:=h i c u h2 h3
   exact ⟨h4,AV.one_rep h4 (AV.onesB_mem ho c (List.mem_of_getElem? h2))⟩
 ·rename_i v'
  cases ho:v'.oneCell' <;> rw [ho] at hx <;> simp only [cond_true,cond_false,Option.some.injEq,reduceCtorEq] at hx
  exact single h ho hx.symm
 all_goals first
  | (simp only [Option.some.injEq] at hx; exact single h Z hx.symm)
  | (cases hx)
def yB:List AV→Option (List PV)
 | []=>some []
 | .p x::r=>match yB r with
  | some l=>some (x::l)
  | none=>none
 | _::_=>none
def n0 (cs:List AV):AV:=match yB cs with
 | some l=>.p (.agg l)
 | none=>.agg cs
theorem ze:∀ {cs:List AV} {l:List PV},yB cs=some l→cs=l.map .p
 | [],l,h=>by simp only [yB,Option.some.injEq] at h; subst h; rfl
 | x::r,l,h=>by
  cases x <;> simp only [yB,reduceCtorEq] at h
  split at h
  ·rename_i l' h'; cases h; rw [ze h']; rfl
  ·cases h
theorem pm {w:World}{g:Gh}{cs:List AV}{vs:Array Value}(hl:vs.size=cs.length)(h:∀ (i:Nat) c v,cs[i]? = some c→vs[i]? = some v→ARep w g c v):ARep w g (n0 cs) (.agg vs):=by
 unfold n0
 split
 ·rename_i l hp
  have e:=ze hp
  refine .p (.agg (by rw [hl,e]; simp) λ i c v h1 h2=>?_)
  have:=h i (.p c) v (by rw [e]; simp [h1]) h2
  cases this with | p h=>exact h
 ·exact .agg hl h
theorem kg {n:Nat}{w0:Base}{w:World}{F:Nat→Prop}{g:Gh}{s:AS}{a:Act}(hs:St n w0 F g s a w){b:Nat}{c:Array Value}{e:TypeId}(hb:w.heap[b]? = some (.cells c e (0,0)))(o:Nat) :
  w.cell? ⟨b,o,none⟩=c[o]?:=by
 simp [World.cell?,hb]
section
variable {C:Cx} {o:Oper} {K:AS→Prop} {sl:List (Nat×AV)} {ob:List (Nat×List AV)} {d:Nat}
theorem B9 {x:AV}{cs:List AV}(hd:o.dst=some d)(hn:Nat.blt d C.n=true)
  (h:∀ g a w,St C.n C.w0 C.F g ⟨sl,ob⟩ a w→∃ e v,(execOp a.eval o).run C.P w=.ok (.value (.pointer (some ⟨w.heap.size,0,none⟩))) (w.alloc (.cells v.cells e))∧ARep w g x v)
  (hx:x.cellsA=some cs)
  (hK:K ⟨(d,.ptr d 0)::(ct (λ i=>Nat.beq i d) ⟨sl,ob⟩).sl,(d,ls (λ i=>Nat.beq i d) cs)::(ct (λ i=>Nat.beq i d) ⟨sl,ob⟩).ob⟩):aW C o K ⟨sl,ob⟩:=by
 intro g a w hs
 obtain ⟨e,v,h1,h2⟩:=h g a w hs
 obtain ⟨hsz,hcs⟩:=mi hx h2
 unfold Oper.wp
 rw [h1]
 have hDd:(λ i=>Nat.beq i d) d=true:=by simp
 have hdl:d < M1:=by have h1:=Nat.le_of_ble_eq_true C.nl; have h2:d < C.n:=Nat.blt_eq ▸ hn; omega
 have hf:=hs.fresh (λ i=>Nat.beq i d) (λ i hi=>by have:=Nat.eq_of_beq_eq_true hi; omega) d hDd (λ _=>False) v.cells e
 refine ⟨⟨λ b o=>g.st b o∨(b=w.heap.size∧False),λ i=>if i=d then some w.heap.size else if Nat.beq i d then none else g.ow i⟩,_,?_,hK⟩
 have hp:=hf.put (d:=o.dst) (λ t ht=>by rw [hd] at ht; cases ht; exact Nat.blt_eq ▸ hn)
  (x:=.ptr d 0) (v:=.pointer (some ⟨w.heap.size,0,none⟩)) (.ptr G)
 rw [hd] at hp ⊢
 have hE:EvO (λ i=>Nat.beq i d) w g (w.alloc (.cells v.cells e)) ⟨λ b o=>g.st b o∨(b=w.heap.size∧False),λ i=>if i=d then some w.heap.size else if Nat.beq i d then none else g.ow i⟩:=by
  refine ⟨j2 hs.lt,λ id b hD hid=>?_,λ id b c e' hD hid hb=>⟨c,?_,Z⟩,λ id b o hD hid ho=>?_,λ id b es k hD hid hb=>(dw (hs.own id b hid).1).trans hb,λ i hi=>?lo,λ id b o hD hid _=>dw (hs.own id b hid).1⟩
  case lo =>
   cases hq:Nat.beq i d
   ·rfl
   ·have:=Nat.eq_of_beq_eq_true hq; have:=vn hi; omega
  ·have hne:id≠d:=λ e=>by subst e; simp at hD
   simp only [if_neg hne,hD]; exact hid
  ·exact (dw (hs.own id b hid).1).trans hb
  ·exact ho.resolve_right λ h=>h.2
 refine { hp with ob:=λ id cs' hc=>?_ }
 simp only [AS.put,bf] at hc
 by_cases e1:d=id
 ·subst e1
  simp only [if_true,Option.some.injEq] at hc
  subst hc
  refine ⟨w.heap.size,v.cells,e,by simp,cK,by simp [io,hsz],λ o ho=>?_,λ i y hy=>?_⟩
  ·rcases ho with ho | ⟨_,ho⟩
   ·exact absurd (hs.lt _ _ ho) O
   ·exact ho
  ·simp only [io,List.getElem?_map,Option.map_eq_some_iff] at hy
   obtain ⟨z,hz,rfl⟩:=hy
   have hi:i < v.cells.size:=by rw [hsz]; exact (List.getElem?_eq_some_iff.1 hz).1
   exact ⟨v.cells[i],Array.getElem?_eq_getElem hi,(hcs i z _ hz (Array.getElem?_eq_getElem hi)).1.dem hE⟩
 ·rw [if_neg e1] at hc
  exact hp.ob id cs' hc
theorem Dj {x c0:AV}{cs:List AV}{T sz:Nat}(hd:o.dst=some d)(hn:Nat.blt d C.n=true)
  (h:∀ g a w,St C.n C.w0 C.F g ⟨sl,ob⟩ a w→∃ v,(execOp a.eval o).run C.P w=.ok (.value (.pointer (some ⟨w.heap.size,0,none⟩))) (w.alloc (.cells v.cells T))∧ARep w g x v∧v.cells.size=sz∧v.cells[0]? = some (.pointer none))
  (hx:x.cellsA=some (c0::cs))
  (hK:K ⟨(d,.ptr d 0)::(ct (λ i=>Nat.beq i d) ⟨sl,ob⟩).sl,(d,.bptr T sz d::ls (λ i=>Nat.beq i d) cs)::(ct (λ i=>Nat.beq i d) ⟨sl,ob⟩).ob⟩):aW C o K ⟨sl,ob⟩:=by
 intro g a w hs
 obtain ⟨v,h1,h2,hz2,hz0⟩:=h g a w hs
 obtain ⟨hsz,hcs⟩:=mi hx h2
 unfold Oper.wp
 rw [h1]
 have hDd:(λ i=>Nat.beq i d) d=true:=by simp
 have hdl:d < M1:=by have h1:=Nat.le_of_ble_eq_true C.nl; have h2:d < C.n:=Nat.blt_eq ▸ hn; omega
 have hf:=hs.fresh (λ i=>Nat.beq i d) (λ i hi=>by have:=Nat.eq_of_beq_eq_true hi; omega) d hDd (λ _=>False) v.cells T
 refine ⟨⟨λ b o=>g.st b o∨(b=w.heap.size∧False),λ i=>if i=d then some w.heap.size else if Nat.beq i d then none else g.ow i⟩,_,?_,hK⟩
 have hp:=hf.put (d:=o.dst) (λ t ht=>by rw [hd] at ht; cases ht; exact Nat.blt_eq ▸ hn)
  (x:=.ptr d 0) (v:=.pointer (some ⟨w.heap.size,0,none⟩)) (.ptr G)
 rw [hd] at hp ⊢
 have hE:EvO (λ i=>Nat.beq i d) w g (w.alloc (.cells v.cells T)) ⟨λ b o=>g.st b o∨(b=w.heap.size∧False),λ i=>if i=d then some w.heap.size else if Nat.beq i d then none else g.ow i⟩:=by
  refine ⟨j2 hs.lt,λ id b hD hid=>?_,λ id b c e' hD hid hb=>⟨c,?_,Z⟩,λ id b o hD hid ho=>?_,λ id b es k hD hid hb=>(dw (hs.own id b hid).1).trans hb,λ i hi=>?lo,λ id b o hD hid _=>dw (hs.own id b hid).1⟩
  case lo =>
   cases hq:Nat.beq i d
   ·rfl
   ·have:=Nat.eq_of_beq_eq_true hq; have:=vn hi; omega
  ·have hne:id≠d:=λ e=>by subst e; simp at hD
   simp only [if_neg hne,hD]; exact hid
  ·exact (dw (hs.own id b hid).1).trans hb
  ·exact ho.resolve_right λ h=>h.2
 refine { hp with ob:=λ id cs' hc=>?_ }
 simp only [AS.put,bf] at hc
 by_cases e1:d=id
 ·subst e1
  simp only [if_true,Option.some.injEq] at hc
  subst hc
  refine ⟨w.heap.size,v.cells,T,by simp,cK,by simp [io,hsz],λ o ho=>?_,λ i y hy=>?_⟩
  ·rcases ho with ho | ⟨_,ho⟩
   ·exact absurd (hs.lt _ _ ho) O
   ·exact ho
  ·cases i with
   | zero =>
    simp only [List.getElem?_cons_zero,Option.some.injEq] at hy
    subst hy
    exact ⟨_,hz0,.bptrn G cK hz2⟩
   | succ i =>
    simp only [List.getElem?_cons_succ,io,List.getElem?_map,Option.map_eq_some_iff] at hy
    obtain ⟨z,hz,rfl⟩:=hy
    have hz':(c0::cs)[i+1]? = some z:=by simpa using hz
    have hi:i+1 < v.cells.size:=by rw [hsz]; exact (List.getElem?_eq_some_iff.1 hz').1
    exact ⟨v.cells[i+1],Array.getElem?_eq_getElem hi,(hcs (i+1) z _ hz' (Array.getElem?_eq_getElem hi)).1.dem hE⟩
 ·rw [if_neg e1] at hc
  exact hp.ob id cs' hc
theorem B4 {t:TypeId}{v:Operand}{x:AV}{cs:List AV}(ho:o.op=.box t v)(hd:o.dst=some d)(hn:Nat.blt d C.n=true)(hx:evo sl v=some x)(hc:x.cellsA=some cs)
  (hK:K ⟨(d,.ptr d 0)::(ct (λ i=>Nat.beq i d) ⟨sl,ob⟩).sl,(d,ls (λ i=>Nat.beq i d) cs)::(ct (λ i=>Nat.beq i d) ⟨sl,ob⟩).ob⟩):aW C o K ⟨sl,ob⟩ :=
 B9 hd hn (λ g a w hs=>⟨t,a.eval v,by simp [execOp,ho,Instr.box,newVar,newRow],bq hs hx⟩) hc hK
def fg (i:TI):List AV:=i.zero.map λ v=>.p (.val v)
theorem kz {P:Program}{tt:List (Nat×TI)}(good:dv P tt){t:Nat}{i:TI}(h:look tt t=some i)(w:World):∃ z,(zeroValue t).run P w=.ok z w∧z.cells.toList=i.zero:=by
 obtain ⟨j,h1,_,_,z,h2,h3⟩:=fR good h
 exact ⟨z,by simp [zeroValue,typeInfo,h1,h2],h3⟩
theorem mN {t:TypeId}{i:TI}(ho:o.op=.alloc t)(hd:o.dst=some d)(hn:Nat.blt d C.n=true)(hi:look C.tt t=some i)(hz:AV.cellsA (.agg (fg i))=some (fg i))
  (hK:K ⟨(d,.ptr d 0)::(ct (λ i=>Nat.beq i d) ⟨sl,ob⟩).sl,(d,ls (λ i=>Nat.beq i d) (fg i))::(ct (λ i=>Nat.beq i d) ⟨sl,ob⟩).ob⟩):aW C o K ⟨sl,ob⟩:=by
 refine B9 (x:=.agg (fg i)) hd hn (λ g a w hs=>?_) hz hK
 obtain ⟨z,h1,h2⟩:=kz C.good hi w
 refine ⟨t,.agg z.cells,by simp [execOp,ho,Instr.alloc,h1,newVar,newRow,Value.cells],.agg (by simp [fg,← h2]) λ k c v h3 h4=>?_⟩
 simp only [fg,List.getElem?_map,Option.map_eq_some_iff,← h2,Array.getElem?_toList] at h3
 obtain ⟨u,h5,rfl⟩:=h3
 rw [h4] at h5; cases h5
 exact .p (.val _)
theorem ru {t:TypeId}{i:TI}{zs:List Value}(ho:o.op=.alloc t)(hd:o.dst=some d)(hn:Nat.blt d C.n=true)(hi:look C.tt t=some i)(hz0:i.zero=.pointer none::zs)(hz:AV.cellsA (.agg (fg i))=some (fg i))(hsz:Nat.beq i.zero.length i.size=true)
  (hK:K ⟨(d,.ptr d 0)::(ct (λ i=>Nat.beq i d) ⟨sl,ob⟩).sl,(d,.bptr t i.size d::ls (λ i=>Nat.beq i d) (zs.map λ v=>.p (.val v)))::(ct (λ i=>Nat.beq i d) ⟨sl,ob⟩).ob⟩):aW C o K ⟨sl,ob⟩:=by
 have hz':AV.cellsA (.agg (fg i))=some (.p (.val (.pointer none))::zs.map λ v=>.p (.val v)):=by rw [hz,fg,hz0]; rfl
 have hsz':=Nat.eq_of_beq_eq_true hsz
 refine Dj (x:=.agg (fg i)) hd hn (λ g a w hs=>?_) hz' hK
 obtain ⟨z,h1,h2⟩:=kz C.good hi w
 refine ⟨.agg z.cells,by simp [execOp,ho,Instr.alloc,h1,newVar,newRow,Value.cells],.agg (by simp [fg,← h2]) (λ k c v h3 h4=>?_),?_,?_⟩
 ·simp only [fg,List.getElem?_map,Option.map_eq_some_iff,← h2,Array.getElem?_toList] at h3
  obtain ⟨u,h5,rfl⟩:=h3
  rw [h4] at h5; cases h5
  exact .p (.val _)
 ·show z.cells.size=i.size
  rw [← hsz',← h2,Array.length_toList]
 ·show z.cells[0]? = some (.pointer none)
  rw [← Array.getElem?_toList,h2,hz0]; rfl
theorem ci {t:TypeId}{x:Operand}{f off ft id k:Nat}{i j:TI}{fs:List (Nat×Nat)}(ho:o.op=.fieldAddr t x f)(hd:o.dst=some d)(hn:Nat.blt d C.n=true)
  (hi:look C.tt t=some i) (hik:i.k=.struct fs) (hf:fs[f]? = some (off,ft)) (hj:look C.tt ft=some j) (hjs:Nat.beq j.size 0=false)
  (hx:evo sl x=some (.ptr id k)) (hK:K ⟨(d,.ptr id (k+off))::sl,ob⟩):aW C o K ⟨sl,ob⟩:=by
 obtain ⟨u,h1,h2⟩:=bc C.good hi
 obtain ⟨fa,rfl,h4⟩:=gV (h2.trans hik)
 refine ok_one hd hn (λ g a w hs=>?_) hK
 have h5:=bq hs hx
 generalize hv:a.eval x=v at h5
 cases h5 with
 | ptr how =>
  rename_i b
  refine ⟨.pointer (some ⟨b,k+off,none⟩),?_,.ptr how⟩
  rw [← h4] at hf
  simp only [List.getElem?_map,Array.getElem?_toList,Option.map_eq_some_iff,Prod.mk.injEq] at hf
  obtain ⟨fl,hf1,hf2,hf3⟩:=hf
  have hsz:=run_sizeOf C.good hj w
  rw [← hf3] at hsz
  have hne:j.size≠0:=λ e=>by rw [e] at hjs; simp at hjs
  simp [execOp,ho,hv,Instr.fieldAt,run_underlying h1,hf1,Instr.sureAddr,fieldPlace,hsz,hne,add_lit,hf2]
theorem wk {x:Operand}{id k:Nat}(ho:o.op=.nilCheck x)(hd:o.dst=some d)(hn:Nat.blt d C.n=true)
  (hx:evo sl x=some (.ptr id k)) (hK:K ⟨(d,.ptr id k)::sl,ob⟩):aW C o K ⟨sl,ob⟩:=by
 refine ok_one hd hn (λ g a w hs=>?_) hK
 have h5:=bq hs hx
 generalize hv:a.eval x=v at h5
 cases h5 with
 | ptr how=>exact ⟨_,by simp [execOp,ho,hv],.ptr how⟩
theorem jf {t e:TypeId}{x y:Operand}{i ie:TI}{k:IntKind}{n:Int}{id sz off m:Nat}(ho:o.op=.indexAddr t x y)(hd:o.dst=some d)(hn:Nat.blt d C.n=true)
  (hi:look C.tt t=some i) (hik:i.k=.slice e) (hie:look C.tt e=some ie) (hx:evo sl x=some (.arr id sz off m))
  (hy:evo sl y=some (.p (.val (.int k n)))) (hsz:ie.size=sz) (hb:0≤n∧n < m)
  (hK:K ⟨(d,.ptr id (off+n.toNat*sz))::sl,ob⟩):aW C o K ⟨sl,ob⟩:=by
 obtain ⟨u,h1,h2⟩:=bc C.good hi
 have h3:=bn (h2.trans hik)
 subst h3 hsz
 refine ok_one hd hn (λ g a w hs=>?_) hK
 have h5:=bq hs hx
 generalize hv:a.eval x=v at h5
 cases h5 with
 | arr how hb' hcs hnc =>
  rename_i b cap c e'
  exact ⟨.pointer (some ⟨b,off+n.toNat*ie.size,none⟩),by simp [execOp,ho,hv,bJ hs hy,Instr.indexAt,asIntOf,run_underlying h1,hb.1,hb.2,run_sizeOf C.good hie,add_lit],.ptr how⟩
theorem fS {t e:TypeId}{x:Operand}{i:TI}{id sz off m:Nat}(ho:o.op=.call { callee:=.builtin .len,args:=#[x],argTypes:=#[t] })(hd:o.dst=some d)(hn:Nat.blt d C.n=true)
  (hi:look C.tt t=some i) (hik:i.k=.slice e) (hx:evo sl x=some (.arr id sz off m))
  (hK:K ⟨(d,.p (.val (.int .i64 (m:Int))))::sl,ob⟩):aW C o K ⟨sl,ob⟩:=by
 obtain ⟨u,h1,h2⟩:=bc C.good hi
 have h3:=bn (h2.trans hik)
 subst h3
 refine ok_one hd hn (λ g b w hs=>?_) hK
 have h5:=bq hs hx
 generalize hv:b.eval x=v at h5
 cases h5 with
 | arr how hb' hcs hnc=>exact ⟨_,by rw [d9 ho]; simp [builtin,hv,Builtin.len_,run_underlying h1,goInt],.p (.val _)⟩
theorem wi {t:TypeId}{x:Operand}{i:TI}{id k:Nat}{cs:List AV}{y:AV}(ho:o.op=.load t x)(hd:o.dst=some d)(hn:Nat.blt d C.n=true)
  (hi:look C.tt t=some i) (hia:i.k.isAgg=false) (hx:evo sl x=some (.ptr id k)) (hob:look ob id=some cs) (hy:cs[k]? = some y) (hK:K ⟨(d,y)::sl,ob⟩):aW C o K ⟨sl,ob⟩:=by
 refine ok_one hd hn (λ g a w hs=>?_) hK
 have h5:=bq hs hx
 generalize hv:a.eval x=v at h5
 cases h5 with
 | ptr how =>
  obtain ⟨b',c,e,k1,k2,k3,k4,k5⟩:=hs.ob id cs hob
  rw [how] at k1; cases k1
  obtain ⟨u,hu,hr⟩:=k5 k y hy
  have hc:=(kg hs k2 k).trans hu
  exact ⟨u,by simp [execOp,ho,hv,Instr.loadAt,Instr.sureAddr,kB C.good hi hia hc],hr⟩
theorem rl {t:TypeId}{x:Operand}{i:TI}{id k:Nat}{cs:List AV}(ho:o.op=.load t x)(hd:o.dst=some d)(hn:Nat.blt d C.n=true)
  (hi:look C.tt t=some i) (hia:i.k.isAgg=true) (hx:evo sl x=some (.ptr id k)) (hob:look ob id=some cs) (hl:Nat.ble (k+i.size) cs.length=true) {y:AV} (hy:some (n0 ((cs.drop k).take i.size))=some y)
  (hK:K ⟨(d,y)::sl,ob⟩):aW C o K ⟨sl,ob⟩:=by
 cases hy
 refine ok_one hd hn (λ g a w hs=>?_) hK
 have h5:=bq hs hx
 have hl':=Nat.le_of_ble_eq_true hl
 generalize hv:a.eval x=v at h5
 cases h5 with
 | ptr how =>
  rename_i b
  obtain ⟨b',c,e,k1,k2,k3,k4,k5⟩:=hs.ob id cs hob
  rw [how] at k1; cases k1
  have hc:∀ j,j < i.size→w.cell? ⟨b,k+j,none⟩=some (c.getD (k+j) Go.undef):=by
   intro j hj
   rw [kg hs k2]
   have:k+j < c.size:=by omega
   simp [Array.getD,this]
  have hld:=pc C.good hi hia (f:=λ j=>c.getD (k+j) Go.undef) hc
  refine ⟨.agg ((List.range i.size).map λ j=>c.getD (k+j) Go.undef).toArray,by simp only [execOp,ho,hv,Instr.loadAt,Instr.sureAddr,Sem.run_bind,Sem.run_pure,Result.andThen_ok,hld],pm (by simp; omega) λ j y v h1 h2=>?_⟩
  rw [List.getElem?_take] at h1
  split at h1
  ·rename_i hj
   rw [List.getElem?_drop] at h1
   obtain ⟨u,hu,hr⟩:=k5 (k+j) y h1
   simp only [List.getElem?_toArray,List.getElem?_map,List.getElem?_range hj,Option.map_some,Option.some.injEq] at h2
   subst h2
   rw [Array.getD_eq_getD_getElem?,hu]
   exact hr
  ·cases h1
theorem jx {α:Type}(l xs:List α)(k:Nat)(h:k+xs.length≤l.length)(i:Nat) :
  (l.take k++xs++l.drop (k+xs.length))[i]? = if k≤i∧i < k+xs.length then xs[i - k]? else l[i]?:=by
 have hlen:(l.take k).length=k:=by rw [List.length_take]; omega
 by_cases h1:i < k
 ·rw [List.append_assoc,List.getElem?_append_left O,List.getElem?_take,if_pos h1,if_neg O]
 ·rw [List.append_assoc,List.getElem?_append_right O,hlen]
  by_cases h2:i < k+xs.length
  ·rw [List.getElem?_append_left O,if_pos O]
  ·rw [List.getElem?_append_right O,List.getElem?_drop,if_neg O]
   congr 1; omega
def ra (cs:List AV)(k:Nat)(xs:List AV):List AV:=match xs with
 | [x]=>cs.set k x
 | _=>cs.take k++xs++cs.drop (k+xs.length)
theorem oB (cs:List AV)(k:Nat)(xs:List AV)(h:k+xs.length≤cs.length)(i:Nat):(ra cs k xs)[i]? = if k≤i∧i < k+xs.length then xs[i - k]? else cs[i]?:=by
 have gen:=jx cs xs k h i
 unfold ra
 split
 ·rename_i x
  simp only [List.length_cons,List.length_nil,Nat.zero_add] at h
  rw [List.getElem?_set]
  by_cases e:k=i
  ·subst e; rw [if_pos rfl,if_pos O,if_pos G]; simp
  ·rw [if_neg e,if_neg (by simp; omega)]
 ·exact gen
theorem sM (cs:List AV)(k:Nat)(xs:List AV)(h:k+xs.length≤cs.length):(ra cs k xs).length=cs.length:=by
 unfold ra
 split
 ·simp
 ·simp; omega
theorem oU {t:TypeId}{x v:Operand}{i:TI}{id k:Nat}{cs xs:List AV}{y:AV}(ho:o.op=.store t x v)(hd:o.dst=none)
  (hi:look C.tt t=some i) (hx:evo sl x=some (.ptr id k)) (hv:evo sl v=some y) (hc:y.cellsA=some xs) (hsz:xs.length=i.size) (hob:look ob id=some cs) (hl:k+xs.length≤cs.length)
  (hK:K ⟨sl,(id,ra cs k xs)::ob⟩):aW C o K ⟨sl,ob⟩:=by
 intro g a w hs
 have h5:=bq hs hx
 have h6:=bq hs hv
 obtain ⟨hs1,hs2⟩:=mi hc h6
 generalize hev:a.eval x=u at h5
 cases h5 with
 | ptr how =>
  rename_i b
  obtain ⟨b',c,e,k1,k2,k3,k4,k5⟩:=hs.ob id cs hob
  rw [how] at k1; cases k1
  have hone:∀ u∈(a.eval v).cells.toList,u.oneCell'=true:=by
   intro u hu
   obtain ⟨j,hj,rfl⟩:=List.getElem_of_mem hu
   simp only [Array.length_toList] at hj
   exact (hs2 j (xs[j]' O) _ (List.getElem?_eq_getElem O) (by simp [hj])).2
  have hst:=run_storeCells_at C.P b k e (a.eval v).cells.toList 0 c w k2 (by simp; omega) hone
  simp only [Nat.add_zero,Array.length_toList] at hst
  obtain ⟨c',hc'⟩:∃ c',c'=(c.toList.take k++(a.eval v).cells.toList++c.toList.drop (k+(a.eval v).cells.size)).toArray:=⟨_,rfl⟩
  rw [← hc'] at hst
  have hsz':=run_sizeOf C.good hi w
  have hne:(a.eval v).cells.size=i.size:=hs1.trans hsz
  unfold Oper.wp
  have hrun:(execOp a.eval o).run C.P w=.ok .skip (w.setRow b c'):=by
   simp [execOp,ho,hev,Instr.storeAt,Instr.sureAddr,storeVar,hsz',hne,hst]
  rw [hrun]
  simp only [Oper.upon,hd,Act.put]
  have hcell:∀ j,c'[j]? = if k≤j∧j < k+xs.length then (a.eval v).cells[j - k]? else c[j]?:=by
   intro j
   rw [hc']
   have:=jx c.toList (a.eval v).cells.toList k (by simp; omega) j
   simp only [Array.length_toList,Array.getElem?_toList,hs1] at this
   simpa [hs1] using this
  have hsize':c'.size=c.size:=by
   rw [hc']; simp; omega
  have hev':Ev w g.st (w.setRow b c') g.st:=by
   intro b2 o2 h2
   refine ⟨h2,?_⟩
   have hne:b2≠b:=λ e=>k4 o2 (e ▸ h2)
   simp only [World.cell?,setRow_other w b b2 c' hne]
  have hE:EvO (λ _=>false) w g (w.setRow b c') g:=by
   refine ⟨hev',λ id b _ h=>h,λ id b2 c2 e2 _ h h2=>?_,λ id b o _ _ h=>h,λ id b2 es2 k2' _ h h2=>(setRow_other w b b2 c' (λ e=>by subst e; rw [k2] at h2; cases h2)).trans h2,λ _ _=>rfl,λ id b2 o _ _ h=>setRow_other w b b2 c' (λ e=>k4 o (e ▸ h))⟩
   by_cases e1:b2=b
   ·subst e1
    rw [k2] at h2; cases h2
    exact ⟨c',setRow_heap w b2 c c' e (0,0) k2,hsize'⟩
   ·exact ⟨c2,(setRow_other w b b2 c' e1).trans h2,Z⟩
  refine ⟨g,⟨sl,(id,ra cs k xs)::ob⟩,?_,hK⟩
  refine ⟨hs.nd,hs.sz,λ j=>(hs.sl j).mono hE,λ id' cs' h'=>?_,hs.inj,λ j b2 h=>?_,λ b2 o2 h=>?_,hs.fl,λ b2 h=>?_,hs.os,hs.out,hs.tape,?_,hs.stf,hs.owf,hs.shf.next (λ _ b c e _ _ h=>(vh k2 hsize').1 b c e h),hs.nst,hs.ev0.trans hev'⟩
  ·simp only [bf] at h'
   by_cases e1:id=id'
   ·subst e1
    simp only [if_true,Option.some.injEq] at h'
    subst h'
    refine ⟨b,c',e,how,setRow_heap w b c c' e (0,0) k2,by rw [sM _ _ _ hl,hsize']; exact k3,k4,λ j y hy=>?_⟩
    rw [oB _ _ _ hl] at hy
    split at hy
    ·rename_i hj
     have hlt:j - k < (a.eval v).cells.size:=by omega
     refine ⟨(a.eval v).cells[j - k],?_,((hs2 (j - k) y _ hy (Array.getElem?_eq_getElem hlt)).1).mono hE⟩
     rw [hcell j,if_pos hj]; exact Array.getElem?_eq_getElem hlt
    ·rename_i hj
     obtain ⟨u,hu,hr⟩:=k5 j y hy
     exact ⟨u,by rw [hcell j,if_neg hj]; exact hu,hr.mono hE⟩
   ·rw [if_neg e1] at h'
    obtain ⟨b2,c2,e2,m1,m2,m3,m4,m5⟩:=hs.ob id' cs' h'
    have hne:b2≠b:=λ e=>e1 (hs.inj _ _ _ how (e ▸ m1))
    refine ⟨b2,c2,e2,m1,(setRow_other w b b2 c' hne).trans m2,m3,m4,λ j y hy=>?_⟩
    obtain ⟨u,hu,hr⟩:=m5 j y hy
    exact ⟨u,hu,hr.mono hE⟩
  ·have:=hs.own j b2 h; exact ⟨by simpa using this.1,this.2⟩
  ·have:=hs.lt b2 o2 h; simpa using this
  ·have hne:b2≠b:=λ e=>(hs.own id b how).2 (e ▸ h)
   exact (setRow_other w b b2 c' hne).trans (hs.fr b2 h)
  ·have:=hs.size; simpa using this
end
end Go.Ab
end
section
namespace Go.Ab
def AV.toPV:AV→Option PV
 | .p (.val (.slice none 0 0))=>some (.slice [])
 | .p x=>some x
 | .vec _ _ _ es=>some (.slice es)
 | .agg cs=>match go cs with
  | some l=>some (.agg l)
  | none=>none
 | _=>none where
 go:List AV→Option (List PV)
 | []=>some []
 | .p x::r=>match go r with
  | some l=>some (x::l)
  | none=>none
 | .vec _ _ _ es::r=>match go r with
  | some l=>some (.slice es::l)
  | none=>none
 | _::_=>none
theorem wM {w:World}{g:Gh}:∀ {cs:List AV} {l:List PV},AV.toPV.go cs=some l→cs.length=l.length∧∀ (i:Nat) c y v,cs[i]? = some c→l[i]? = some y→ARep w g c v→PRep w g.st y v
 | [],l,h=>by simp only [AV.toPV.go,Option.some.injEq] at h; subst h; exact ⟨Z,by simp⟩
 | x::r,l,h=>by
  unfold AV.toPV.go at h
  split at h
  ·rename_i e; cases e
  ·rename_i x0 r0 e; cases e
   split at h
   ·rename_i l' h'; cases h
    obtain ⟨h1,h2⟩:=wM (w:=w) (g:=g) h'
    refine ⟨by simp [h1],λ i c y v hc hy hv=>?_⟩
    cases i with
    | zero=>simp only [List.getElem?_cons_zero,Option.some.injEq] at hc hy; subst hc hy; cases hv with | p h=>exact h
    | succ i=>simp only [List.getElem?_cons_succ] at hc hy; exact h2 i c y v hc hy hv
   ·cases h
  ·rename_i t0 s0 e0 r0 e; cases e
   split at h
   ·rename_i l' h'; cases h
    obtain ⟨h1,h2⟩:=wM (w:=w) (g:=g) h'
    refine ⟨by simp [h1],λ i c y v hc hy hv=>?_⟩
    cases i with
    | zero=>simp only [List.getElem?_cons_zero,Option.some.injEq] at hc hy; subst hc hy; exact ko (.inr ⟨_,_,_,rfl⟩) hv
    | succ i=>simp only [List.getElem?_cons_succ] at hc hy; exact h2 i c y v hc hy hv
   ·cases h
  ·cases h
theorem tF {w:World}{g:Gh}{x:AV}{y:PV}{v:Value}(hx:x.toPV=some y)(h:ARep w g x v):PRep w g.st y v:=by
 unfold AV.toPV at hx
 split at hx
 ·cases hx; cases h with | p h=>cases h; exact .nils
 ·cases hx; cases h with | p h=>exact h
 ·cases hx; exact ko (.inr ⟨_,_,_,rfl⟩) h
 ·split at hx
  ·rename_i cs _ l h'
   cases hx
   cases h with
   | agg hl hh =>
    rename_i vs
    obtain ⟨h1,h2⟩:=wM (w:=w) (g:=g) h'
    refine .agg O λ i y v hy hv=>?_
    have hi:i < cs.length:=by
     have:=(List.getElem?_eq_some_iff.1 hy).1; omega
    exact h2 i cs[i] y v (List.getElem?_eq_getElem hi) hy (hh i _ v (List.getElem?_eq_getElem hi) hv)
  ·cases hx
 ·cases hx
section
variable {C:Cx} {o:Oper} {K:AS→Prop} {sl:List (Nat×AV)} {ob:List (Nat×List AV)} {d:Nat}
theorem zW {t:TypeId}{x:Operand}{f off ft:Nat}{i j:TI}{fs:List (Nat×Nat)}{cs:List PV}{c:PV}(ho:o.op=.field t x f)(hd:o.dst=some d)(hn:Nat.blt d C.n=true)
  (hi:look C.tt t=some i) (hik:i.k=.struct fs) (hf:fs[f]? = some (off,ft)) (hj:look C.tt ft=some j) (hja:j.k.isAgg=false)
  (hx:evo sl x=some (.p (.agg cs))) (hc:cs[off]? = some c) (hK:K ⟨(d,.p c)::sl,ob⟩):aW C o K ⟨sl,ob⟩:=by
 obtain ⟨u,h1,h2⟩:=bc C.good hi
 obtain ⟨fa,rfl,h4⟩:=gV (h2.trans hik)
 refine ok_one hd hn (λ g a w hs=>?_) hK
 have h5:=bq hs hx
 generalize hv:a.eval x=v at h5
 cases h5 with
 | p h5 =>
  cases h5 with
  | agg hl hh =>
   rename_i vs
   rw [← h4] at hf
   simp only [List.getElem?_map,Array.getElem?_toList,Option.map_eq_some_iff,Prod.mk.injEq] at hf
   obtain ⟨fl,hf1,hf2,hf3⟩:=hf
   subst hf2 hf3
   have hlt:fl.offset < vs.size:=by rw [hl]; exact (List.getElem?_eq_some_iff.1 hc).1
   exact ⟨vs[fl.offset],by simp [execOp,ho,hv,Instr.field,run_underlying h1,hf1,asAgg,part,nk C.good hj,hja,hlt],.p (hh _ c _ hc (Array.getElem?_eq_getElem hlt))⟩
theorem Ak {t:TypeId}{x:Operand}{f off ft:Nat}{i j:TI}{fs:List (Nat×Nat)}{cs:List PV}(ho:o.op=.field t x f)(hd:o.dst=some d)(hn:Nat.blt d C.n=true)
  (hi:look C.tt t=some i) (hik:i.k=.struct fs) (hf:fs[f]? = some (off,ft)) (hj:look C.tt ft=some j) (hja:j.k.isAgg=true)
  (hx:evo sl x=some (.p (.agg cs))) (hl':Nat.ble (off+j.size) cs.length=true) (hK:K ⟨(d,.p (.agg ((cs.drop off).take j.size)))::sl,ob⟩):aW C o K ⟨sl,ob⟩:=by
 obtain ⟨u,h1,h2⟩:=bc C.good hi
 obtain ⟨fa,rfl,h4⟩:=gV (h2.trans hik)
 refine ok_one hd hn (λ g a w hs=>?_) hK
 have h5:=bq hs hx
 have hle:=Nat.le_of_ble_eq_true hl'
 generalize hv:a.eval x=v at h5
 cases h5 with
 | p h5 =>
  cases h5 with
  | agg hl hh =>
   rename_i vs
   rw [← h4] at hf
   simp only [List.getElem?_map,Array.getElem?_toList,Option.map_eq_some_iff,Prod.mk.injEq] at hf
   obtain ⟨fl,hf1,hf2,hf3⟩:=hf
   subst hf2 hf3
   refine ⟨.agg (vs.extract fl.offset (fl.offset+j.size)),by simp [execOp,ho,hv,Instr.field,run_underlying h1,hf1,asAgg,part,nk C.good hj,hja,run_sizeOf C.good hj],.p (.agg (by simp; omega) λ k c v h6 h7=>?_)⟩
   rw [List.getElem?_take] at h6
   split at h6
   ·rename_i hk
    rw [List.getElem?_drop] at h6
    rw [Array.getElem?_extract] at h7
    split at h7
    ·exact hh _ c v h6 h7
    ·cases h7
   ·cases h6
def sk (place:Nat→Option (Nat×Nat))(cs:List AV):List (Nat×AV)→Option (List AV)
 | []=>some cs
 | (i,v)::r=>match place i,v.cellsA with
  | some (off,size),some xs=>bif Nat.beq xs.length size&&Nat.ble (off+size) cs.length then sk place (ra cs off xs) r else none
  | _,_=>none
theorem rQ {w:World}{g:Gh}{place:Nat→Option (Nat×Nat)}:∀ (ps:List (Nat×AV)) (vs:List (Nat×Value)) (cs cs':List AV) (c:Array Value),
  ps.length=vs.length→(∀ (k:Nat) p q,ps[k]? = some p→vs[k]? = some q→p.1=q.1∧ARep w g p.2 q.2) →
  c.size=cs.length→(∀ (i:Nat) x v,cs[i]? = some x→c[i]? = some v→ARep w g x v)→sk place cs ps=some cs' →
  ∃ c',Instr.fill place c vs=some c'∧c'.size=cs'.length∧∀ (i:Nat) x v,cs'[i]? = some x→c'[i]? = some v→ARep w g x v
 | [],[],cs,cs',c,_,_,hc,hcc,h=>by
  simp only [sk,Option.some.injEq] at h; subst h
  exact ⟨c,Z,hc,hcc⟩
 | [],_::_,_,_,_,hl,_,_,_,_=>by simp at hl
 | _::_,[],_,_,_,hl,_,_,_,_=>by simp at hl
 | (i,x)::ps,(i',v)::vs,cs,cs',c,hl,hp,hc,hcc,h=>by
  obtain ⟨e,hxv⟩:=hp 0 (i,x) (i',v) Z Z
  simp only at e hxv
  subst e
  simp only [sk] at h
  split at h
  ·rename_i off size xs hpl hxs
   cases hb:(Nat.beq xs.length size&&Nat.ble (off+size) cs.length) <;> rw [hb] at h <;> simp only [cond_true,cond_false,reduceCtorEq] at h
   simp only [Bool.and_eq_true] at hb
   have e1:xs.length=size:=Nat.eq_of_beq_eq_true hb.1
   have e2:off+size≤cs.length:=Nat.le_of_ble_eq_true hb.2
   obtain ⟨hsz,hcells⟩:=mi hxs hxv
   obtain ⟨g1,g2⟩:=Great.foldl_set off v.cells.toList 0 c
   obtain ⟨c1,hc1⟩:∃ c1,c1=(v.cells.toList.zipIdx 0).foldl (λ cs (x:Value×Nat)=>cs.setIfInBounds (off+x.2) x.1) c:=⟨_,rfl⟩
   rw [← hc1] at g1
   obtain ⟨c',h1,h2,h3⟩:=rQ ps vs (ra cs off xs) cs' c1 (by simpa using hl) (λ k p q h1 h2=>hp (k+1) p q (by simpa using h1) (by simpa using h2))
    (by rw [g1,sM _ _ _ O]; exact hc) (λ k y u hy hu=>by
     rw [oB _ _ _ O] at hy
     rw [hc1,g2 k] at hu
     simp only [Nat.add_zero,Array.length_toList,hsz] at hu
     by_cases hk:off≤k∧k < off+xs.length
     ·rw [if_pos hk] at hy
      rw [if_pos ⟨hk.1,hk.2,by omega⟩] at hu
      exact (hcells _ y u hy (by simpa using hu)).1
     ·rw [if_neg hk] at hy
      rw [if_neg O] at hu
      exact hcc k y u hy hu) h
   refine ⟨c',?_,h2,h3⟩
   unfold Instr.fill
   simp only [hpl]
   rw [if_neg (by simp [hsz,e1]; omega)]
   have:(v.cells.zipIdx.foldl (λ cs (x:Value×Nat)=>cs.setIfInBounds (off+x.2) x.1) c)=c1:=by
    rw [hc1,← Array.foldl_toList,Array.toList_zipIdx]
   rw [← h1,← this]
  ·cases h
def fy (sl:List (Nat×AV)):List (Nat×Operand)→Option (List (Nat×AV))
 | []=>some []
 | (i,x)::r=>match evo sl x,fy sl r with
  | some y,some l=>some ((i,y)::l)
  | _,_=>none
theorem ol {n:Nat}{w0:Base}{w:World}{F:Nat→Prop}{g:Gh}{a:Act}(hs:St n w0 F g ⟨sl,ob⟩ a w):∀ (ps:List (Nat×Operand)) (l:List (Nat×AV)),fy sl ps=some l →
  l.length=(ps.map λ p=>(p.1,a.eval p.2)).length∧∀ (k:Nat) p q,l[k]? = some p→(ps.map λ p=>(p.1,a.eval p.2))[k]? = some q→p.1=q.1∧ARep w g p.2 q.2
 | [],l,h=>by simp only [fy,Option.some.injEq] at h; subst h; exact ⟨Z,by simp⟩
 | (i,x)::r,l,h=>by
  simp only [fy] at h
  split at h
  ·rename_i y l' hy hl'
   cases h
   obtain ⟨h1,h2⟩:=ol hs r l' hl'
   refine ⟨by simpa using h1,λ k p q hp hq=>?_⟩
   cases k with
   | zero=>simp only [List.map_cons,List.getElem?_cons_zero,Option.some.injEq] at hp hq; subst hp hq; exact ⟨rfl,bq hs hy⟩
   | succ k=>simp only [List.map_cons,List.getElem?_cons_succ] at hp hq; exact h2 k p q hp hq
  ·cases h
def pr (tt:List (Nat×TI)):List (Nat×Nat)→Option (List (Nat×Nat))
 | []=>some []
 | (off,ft)::r=>match look tt ft,pr tt r with
  | some j,some l=>some ((off,j.size)::l)
  | _,_=>none
theorem sK {P:Program}{tt:List (Nat×TI)}(good:dv P tt)(w:World):∀ (fs:List Field) (l:List (Nat×Nat)),pr tt (fs.map λ f=>(f.offset,f.type))=some l →
  (fs.mapM (m:=Sem) λ f=>do pure (f.offset,← sizeOf f.type)).run P w=.ok l w
 | [],l,h=>by simp only [List.map_nil,pr,Option.some.injEq] at h; subst h; simp
 | f::r,l,h=>by
  simp only [List.map_cons,pr] at h
  split at h
  ·rename_i j l' hj hl'
   cases h
   have ih:=sK good w r l' hl'
   simp only [Sem.run_bind,bind_pure_comp] at ih
   simp [run_sizeOf good hj,ih]
  ·cases h
theorem tN {t:TypeId}{parts:Array (Nat×Operand)}{i:TI}{fs pl:List (Nat×Nat)}{ps:List (Nat×AV)}{cs:List AV}{y:AV}(ho:o.op=.build t parts)(hd:o.dst=some d)(hn:Nat.blt d C.n=true)
  (hi:look C.tt t=some i) (hik:i.k=.struct fs) (hpl:pr C.tt fs=some pl) (hps:fy sl parts.toList=some ps) (hf:sk (λ (i:Nat)=>pl[i]?) (fg i) ps=some cs) (hy:some (n0 cs)=some y)
  (hK:K ⟨(d,y)::sl,ob⟩):aW C o K ⟨sl,ob⟩:=by
 cases hy
 obtain ⟨u,h1,h2⟩:=bc C.good hi
 obtain ⟨fa,rfl,h4⟩:=gV (h2.trans hik)
 refine ok_one hd hn (λ g a w hs=>?_) hK
 obtain ⟨z,hz1,hz2⟩:=kz C.good hi w
 obtain ⟨q1,q2⟩:=ol hs _ ps hps
 rw [← h4] at hpl
 have hpr:=sK C.good w fa.toList pl hpl
 obtain ⟨c',f1,f2,f3⟩:=rQ (place:=λ (i:Nat)=>pl[i]?) ps (parts.toList.map λ p=>(p.1,a.eval p.2)) (fg i) cs z.cells q1 q2 (by simp [fg,← hz2]) (λ k x v hx hv=>by
  simp only [fg,List.getElem?_map,Option.map_eq_some_iff,← hz2,Array.getElem?_toList] at hx
  obtain ⟨u,hu,rfl⟩:=hx
  rw [hv] at hu; cases hu
  exact .p (.val _)) hf
 refine ⟨.agg c',?_,pm f2 f3⟩
 have e1:(parts.map λ (i,x)=>(i,a.eval x)).toList=parts.toList.map λ p=>(p.1,a.eval p.2):=by rw [Array.toList_map]
 have e2:(fa.mapM (m:=Sem) λ f=>do pure (f.offset,← sizeOf f.type)).run C.P w=.ok pl.toArray w:=by
  rw [Array.mapM_eq_mapM_toList,Sem.run_map,hpr]; rfl
 have e3:(λ (i:Nat)=>(pl.toArray)[i]?)=λ (i:Nat)=>pl[i]?:=by funext i; simp
 simp only [execOp,ho,Instr.build,Sem.run_bind,hz1,Result.andThen_ok,run_underlying h1,e2,e1,e3,f1,Sem.run_pure]
def mz (sl:List (Nat×AV)):Nat→List (Nat×Operand)→Option (List PV)
 | _,[]=>some []
 | k,(i,x)::r=>bif Nat.beq i k then match evo sl x,mz sl (k+1) r with
  | some y,some l=>match y.toPV with
   | some z=>some (z::l)
   | none=>none
  | _,_=>none
  else none
theorem ss {n:Nat}{w0:Base}{w:World}{F:Nat→Prop}{g:Gh}{a:Act}(hs:St n w0 F g ⟨sl,ob⟩ a w):∀ (ps:List (Nat×Operand)) (k:Nat) (l:List PV),mz sl k ps=some l →
  ps.map (λ p=>(p.1,a.eval p.2))=((ps.map λ p=>a.eval p.2).zipIdx k).map (λ x=>(x.2,x.1))∧l.length=ps.length ∧
  ∀ (j:Nat) y v,l[j]? = some y→(ps.map λ p=>a.eval p.2)[j]? = some v→PRep w g.st y v
 | [],k,l,h=>by simp only [mz,Option.some.injEq] at h; subst h; exact ⟨Z,Z,by simp⟩
 | (i,x)::r,k,l,h=>by
  simp only [mz] at h
  cases hb:Nat.beq i k <;> rw [hb] at h <;> simp only [cond_true,cond_false,reduceCtorEq] at h
  have e:i=k:=Nat.eq_of_beq_eq_true hb
  subst e
  split at h
  ·rename_i y l' hy hl'
   split at h
   ·rename_i z hz
    cases h
    obtain ⟨h1,h2,h3⟩:=ss hs r (i+1) l' hl'
    refine ⟨by simp only [List.map_cons,List.zipIdx_cons,h1],by simp [h2],λ j y' v hy' hv=>?_⟩
    cases j with
    | zero=>simp only [List.map_cons,List.getElem?_cons_zero,Option.some.injEq] at hy' hv; subst hy' hv; exact tF hz (bq hs hy)
    | succ j=>simp only [List.map_cons,List.getElem?_cons_succ] at hy' hv; exact h3 j y' v hy' hv
   ·cases h
  ·cases h
theorem ut {w:World}{st:Nat→Nat→Prop}{x:PV}{v:Value}(h:PRep w st x v)(ho:PV.onesB x.cells=true) :
  v.cells.size=x.cells.length∧∀ (i:Nat) c u,x.cells[i]? = some c→v.cells[i]? = some u→PRep w st c u∧u.oneCell'=true:=by
 have single:x.one=true→x.cells=[x]→v.cells.size=x.cells.length∧∀ (i:Nat) c u,x.cells[i]? = some c→v.cells[i]? = some u→PRep w st c u∧u.oneCell'=true:=by
  intro h1 h2
  have h3:=PV.one_rep h h1
  rw [qK h3,h2]
  refine ⟨Z,λ i c u h4 h5=>?_⟩
  cases i with
  | zero=>simp only [List.getElem?_cons_zero,Option.some.injEq] at h4; simp at h5; subst h4 h5; exact ⟨h,h3⟩
  | succ i=>simp at h4
 cases h with
 | val v=>exact single (iQ ho _ (by simp [PV.cells])) Z
 | agg hl hh =>
  refine ⟨hl,λ i c u h1 h2=>?_⟩
  have h4:=hh i c u h1 h2
  exact ⟨h4,PV.one_rep h4 (iQ ho c (List.mem_of_getElem? h1))⟩
 | ifc=>exact single Z Z
 | aint=>exact single Z Z
 | nils=>exact single Z Z
 | nile a=>exact single Z Z
 | slice=>exact single Z Z
def rA (k:Nat):List PV→Bool
 | []=>true
 | x::r=>Nat.beq x.cells.length k&&PV.onesB x.cells&&rA k r
theorem kb {k:Nat}:∀ {l:List PV},rA k l=true→∀ x,x∈l→x.cells.length=k∧PV.onesB x.cells=true
 | [],_,_,h=>by simp at h
 | y::r,h,x,hx=>by
  simp only [rA,Bool.and_eq_true] at h
  rcases List.mem_cons.1 hx with rfl | hx
  ·exact ⟨Nat.eq_of_beq_eq_true h.1.1,h.1.2⟩
  ·exact kb h.2 x hx
theorem BG {w:World}{st:Nat→Nat→Prop}{es:List PV}{vs:List Value}{k:Nat}{r:Array Value}{e:TypeId}(hk:0 < k)(hl:es.length=vs.length)(hlt:∀ b o,st b o→b < w.heap.size)
  (hr:∀ (j:Nat) y v,es[j]? = some y→vs[j]? = some v→PRep w st y v) (hsz:rA k es=true)
  (hrs:r.size=es.length*k) (hrk:∀ m,m < es.length*k→r[m]? = (vs[m / k]?).bind (λ v=>v.cells[m % k]?)) (cap:Nat) (hcap:es.length≤cap) :
  PRep (w.alloc (.cells r e)) (λ b o=>st b o∨(b=w.heap.size∧o < es.length*k)) (.slice es) (.slice (some ⟨w.heap.size,0,none⟩) es.length cap):=by
 have hev:=j2 (w:=w) (T:=λ o=>o < es.length*k) (ob:=.cells r e) hlt
 have key:∀ (i:Nat) y (j:Nat) c,es[i]? = some y→y.cells[j]? = some c→i*k+j < es.length*k∧∃ v u,vs[i]? = some v∧v.cells[j]? = some u∧PRep w st c u∧u.oneCell'=true:=by
  intro i y j c hy hc
  obtain ⟨m1,m2⟩:=kb hsz y (List.mem_of_getElem? hy)
  have hi:i < es.length:=(List.getElem?_eq_some_iff.1 hy).1
  have hj:j < k:=by rw [← m1]; exact (List.getElem?_eq_some_iff.1 hc).1
  have h1:(i+1)*k≤es.length*k:=Nat.mul_le_mul_right k O
  rw [Nat.add_mul] at h1
  refine ⟨by omega,vs[i]' O,?_⟩
  have hp:=hr i y _ hy (List.getElem?_eq_getElem O)
  obtain ⟨q1,q2⟩:=ut hp m2
  have hj':j < (vs[i]' O).cells.size:=by omega
  obtain ⟨q3,q4⟩:=q2 j c _ hc (Array.getElem?_eq_getElem hj')
  exact ⟨_,List.getElem?_eq_getElem O,Array.getElem?_eq_getElem hj',q3,q4⟩
 refine .slice k (λ i j=>r.getD (i*k+j) Go.undef) hcap (λ y hy=>(kb hsz y hy).1) (λ y hy c hc=>iQ (kb hsz y hy).2 c hc) (λ i y j c hy hc=>?_) (λ i y j c hy hc=>?_)
 ·obtain ⟨h1,v,u,h2,h3,h4,_⟩:=key i y j c hy hc
  have hlt':i*k+j < r.size:=by omega
  refine ⟨.inr ⟨Z,by omega⟩,?_⟩
  rw [World.cell?_alloc_new]
  simp [Array.getD,hlt']
 ·obtain ⟨h1,v,u,h2,h3,h4,_⟩:=key i y j c hy hc
  have hj:j < k:=by rw [← (kb hsz y (List.mem_of_getElem? hy)).1]; exact (List.getElem?_eq_some_iff.1 hc).1
  have e1:r[i*k+j]? = some u:=by
   rw [hrk _ h1]
   have d1:(i*k+j) / k=i:=by rw [Nat.mul_comm,Nat.mul_add_div hk,Nat.div_eq_of_lt hj]; rfl
   have d2:(i*k+j) % k=j:=by rw [Nat.mul_comm,Nat.mul_add_mod,Nat.mod_eq_of_lt hj]
   rw [d1,d2,h2]; exact h3
  rw [Array.getD_eq_getD_getElem?,e1]
  exact h4.mono hev
theorem ce {t e len:Nat}{parts:Array (Nat×Operand)}{i ie:TI}{es:List PV}(ho:o.op=.buildSlice t len parts)(hd:o.dst=some d)(hn:Nat.blt d C.n=true)
  (hi:look C.tt t=some i) (hik:i.k=.slice e) (hie:look C.tt e=some ie) (hes:mz sl 0 parts.toList=some es) (hlen:Nat.beq es.length len=true) (hpos:Nat.blt 0 len=true)
  (hk:Nat.blt 0 ie.size=true) (hsm:Nat.ble (len*ie.size) 16777216=true) (hsz:rA ie.size es=true) (hzl:Nat.beq ie.zero.length ie.size=true)
  (hK:K ⟨(d,.p (.slice es))::sl,ob⟩):aW C o K ⟨sl,ob⟩:=by
 obtain ⟨u,h1,h2⟩:=bc C.good hi
 have h3:=bn (h2.trans hik)
 subst h3
 have hlen':es.length=len:=Nat.eq_of_beq_eq_true hlen
 have hpos':0 < len:=by simpa using hpos
 have hk':0 < ie.size:=by simpa using hk
 have hsm':=Nat.le_of_ble_eq_true hsm
 have hzl':=Nat.eq_of_beq_eq_true hzl
 obtain ⟨j,hj,hj1,hj2,z,hz1,hz2⟩:=fR C.good hie
 intro g a w hs
 obtain ⟨q1,q2,q3⟩:=ss hs _ 0 es hes
 obtain ⟨vs,hvs⟩:∃ vs,vs=parts.toList.map λ p=>a.eval p.2:=⟨_,rfl⟩
 rw [← hvs] at q1 q3
 have hvl:es.length=vs.length:=by rw [hvs,List.length_map]; exact q2
 have hzs:z.cells.size=ie.size:=by rw [← hzl',← hz2,Array.length_toList]
 have hvsz:∀ v∈vs,v.cells.size=ie.size:=by
  intro v hv
  obtain ⟨m,hm,rfl⟩:=List.getElem_of_mem hv
  have hp:=q3 m (es[m]' O) _ (List.getElem?_eq_getElem O) (List.getElem?_eq_getElem hm)
  obtain ⟨m1,m2⟩:=kb hsz (es[m]' O) (List.getElem_mem _)
  rw [(ut hp m2).1,m1]
 obtain ⟨r,f1,f2,f3⟩:=Great.fill_dense hk' vs 0 ((Array.range (len*ie.size)).map (z.cells[· % z.cells.size]!)) hvsz (by simp; rw [← hvl,hlen']; exact Nat.le_refl _)
 have f1':Instr.fill (λ i=>some (i*ie.size,ie.size)) ((Array.range (len*ie.size)).map (z.cells[· % z.cells.size]!)) (parts.map λ (i,x)=>(i,a.eval x)).toList=some r:=by
  rw [Array.toList_map]; rw [← f1]; congr 1
 have hrun:=run_buildSlice (P:=C.P) w t e len (parts.map λ (i,x)=>(i,a.eval x)) r j z h1 hj hz1 (by rw [hj1]; omega) (by rw [hj1]; have:=Nat.mul_pos hpos' hk'; omega) (by rw [hj1]; exact f1')
 unfold Oper.wp
 have hrun':(execOp a.eval o).run C.P w=.ok (.value (.slice (some ⟨w.heap.size,0,none⟩) len len)) (w.alloc (.cells r e)):=by
  simp only [execOp,ho,Sem.run_bind,hrun,Result.andThen_ok,Sem.run_pure]
 rw [hrun']
 have hprep:=BG (e:=e) hk' hvl hs.lt q3 hsz (r:=r) (by rw [f2]; simp; rw [hlen']) (λ m hm=>by rw [f3 m,if_pos (by simp; rw [← hvl]; exact hm)]; simp) len O
 have hst:=(hs.settled (λ o=>o < es.length*ie.size) r e).put (d:=o.dst) (λ t ht=>by rw [hd] at ht; cases ht; exact Nat.blt_eq ▸ hn) (.p hprep)
 rw [hlen'] at hst
 simp only [Oper.upon]
 rw [hd] at hst ⊢
 exact ⟨_,_,hst,hK⟩
def lN (sl:List (Nat×AV)):List Operand→Option (List AV)
 | []=>some []
 | x::r=>match evo sl x,lN sl r with
  | some y,some l=>some (y::l)
  | _,_=>none
def xY:List AV→List PV→Prop
 | [],[]=>True
 | x::r,y::q=>x.sub (.p y)∧xY r q
 | _,_=>False
theorem nt {n:Nat}{w0:Base}{w:World}{F:Nat→Prop}{g:Gh}{a:Act}(hs:St n w0 F g ⟨sl,ob⟩ a w):∀ (xs:List Operand) (l:List AV),lN sl xs=some l →
  l.length=xs.length∧∀ (j:Nat) y v,l[j]? = some y→(xs.map a.eval)[j]? = some v→ARep w g y v
 | [],l,h=>by simp only [lN,Option.some.injEq] at h; subst h; exact ⟨Z,by simp⟩
 | x::r,l,h=>by
  simp only [lN] at h
  split at h
  ·rename_i y l' hy hl'
   cases h
   obtain ⟨h1,h2⟩:=nt hs r l' hl'
   refine ⟨by simp [h1],λ j y' v hy' hv=>?_⟩
   cases j with
   | zero=>simp only [List.map_cons,List.getElem?_cons_zero,Option.some.injEq] at hy' hv; subst hy' hv; exact bq hs hy
   | succ j=>simp only [List.map_cons,List.getElem?_cons_succ] at hy' hv; exact h2 j y' v hy' hv
  ·cases h
theorem u3:∀ {l:List AV} {q:List PV},xY l q→l.length=q.length∧∀ (j:Nat) x y,l[j]? = some x→q[j]? = some y→x.sub (.p y)
 | [],[],_=>⟨Z,by simp⟩
 | [],_::_,h=>h.elim
 | _::_,[],h=>h.elim
 | x::r,y::q,h=>by
  obtain ⟨h1,h2⟩:=u3 h.2
  refine ⟨by simp [h1],λ j x' y' hx hy=>?_⟩
  cases j with
  | zero=>simp only [List.getElem?_cons_zero,Option.some.injEq] at hx hy; subst hx hy; exact h.1
  | succ j=>simp only [List.getElem?_cons_succ] at hx hy; exact h2 j x' y' hx hy
def AV.settle:AV→Option AV
 | .p x=>some (.p x)
 | .vec _ _ _ es=>some (.p (.slice es))
 | .tuple l=>match go l with
  | some l=>some (.tuple l)
  | none=>none
 | .agg cs=>match AV.toPV (.agg cs) with
  | some y=>some (.p y)
  | none=>none
 | _=>none where
 go:List AV→Option (List AV)
 | []=>some []
 | x::r=>match AV.toPV x,go r with
  | some y,some l=>some (.p y::l)
  | _,_=>none
theorem vl {w:World}{g g':Gh}(hst:g'.st=g.st):∀ {l l':List AV},AV.settle.go l=some l'→l.length=l'.length∧∀ (j:Nat) x y v,l[j]? = some x→l'[j]? = some y→ARep w g x v→ARep w g' y v
 | [],l',h=>by simp only [AV.settle.go,Option.some.injEq] at h; subst h; exact ⟨Z,by simp⟩
 | x::r,l',h=>by
  simp only [AV.settle.go] at h
  split at h
  ·rename_i y l0 hy h0
   cases h
   obtain ⟨h1,h2⟩:=vl (w:=w) hst h0
   refine ⟨by simp [h1],λ j x' y' v hx hy' hv=>?_⟩
   cases j with
   | zero=>simp only [List.getElem?_cons_zero,Option.some.injEq] at hx hy'; subst hx hy'; exact .p (hst ▸ tF hy hv)
   | succ j=>simp only [List.getElem?_cons_succ] at hx hy'; exact h2 j x' y' v hx hy' hv
  ·cases h
theorem x6 {w:World}{g g':Gh}(hst:g'.st=g.st){x y:AV}{v:Value}(hx:x.settle=some y)(h:ARep w g x v):ARep w g' y v:=by
 unfold AV.settle at hx
 split at hx
 ·cases hx; cases h with | p h=>exact .p (hst ▸ h)
 ·cases hx; exact .p (hst ▸ ko (.inr ⟨_,_,_,rfl⟩) h)
 ·split at hx
  ·rename_i l _ l' h'
   cases hx
   cases h with
   | tuple hl hh =>
    obtain ⟨h1,h2⟩:=vl (w:=w) hst h'
    refine .tuple O λ i c v hc hv=>?_
    have hi:i < l.length:=by have:=(List.getElem?_eq_some_iff.1 hc).1; omega
    exact h2 i l[i] c v (List.getElem?_eq_getElem hi) hc (hh i _ v (List.getElem?_eq_getElem hi) hv)
  ·cases hx
 ·split at hx
  ·rename_i y' h'; cases hx; exact .p (hst ▸ tF h' h)
  ·cases hx
 ·cases hx
theorem Dd {f:FuncId}{args:Array Operand}{ts:Array TypeId}{l:List AV}{q:List PV}{R:AV→Prop}(hc:aA C.P f q R)(ho:o.op=.call { callee:=.value (.func f),args:=args,argTypes:=ts })
  (hd:o.dst=some d) (hn:Nat.blt d C.n=true) (hl:lN sl args.toList=some l) (hq:xY l q) (henter:∀ vs w,(callFunc f vs).run C.P w=.ok (.enter f vs) w)
  (hK:∀ r,R r→∃ r',r.settle=some r'∧K ⟨(d,r')::sl,ob⟩):aW C o K ⟨sl,ob⟩:=by
 intro g a w hs
 obtain ⟨a1,a2⟩:=nt hs _ l hl
 obtain ⟨b1,b2⟩:=u3 hq
 have hargs:∀ (i:Nat) c v,q[i]? = some c→(args.map a.eval)[i]? = some v→PRep w g.st c v:=by
  intro i c v hc hv
  have hi:i < l.length:=by have:=(List.getElem?_eq_some_iff.1 hc).1; omega
  have hv':(args.toList.map a.eval)[i]? = some v:=by rw [← Array.toList_map]; simpa using hv
  have h1:=b2 i l[i] c (List.getElem?_eq_getElem hi) hc w g v (a2 i _ v (List.getElem?_eq_getElem hi) hv')
  cases h1 with
  | p h1=>exact h1
 have hcall:=hc w g.st (args.map a.eval) hs.ok0 (by have hlen:=a1.symm.trans b1; simpa using hlen) hargs
 unfold Oper.wp
 have hrun:(execOp a.eval o).run C.P w=.ok (.enter f (args.map a.eval)) w:=by
  simp [execOp,ho,resolve,Act.eval,Deferred.ofValue,invoke,henter]
 rw [hrun]
 simp only [Oper.upon]
 refine hcall.mono λ e w' ⟨v,r,g',he,hR,hr,hA⟩=>?_
 subst he
 obtain ⟨r',hr',hK'⟩:=hK r hR
 have hs':St C.n C.w0 C.F ⟨g'.st,g.ow⟩ ⟨sl,ob⟩ a w':=by
  refine hs.evolve0 (λ b o h=>?_) (λ id b h=>?_) hs.inj (λ i b h=>?_) hA.lt (λ b h=>?_) hA.os hA.out hA.tape hA.size (λ b hb o=>?_) (λ _ _=>rfl)
  ·have hlt:=hs.lt b o h
   exact ⟨(hA.stf b hlt o).2 h,by simp only [World.cell?,hA.fr b hlt]⟩
  ·have hlt:=(hs.own id b h).1
   exact ⟨h,hA.fr b hlt,λ o ho=>(hA.stf b hlt o).1 ho⟩
  ·have:=hs.own i b h; have:=hA.size; exact ⟨by omega,(hs.own i b h).2⟩
  ·have:=hs.fl b h; have:=hs.size; exact hA.fr b O
  ·have:=hs.fl b hb; have:=hs.size; exact hA.stf b O o
 have hp:=hs'.put (d:=o.dst) (λ t ht=>by rw [hd] at ht; cases ht; exact Nat.blt_eq ▸ hn) (x6 (g:=g') (g':=⟨g'.st,g.ow⟩) rfl hr' hr)
 rw [hd] at hp
 simp only
 rw [hd]
 exact ⟨_,_,hp,hK'⟩
theorem bw {f:FuncId}{args:Array Operand}{ts:Array TypeId}{l:List AV}{q:List PV}{r r':AV}(hc:aA C.P f q (·=r))(ho:o.op=.call { callee:=.value (.func f),args:=args,argTypes:=ts })
  (hd:o.dst=some d) (hn:Nat.blt d C.n=true) (hl:lN sl args.toList=some l) (hq:xY l q) (henter:∀ vs w,(callFunc f vs).run C.P w=.ok (.enter f vs) w)
  (hr:r.settle=some r') (hK:K ⟨(d,r')::sl,ob⟩):aW C o K ⟨sl,ob⟩ :=
 Dd hc ho hd hn hl hq henter λ _ e=>e ▸ ⟨r',hr,hK⟩
end
end Go.Ab
end
section
namespace Go.Ab
theorem pd {P:Program}{w:World}{st:Nat→Nat→Prop}{ys:List PV}{v:Value}{sz:Nat}{tx e':TypeId}(hk:P.underlying tx=some (.slice e'))(h:PRep w st (.slice ys) v)
  (hsz:∀ y∈ys,y.cells.length=sz) (h0:0 < sz) :
  ∃ news:List Value,Src P sz tx v ys.length news w∧(∀ (i:Nat) y (j:Nat) c,ys[i]? = some y→y.cells[j]? = some c→c.one=true∧∃ u,news[i*sz+j]? = some u∧PRep w st c u):=by
 have hempty:ys=[]→∃ news:List Value,Src P sz tx v ys.length news w∧(∀ (i:Nat) y (j:Nat) c,ys[i]? = some y→y.cells[j]? = some c→c.one=true∧∃ u,news[i*sz+j]? = some u∧PRep w st c u):=by
  intro e
  subst e
  rcases h.nil_inv with rfl | ⟨a,cap,rfl⟩
  ·exact ⟨[],Src.ofNil w hk 0,by simp⟩
  ·exact ⟨[],Src.ofSlice w hk a 0 cap [] G G G,by simp⟩
 by_cases hne:ys=[]
 ·exact hempty hne
 cases h with
 | nils=>exact absurd Z hne
 | nile a=>exact absurd Z hne
 | slice sz' cf hcap hsz' hone hc hr =>
  rename_i b off cap
  have e1:sz'=sz:=by
   cases ys with
   | nil=>exact absurd Z hne
   | cons y r=>exact (hsz' y G).symm.trans (hsz y G)
  subst e1
  have cellOf:∀ (i j:Nat),i < ys.length→j < sz'→∃ y c,ys[i]? = some y∧y.cells[j]? = some c:=by
   intro i j hi hj
   have h1:=hsz ys[i] (List.getElem_mem hi)
   exact ⟨ys[i],(ys[i]).cells[j]' O,List.getElem?_eq_getElem hi,List.getElem?_eq_getElem O⟩
  have split:∀ m,m < ys.length*sz'→m / sz' < ys.length∧m % sz' < sz'∧m / sz'*sz'+m % sz'=m:=by
   intro m hm
   exact ⟨(Nat.div_lt_iff_lt_mul h0).2 hm,Nat.mod_lt _ h0,by rw [Nat.mul_comm]; exact Nat.div_add_mod m sz'⟩
  refine ⟨(List.range (ys.length*sz')).map λ m=>cf (m / sz') (m % sz'),Src.ofSlice w hk ⟨b,off,none⟩ ys.length cap _ G (λ j u hu=>?_) (λ u hu=>?_),λ i y j c hy hc'=>?_⟩
  ·simp only [List.getElem?_map,Option.map_eq_some_iff] at hu
   obtain ⟨m,hm,rfl⟩:=hu
   have hj:j < ys.length*sz':=by have:=(List.getElem?_eq_some_iff.1 hm).1; simpa using this
   rw [List.getElem?_range hj] at hm; cases hm
   obtain ⟨s1,s2,s3⟩:=split j hj
   obtain ⟨y,c,hy,hcc⟩:=cellOf _ _ s1 s2
   have:=(hc _ y _ c hy hcc).2
   rw [show off+j / sz'*sz'+j % sz'=off+j by omega] at this
   rw [add_lit]; exact this
  ·simp only [List.mem_map,List.mem_range] at hu
   obtain ⟨m,hm,rfl⟩:=hu
   obtain ⟨s1,s2,s3⟩:=split m hm
   obtain ⟨y,c,hy,hcc⟩:=cellOf _ _ s1 s2
   exact PV.one_rep (hr _ y _ c hy hcc) (hone y (List.mem_of_getElem? hy) c (List.mem_of_getElem? hcc))
  ·have hi:i < ys.length:=(List.getElem?_eq_some_iff.1 hy).1
   have hj:j < sz':=by rw [← hsz y (List.mem_of_getElem? hy)]; exact (List.getElem?_eq_some_iff.1 hc').1
   have h1:(i+1)*sz'≤ys.length*sz':=Nat.mul_le_mul_right sz' O
   rw [Nat.add_mul] at h1
   refine ⟨hone y (List.mem_of_getElem? hy) c (List.mem_of_getElem? hc'),cf i j,?_,hr i y j c hy hc'⟩
   rw [List.getElem?_map,List.getElem?_range O,Option.map_some]
   have d1:(i*sz'+j) / sz'=i:=by rw [Nat.mul_comm,Nat.mul_add_div h0,Nat.div_eq_of_lt hj]; rfl
   have d2:(i*sz'+j) % sz'=j:=by rw [Nat.mul_comm,Nat.mul_add_mod,Nat.mod_eq_of_lt hj]
   rw [d1,d2]
theorem zM {w:World}{g:Gh}{tok b off cap sz ty:Nat}{c:Array Value}{e:TypeId}{es:List PV}(how:g.ow tok=some b)(hb:w.heap[b]? = some (.cells c e (0,0)))(hcs:c.size=off+cap*sz)
  (hcap:es.length≤cap) (hsz:∀ e,e∈es→e.cells.length=sz) (hst:∀ o,g.st b o↔o < off+es.length*sz)
  (hcell:∀ (i:Nat) y (j:Nat) x,es[i]? = some y→y.cells[j]? = some x→x.one=true∧∃ u,c[off+i*sz+j]? = some u∧PRep w g.st x u) (hty:ty=0∨ty=e+1∧off=0) :
  ARep w g (.vec tok sz ty es) (.slice (some ⟨b,off,none⟩) es.length cap):=by
 have hj:∀ (i:Nat) y (j:Nat) x,es[i]? = some y→y.cells[j]? = some x→i*sz+j < es.length*sz:=by
  intro i y j x hy hx
  have hi:i < es.length:=(List.getElem?_eq_some_iff.1 hy).1
  have hj:j < sz:=by rw [← hsz y (List.mem_of_getElem? hy)]; exact (List.getElem?_eq_some_iff.1 hx).1
  have h1:(i+1)*sz≤es.length*sz:=Nat.mul_le_mul_right sz O
  rw [Nat.add_mul] at h1
  omega
 refine .vec how hb hcs hsz hst (.slice sz (λ i j=>c.getD (off+i*sz+j) Go.undef) hcap hsz (λ y hy x hx=>?_) (λ i y j x hy hx=>⟨(hst _).2 (by have:=hj i y j x hy hx; omega),?_⟩) (λ i y j x hy hx=>?_)) hty
 ·obtain ⟨i,hi,rfl⟩:=List.getElem_of_mem hy
  obtain ⟨j,hj',rfl⟩:=List.getElem_of_mem hx
  exact (hcell i _ j _ (List.getElem?_eq_getElem hi) (List.getElem?_eq_getElem hj')).1
 ·obtain ⟨_,u,hu,_⟩:=hcell i y j x hy hx
  simp only [World.cell?,hb]
  rw [Array.getD_eq_getD_getElem?,hu]; rfl
 ·obtain ⟨_,u,hu,hr⟩:=hcell i y j x hy hx
  rw [Array.getD_eq_getD_getElem?,hu]; exact hr
theorem EY {w:World}{g:Gh}{tok b cap sz ty:Nat}{c:Array Value}{e:TypeId}{es:List PV}(how:g.ow tok=some b)(hb:w.heap[b]? = some (.cells c e (0,0)))(hcs:c.size=cap*sz)
  (hcap:es.length≤cap) (hsz:∀ e,e∈es→e.cells.length=sz) (hst:∀ o,g.st b o↔o < es.length*sz)
  (hcell:∀ (i:Nat) y (j:Nat) x,es[i]? = some y→y.cells[j]? = some x→x.one=true∧∃ u,c[i*sz+j]? = some u∧PRep w g.st x u) (hty:ty=0∨ty=e+1) :
  ARep w g (.vec tok sz ty es) (.slice (some ⟨b,0,none⟩) es.length cap) :=
 zM how hb O hcap hsz (λ o=>(hst o).trans (by rw [Nat.zero_add])) (λ i y j x h1 h2=>by rw [Nat.zero_add]; exact hcell i y j x h1 h2) (hty.imp id λ h=>⟨h,Z⟩)
theorem w9 {w:World}{g:Gh}{sz b off cap:Nat}{es:List PV}{c:Array Value}{e:TypeId}(hsz:∀ e,e∈es→e.cells.length=sz)
  (hb:w.heap[b]? = some (.cells c e (0,0))) (hr:PRep w g.st (.slice es) (.slice (some ⟨b,off,none⟩) es.length cap)) :
  ∀ (i:Nat) y (j:Nat) x,es[i]? = some y→y.cells[j]? = some x→x.one=true∧∃ u,c[off+i*sz+j]? = some u∧PRep w g.st x u:=by
 intro i y j x hy hx
 cases hr with
 | nile a=>simp at hy
 | slice sz' cf hcap hsz' hone hc hr =>
  have e1:sz'=sz:=(hsz' y (List.mem_of_getElem? hy)).symm.trans (hsz y (List.mem_of_getElem? hy))
  subst e1
  have h1:=(hc i y j x hy hx).2
  simp only [World.cell?,hb] at h1
  exact ⟨hone y (List.mem_of_getElem? hy) x (List.mem_of_getElem? hx),cf i j,h1,hr i y j x hy hx⟩
theorem De {w:World}{g:Gh}{sz b cap:Nat}{es:List PV}{c:Array Value}{e:TypeId}(hsz:∀ e,e∈es→e.cells.length=sz)
  (hb:w.heap[b]? = some (.cells c e (0,0))) (hr:PRep w g.st (.slice es) (.slice (some ⟨b,0,none⟩) es.length cap)) :
  ∀ (i:Nat) y (j:Nat) x,es[i]? = some y→y.cells[j]? = some x→x.one=true∧∃ u,c[i*sz+j]? = some u∧PRep w g.st x u:=λ i y j x h1 h2=>by
 have:=w9 hsz hb hr i y j x h1 h2
 rwa [Nat.zero_add] at this
theorem St.inplace {n:Nat}{w0:Base}{w:World}{F:Nat→Prop}{g:Gh}{s:AS}{a:Act}(hs:St n w0 F g s a w)(D:Nat→Bool)(hDl:∀ i,D i=true→i < M1){k d b:Nat}(hk:g.ow k=some b)(hDk:D k=true)(hDd:D d=true)
  {c c':Array Value} {e:TypeId} (hb:w.heap[b]? = some (.cells c e (0,0))) (hsz:c'.size=c.size) (hcc:∀ o,g.st b o→c'[o]? = c[o]?) (T:Nat→Prop) (hT:∀ o,g.st b o→T o) :
  St n w0 F ⟨λ b' o=>(b'=b∧T o)∨(b'≠b∧g.st b' o),λ i=>if i=d then some b else if D i then none else g.ow i⟩ (ct D s) a (w.setRow b c'):=by
 have hbl:b < w.heap.size:=(hs.own k b hk).1
 have hnF:¬ F b:=(hs.own k b hk).2
 have keyD:∀ i b',D i=false→g.ow i=some b'→b'≠b:=λ i b' hD hi e=>by
  subst e
  have:=hs.inj i k b' hi hk
  subst this
  rw [hDk] at hD; cases hD
 refine hs.evolve D hDl (λ b' o h=>?_) (λ id b' hD h=>?_) (λ i j b' h1 h2=>?_) (λ i b' h=>?_) (λ b' o h=>?_) (λ b' h=>?_) Z Z Z G (λ b' hb' o=>?_) (λ i hi=>?_)
 ·by_cases e:b'=b
  ·subst e
   refine ⟨.inl ⟨Z,hT o h⟩,?_⟩
   simp only [World.cell?,hb,setRow_heap w b' c c' _ (0,0) hb]
   simpa using hcc o h
  ·exact ⟨.inr ⟨e,h⟩,by simp only [World.cell?,setRow_other w b b' c' e]⟩
 ·have hne:=keyD id b' hD h
  have hid:id≠d:=λ e=>by subst e; rw [hDd] at hD; cases hD
  refine ⟨by simp only [if_neg hid,hD]; exact h,setRow_other w b b' c' hne,λ o ho=>?_⟩
  rcases ho with ⟨h1,_⟩ | ⟨_,h1⟩
  ·exact absurd h1 hne
  ·exact h1
 ·have key:∀ i,(if i=d then some b else if D i then none else g.ow i)=some b'→(i=d∧b'=b)∨(i≠d∧D i=false∧g.ow i=some b'):=by
   intro i h
   by_cases e1:i=d
   ·rw [if_pos e1] at h; cases h; exact .inl ⟨e1,rfl⟩
   ·rw [if_neg e1] at h
    cases hD:D i
    ·rw [hD] at h; exact .inr ⟨e1,rfl,h⟩
    ·rw [hD] at h; cases h
  rcases key i h1 with ⟨a1,a2⟩ | ⟨a1,a2,a3⟩ <;> rcases key j h2 with ⟨b1,b2⟩ | ⟨b1,b2,b3⟩
  ·rw [a1,b1]
  ·exact absurd a2 (keyD j b' b2 b3)
  ·exact absurd b2 (keyD i b' a2 a3)
  ·exact hs.inj i j b' a3 b3
 ·dsimp only at h
  by_cases e1:i=d
  ·rw [if_pos e1] at h; cases h
   exact ⟨by simpa using hbl,hnF⟩
  ·rw [if_neg e1] at h
   split at h
   ·cases h
   ·have:=hs.own i b' h; exact ⟨by simpa using this.1,this.2⟩
 ·rcases h with ⟨h,_⟩ | ⟨_,h⟩
  ·subst h; simpa using hbl
  ·have:=hs.lt b' o h; simpa using this
 ·exact setRow_other w b b' c' λ e=>hnF (e ▸ h)
 ·have hne:b'≠b:=λ e=>hnF (e ▸ hb')
  exact ⟨λ h=>(h.resolve_left λ h=>hne h.1).2,λ h=>.inr ⟨hne,h⟩⟩
 ·have h1:i≠d:=λ e=>by have:=hDl d hDd; omega
  have h2:D i=false:=by
   cases hq:D i
   ·rfl
   ·have:=hDl i hq; omega
  simp only [if_neg h1,h2]; rfl
section
variable {C:Cx} {o:Oper} {K:AS→Prop} {sl:List (Nat×AV)} {ob:List (Nat×List AV)} {d:Nat}
theorem kr {P:Program}{w w':World}(t tx ty e:TypeId)(i:TypeInfo)(ht:P.underlying t=some (.slice e))(hi:P.info? e=some i)(b sLen sCap:Nat)(x:Value)(n:Nat)(news:List Value)(hs:Src P i.size tx x n news w)
  (hroom:sLen+n≤sCap) (hst:(storeCells ⟨b,sLen*i.size,none⟩ news).run P w=.ok () w') :
  (Builtin.append_ #[t,tx] ty #[.slice (some ⟨b,0,none⟩) sLen sCap,x]).run P w=.ok (.slice (some ⟨b,0,none⟩) (sLen+n) sCap) w':=by
 rcases hs.kind with ⟨e',hk⟩ | hk <;> simp [Builtin.append_,run_underlying ht,run_underlying hk,sizeOf,typeInfo,hi,hs.len,hroom,hs.cells,add_lit,hst]
theorem rG {P:Program}{w w':World}(t tx ty e:TypeId)(i:TypeInfo)(ht:P.underlying t=some (.slice e))(hi:P.info? e=some i)(b off sLen sCap:Nat)(x:Value)(n:Nat)(news:List Value)(hs:Src P i.size tx x n news w)
  (hroom:sLen+n≤sCap) (hst:(storeCells ⟨b,off+sLen*i.size,none⟩ news).run P w=.ok () w') :
  (Builtin.append_ #[t,tx] ty #[.slice (some ⟨b,off,none⟩) sLen sCap,x]).run P w=.ok (.slice (some ⟨b,off,none⟩) (sLen+n) sCap) w':=by
 rcases hs.kind with ⟨e',hk⟩ | hk <;> simp [Builtin.append_,run_underlying ht,run_underlying hk,sizeOf,typeInfo,hi,hs.len,hroom,hs.cells,add_lit,hst]
def y8 (C:Cx)(sl:List (Nat×AV))(ob:List (Nat×List AV))(tx:TypeId)(y:Operand)(sz:Nat)(ys:List PV):Prop :=
 ∀ (g:Gh) (a:Act) (w:World),St C.n C.w0 C.F g ⟨sl,ob⟩ a w→∃ news:List Value,Src C.P sz tx (a.eval y) ys.length news w ∧
  (∀ (i:Nat) y (j:Nat) c,ys[i]? = some y→y.cells[j]? = some c→c.one=true∧∃ u,news[i*sz+j]? = some u∧PRep w g.st c u)
theorem xr {tx e':TypeId}{y:Operand}{Y0z:AV}{ys:List PV}{sz:Nat}{j:TI}(hj:look C.tt tx=some j)(hjk:j.k=.slice e')
  (hy:evo sl y=some Y0z) (hY:Y0z.elems? = some ys) (hsz:∀ y∈ys,y.cells.length=sz) (h0:0 < sz):y8 C sl ob tx y sz ys:=by
 intro g a w hs
 obtain ⟨u',h1',h2'⟩:=bc C.good hj
 have h3':=bn (h2'.trans hjk)
 subst h3'
 exact pd (P:=C.P) h1' (fp hY (bq hs hy)) hsz h0
theorem nS (ty0:Nat){es ys:List PV}{t tx e:TypeId}{i ie:TI}{y:Operand}(D:Nat→Bool)(hDl:∀ i,D i=true→i < M1)(hDd:D d=true)
  (hi:look C.tt t=some i) (hik:i.k=.slice e) (hie:look C.tt e=some ie)
  (hS:y8 C sl ob tx y ie.size ys) (hsz:∀ y∈ys,y.cells.length=ie.size) (h0:0 < ie.size) (hzl:ie.zero.length=ie.size)
  (hlen:(es.length+ys.length)*ie.bytes≤140737488355328) (hlen':es.length+ys.length≤9223372036854775807)
  {g:Gh} {a:Act} {w:World} (hs:St C.n C.w0 C.F g ⟨sl,ob⟩ a w) (base:Option Addr) (cap:Nat) (olds:List Value)
  (hold:(Builtin.firstCells ie.size es.length (.slice base es.length cap)).run C.P w.drew=.ok olds.toArray w.drew) (hol:olds.length=es.length*ie.size)
  (hes:∀ e,e∈es→e.cells.length=ie.size)
  (hoc:∀ (i:Nat) y (j:Nat) x,es[i]? = some y→y.cells[j]? = some x→x.one=true∧∃ u,olds[i*ie.size+j]? = some u∧PRep w g.st x u)
  (hg:cap < es.length+ys.length) (ty:TypeId) (hd:o.dst=some d) (hn:Nat.blt d C.n=true) (hty:ty0=0∨ty0=e+1) :
  ∃ v w' g',(Builtin.append_ #[t,tx] ty #[.slice base es.length cap,a.eval y]).run C.P w=.ok v w' ∧
   St C.n C.w0 C.F g' ⟨(d,.vec d ie.size ty0 (es++ys))::(ct D ⟨sl,ob⟩).sl,(ct D ⟨sl,ob⟩).ob⟩ (a.put (some d) v) w':=by
 obtain ⟨u,h1,h2⟩:=bc C.good hi
 have h3:=bn (h2.trans hik)
 subst h3
 obtain ⟨info,hf1,hf2,hf3,z,hf4,hf5⟩:=fR C.good hie
 obtain ⟨news,hsrc,hnews⟩:=hS g a w hs
 have hfit:=growslice_fits (bytes:=ie.bytes) hg hlen
 have hrun:=run_append_grow_src w t tx ty e info z h1 hf1 hf4 base es.length cap olds (by rw [hf2]; exact hold) (a.eval y) ys.length news (by rw [hf2]; exact hsrc) hg O (by rw [hf3]; exact hfit)
 obtain ⟨q,hq⟩:∃ q,q=grownCap w (es.length+ys.length) cap e:=⟨_,rfl⟩
 rw [← hq] at hrun
 have hqn:es.length+ys.length≤q:=by
  rw [hq]; unfold grownCap; simp only [Question.cut]; omega
 have hzs:z.cells.size=ie.size:=by rw [← hzl,← hf5,Array.length_toList]
 obtain ⟨c,hc⟩:∃ c,c=(olds++news).toArray++Builtin.zeroCells z.cells (q - (es.length+ys.length)):=⟨_,rfl⟩
 rw [← hc] at hrun
 have hcs:c.size=q*ie.size:=by
  rw [hc]
  simp only [Array.size_append,List.size_toArray,List.length_append,hol,hsrc.newsLen,size_zeroCells,hzs]
  rw [← Nat.add_mul,← Nat.add_mul]; congr 1; omega
 have hget:∀ m,m < (es.length+ys.length)*ie.size→c[m]? = if m < es.length*ie.size then olds[m]? else news[m - es.length*ie.size]?:=by
  intro m hm
  rw [Nat.add_mul] at hm
  rw [hc,Array.getElem?_append]
  simp only [List.size_toArray,List.length_append,hol,hsrc.newsLen]
  rw [if_pos hm,List.getElem?_toArray,List.getElem?_append,hol]
 have hf:=hs.drew.fresh D hDl d hDd (λ o=>o < (es++ys).length*ie.size) c e
 have hv:ARep (w.drew.alloc (.cells c e)) ⟨λ b o=>g.st b o∨(b=w.drew.heap.size∧o < (es++ys).length*ie.size),λ i=>if i=d then some w.drew.heap.size else if D i then none else g.ow i⟩
   (.vec d ie.size ty0 (es++ys)) (.slice (some ⟨w.drew.heap.size,0,none⟩) (es++ys).length q):=by
  refine EY G cK hcs (by simp; omega) (λ x hx=>?_) (λ o=>⟨λ h=>?_,λ h=>.inr ⟨Z,h⟩⟩) (λ i y j x hy hx=>?_) hty
  ·rcases List.mem_append.1 hx with hx | hx
   ·exact hes x hx
   ·exact hsz x hx
  ·rcases h with h | h
   ·exact absurd (hs.lt _ _ h) (Nat.lt_irrefl _)
   ·exact h.2
  ·have hev:=j2 (w:=w.drew) (T:=λ o=>o < (es++ys).length*ie.size) (ob:=.cells c e) hs.drew.lt
   have hcl:y.cells.length=ie.size:=by
    rcases List.mem_append.1 (List.mem_of_getElem? hy) with hx | hx
    ·exact hes y hx
    ·exact hsz y hx
   have hjl:j < ie.size:=by rw [← hcl]; exact (List.getElem?_eq_some_iff.1 hx).1
   have hil:i < (es++ys).length:=(List.getElem?_eq_some_iff.1 hy).1
   simp only [List.length_append] at hil
   have hm1:(i+1)*ie.size≤(es.length+ys.length)*ie.size:=Nat.mul_le_mul_right _ O
   rw [Nat.add_mul] at hm1
   rw [List.getElem?_append] at hy
   split at hy
   ·rename_i hlt
    obtain ⟨k1,u,hu,hr⟩:=hoc i y j x hy hx
    have hm2:(i+1)*ie.size≤es.length*ie.size:=Nat.mul_le_mul_right _ O
    rw [Nat.add_mul] at hm2
    refine ⟨k1,u,?_,(PRep.mono (w:=w) (w':=w.drew) (st:=g.st) (st':=g.st) (λ b o h=>⟨h,Z⟩) hr).mono hev⟩
    rw [hget _ O,if_pos O]; exact hu
   ·rename_i hge
    obtain ⟨k1,u,hu,hr⟩:=hnews _ y j x hy hx
    have hm2:es.length*ie.size≤i*ie.size:=Nat.mul_le_mul_right _ O
    refine ⟨k1,u,?_,(PRep.mono (w:=w) (w':=w.drew) (st:=g.st) (st':=g.st) (λ b o h=>⟨h,Z⟩) hr).mono hev⟩
    rw [hget _ O,if_neg O]
    rw [show i*ie.size+j - es.length*ie.size=(i - es.length)*ie.size+j by rw [Nat.sub_mul]; omega]
    exact hu
 have hp:=hf.put (d:=some d) (λ t ht=>by cases ht; exact Nat.blt_eq ▸ hn) hv
 simp only [List.length_append] at hp
 exact ⟨_,_,_,hrun,hp⟩
theorem Ga {ty e:Nat}(h:(Nat.beq ty 0||Nat.beq ty (e+1))=true):ty=0∨ty=e+1:=by
 simp only [Bool.or_eq_true] at h
 exact h.imp Nat.eq_of_beq_eq_true Nat.eq_of_beq_eq_true
theorem sC {t tx e:TypeId}{x y:Operand}{k sz ty:Nat}{es:List PV}{ys:List PV}{i ie:TI}(ho:o.op=.call { callee:=.builtin .append,args:=#[x,y],argTypes:=#[t,tx] })(hd:o.dst=some d)(hn:Nat.blt d C.n=true)
  (hi:look C.tt t=some i) (hik:i.k=.slice e) (hie:look C.tt e=some ie) (hx:evo sl x=some (.vec k sz ty es)) (hk:Nat.blt k M1=true) (hiz:ie.size=sz)
  (hS:y8 C sl ob tx y ie.size ys) (hsz:∀ y∈ys,y.cells.length=ie.size) (h0:Nat.blt 0 ie.size=true) (hzl:Nat.beq ie.zero.length ie.size=true)
  (hlen:(es.length+ys.length)*ie.bytes≤140737488355328) (hlen':es.length+ys.length≤9223372036854775807) (hty:(Nat.beq ty 0||Nat.beq ty (e+1))=true)
  (hK:K ⟨(d,.vec d sz ty (es++ys))::(ct (λ i=>Nat.beq i k||Nat.beq i d) ⟨sl,ob⟩).sl,(ct (λ i=>Nat.beq i k||Nat.beq i d) ⟨sl,ob⟩).ob⟩):aW C o K ⟨sl,ob⟩:=by
 subst hiz
 have h0':0 < ie.size:=by simpa using h0
 have hzl':=Nat.eq_of_beq_eq_true hzl
 have hk':k < M1:=Nat.blt_eq ▸ hk
 have hdl:d < M1:=by have h1:=Nat.le_of_ble_eq_true C.nl; have h2:d < C.n:=Nat.blt_eq ▸ hn; omega
 have hty':=Ga hty
 have hDl:∀ i,(Nat.beq i k||Nat.beq i d)=true→i < M1:=by
  intro i hi
  simp only [Bool.or_eq_true] at hi
  rcases hi with hi | hi <;> (have:=Nat.eq_of_beq_eq_true hi; omega)
 intro g a w hs
 have hxr:=bq hs hx
 generalize hxv:a.eval x=xv at hxr
 have hrun0:∀ v w',(Builtin.append_ #[t,tx] o.type #[xv,a.eval y]).run C.P w=.ok v w'→(execOp a.eval o).run C.P w=.ok (.value v) w':=by
  intro v w' h
  rw [d9 ho]
  simp [builtin,hxv,h]
 cases hxr with
 | vecn =>
  by_cases hys:ys=[]
  ·subst hys
   obtain ⟨u,h1,h2⟩:=bc C.good hi
   have h3:=bn (h2.trans hik)
   subst h3
   obtain ⟨info,hf1,hf2,hf3,z,hf4,hf5⟩:=fR C.good hie
   obtain ⟨news,hsrc,hnews⟩:=hS g a w hs
   have hnl:news=[]:=by have:=hsrc.newsLen; simpa using this
   subst hnl
   have hr:=run_append_nothing w t tx o.type e info h1 hf1 none 0 0 (Nat.le_refl _) (a.eval y) (by rw [hf2]; exact hsrc)
   unfold Oper.wp
   rw [hrun0 _ _ hr]
   simp only [Oper.upon,hd]
   have hs':=hs.evolve (λ i=>Nat.beq i k||Nat.beq i d) hDl (g':=⟨g.st,λ i=>if (Nat.beq i k||Nat.beq i d) then none else g.ow i⟩) (Ev.refl _ _) (λ id b hD h=>⟨by simp only [hD]; exact h,Z,λ o h=>h⟩)
    (λ i j b h1 h2=>by
     dsimp only at h1 h2
     split at h1
     ·cases h1
     ·split at h2
      ·cases h2
      ·exact hs.inj i j b h1 h2) (λ i b h=>by
     dsimp only at h
     split at h
     ·cases h
     ·exact hs.own i b h) hs.lt (λ b h=>rfl) Z Z Z (Nat.le_refl _) (λ b _ o=>Iff.rfl) (λ i hi=>by
      have hne:(Nat.beq i k||Nat.beq i d)=false:=by
       cases hq:(Nat.beq i k||Nat.beq i d)
       ·rfl
       ·have:=hDl i hq; omega
      simp only [hne]; rfl)
   exact ⟨_,_,hs'.put (d:=some d) (λ t ht=>by cases ht; exact Nat.blt_eq ▸ hn) (.vecn d ie.size _),hK⟩
  ·have hpos:0 < ys.length:=List.length_pos_iff.2 hys
   obtain ⟨v,w',g',hr,hst⟩:=nS ty (o:=o) (es:=[]) (λ i=>Nat.beq i k||Nat.beq i d) hDl G hi hik hie hS hsz h0' hzl' (by simpa using hlen) (by simpa using hlen') hs none 0 []
    (run_firstCells_none w.drew ie.size 0 0 0) G G G (by simpa using hpos) o.type hd hn hty'
   unfold Oper.wp
   rw [hrun0 _ _ hr]
   simp only [Oper.upon,hd]
   exact ⟨g',_,hst,hK⟩
 | vece tok sz a0 =>
  by_cases hys:ys=[]
  ·subst hys
   obtain ⟨u,h1,h2⟩:=bc C.good hi
   have h3:=bn (h2.trans hik)
   subst h3
   obtain ⟨info,hf1,hf2,hf3,z,hf4,hf5⟩:=fR C.good hie
   obtain ⟨news,hsrc,hnews⟩:=hS g a w hs
   have hnl:news=[]:=by have:=hsrc.newsLen; simpa using this
   subst hnl
   have hr:=run_append_nothing w t tx o.type e info h1 hf1 (some a0) 0 0 (Nat.le_refl _) (a.eval y) (by rw [hf2]; exact hsrc)
   unfold Oper.wp
   rw [hrun0 _ _ hr]
   simp only [Oper.upon,hd]
   have hs':=hs.evolve (λ i=>Nat.beq i k||Nat.beq i d) hDl (g':=⟨g.st,λ i=>if (Nat.beq i k||Nat.beq i d) then none else g.ow i⟩) (Ev.refl _ _) (λ id b hD h=>⟨by simp only [hD]; exact h,Z,λ o h=>h⟩)
    (λ i j b h1 h2=>by
     dsimp only at h1 h2
     split at h1
     ·cases h1
     ·split at h2
      ·cases h2
      ·exact hs.inj i j b h1 h2) (λ i b h=>by
     dsimp only at h
     split at h
     ·cases h
     ·exact hs.own i b h) hs.lt (λ b h=>rfl) Z Z Z (Nat.le_refl _) (λ b _ o=>Iff.rfl) (λ i hi=>by
      have hne:(Nat.beq i k||Nat.beq i d)=false:=by
       cases hq:(Nat.beq i k||Nat.beq i d)
       ·rfl
       ·have:=hDl i hq; omega
      simp only [hne]; rfl)
   exact ⟨_,_,hs'.put (d:=some d) (λ t ht=>by cases ht; exact Nat.blt_eq ▸ hn) (.vece d ie.size a0),hK⟩
  ·have hpos:0 < ys.length:=List.length_pos_iff.2 hys
   obtain ⟨v,w',g',hr,hst⟩:=nS 0 (o:=o) (es:=[]) (λ i=>Nat.beq i k||Nat.beq i d) hDl G hi hik hie hS hsz h0' hzl' (by simpa using hlen) (by simpa using hlen') hs (some a0) 0 []
    (run_firstCells_some w.drew ie.size 0 a0 0 0 [] G G) G G G (by simpa using hpos) o.type hd hn hty'
   unfold Oper.wp
   rw [hrun0 _ _ hr]
   simp only [Oper.upon,hd]
   exact ⟨g',_,hst,hK⟩
 | vec how hb hcs hsz' hst hr hty0 =>
  rename_i b off cap c e0
  have hinv:=w9 hsz' hb hr
  have hcapE:es.length≤cap:=by cases hr with | nile _=>exact Nat.le_refl _ | slice _ _ hcap=>exact hcap
  by_cases hroom:es.length+ys.length≤cap
  ·obtain ⟨u,h1,h2⟩:=bc C.good hi
   have h3:=bn (h2.trans hik)
   subst h3
   obtain ⟨info,hf1,hf2,hf3,z,hf4,hf5⟩:=fR C.good hie
   obtain ⟨news,hsrc,hnews⟩:=hS g a w hs
   have hfit:(off+es.length*ie.size)+news.length≤c.size:=by
    rw [hsrc.newsLen,hcs,Nat.add_assoc,← Nat.add_mul]; exact Nat.add_le_add_left (Nat.mul_le_mul_right _ hroom) _
   have hstc:=run_storeCells_at C.P b (off+es.length*ie.size) e0 news 0 c w hb (by simpa using hfit) hsrc.one
   simp only [Nat.add_zero] at hstc
   obtain ⟨c',hc'⟩:∃ c',c'=(c.toList.take (off+es.length*ie.size)++news++c.toList.drop (off+es.length*ie.size+news.length)).toArray:=⟨_,rfl⟩
   rw [← hc'] at hstc
   have hrr:=rG t tx o.type e info h1 hf1 b off es.length cap (a.eval y) ys.length news (by rw [hf2]; exact hsrc) hroom (by rw [hf2]; exact hstc)
   have hcell:∀ j,c'[j]? = if off+es.length*ie.size≤j∧j < off+es.length*ie.size+news.length then news[j - (off+es.length*ie.size)]? else c[j]?:=by
    intro j
    rw [hc']
    have:=jx c.toList news (off+es.length*ie.size) (by simpa using hfit) j
    simpa using this
   have hcs':c'.size=off+cap*ie.size:=by rw [← hcs,hc']; simp; omega
   have hin:=hs.inplace (λ i=>Nat.beq i k||Nat.beq i d) hDl (k:=k) (d:=d) how G G  hb (c':=c') (hcs'.trans hcs.symm) (λ o h=>by
    have:=(hst o).1 h
    rw [hcell o,if_neg O]) (λ o=>o < off+(es++ys).length*ie.size) (λ o h=>by
    have:=(hst o).1 h
    simp only [List.length_append,Nat.add_mul]; omega)
   have hEv:Ev w g.st (w.setRow b c') (λ b' o=>(b'=b∧o < off+(es++ys).length*ie.size)∨(b'≠b∧g.st b' o)):=by
    intro b' o h
    by_cases e:b'=b
    ·subst e
     have h5:=(hst o).1 h
     refine ⟨.inl ⟨Z,by simp only [List.length_append,Nat.add_mul]; omega⟩,?_⟩
     simp only [World.cell?,hb,setRow_heap w b' c c' _ (0,0) hb]
     have:=hcell o
     rw [if_neg O] at this
     simpa using this
    ·exact ⟨.inr ⟨e,h⟩,by simp only [World.cell?,setRow_other w b b' c' e]⟩
   have hv:ARep (w.setRow b c') ⟨λ b' o=>(b'=b∧o < off+(es++ys).length*ie.size)∨(b'≠b∧g.st b' o),λ i=>if i=d then some b else if (Nat.beq i k||Nat.beq i d) then none else g.ow i⟩
     (.vec d ie.size ty (es++ys)) (.slice (some ⟨b,off,none⟩) (es++ys).length cap):=by
    refine zM G (setRow_heap w b c c' e0 (0,0) hb) hcs' (by simpa using hroom) (λ x hx=>?_) (λ o=>⟨λ h=>?_,λ h=>.inl ⟨Z,h⟩⟩) (λ i y j x hy hx=>?_) hty0
    ·rcases List.mem_append.1 hx with hx | hx
     ·exact hsz' x hx
     ·exact hsz x hx
    ·rcases h with h | h
     ·exact h.2
     ·exact absurd Z h.1
    ·have hcl:y.cells.length=ie.size:=by
      rcases List.mem_append.1 (List.mem_of_getElem? hy) with hx | hx
      ·exact hsz' y hx
      ·exact hsz y hx
     have hjl:j < ie.size:=by rw [← hcl]; exact (List.getElem?_eq_some_iff.1 hx).1
     have hil:i < (es++ys).length:=(List.getElem?_eq_some_iff.1 hy).1
     simp only [List.length_append] at hil
     rw [List.getElem?_append] at hy
     split at hy
     ·rename_i hlt
      obtain ⟨k1,u,hu,hr⟩:=hinv i y j x hy hx
      have hm2:(i+1)*ie.size≤es.length*ie.size:=Nat.mul_le_mul_right _ O
      rw [Nat.add_mul] at hm2
      refine ⟨k1,u,?_,hr.mono hEv⟩
      rw [hcell,if_neg O]; exact hu
     ·rename_i hge
      obtain ⟨k1,u,hu,hr⟩:=hnews _ y j x hy hx
      have hm2:es.length*ie.size≤i*ie.size:=Nat.mul_le_mul_right _ O
      have hm3:(i - es.length+1)*ie.size≤ys.length*ie.size:=Nat.mul_le_mul_right _ O
      have hm4:(i - es.length)*ie.size=i*ie.size - es.length*ie.size:=Nat.sub_mul _ _ _
      rw [Nat.add_mul] at hm3
      refine ⟨k1,u,?_,hr.mono hEv⟩
      rw [hcell,if_pos ⟨by omega,by rw [hsrc.newsLen]; omega⟩]
      rw [show off+i*ie.size+j - (off+es.length*ie.size)=(i - es.length)*ie.size+j by omega]
      exact hu
   have hp:=hin.put (d:=some d) (λ t ht=>by cases ht; exact Nat.blt_eq ▸ hn) hv
   simp only [List.length_append] at hp
   unfold Oper.wp
   rw [hrun0 _ _ hrr]
   simp only [Oper.upon,hd]
   exact ⟨_,_,hp,hK⟩
  ·obtain ⟨olds,hol,hocell⟩:∃ olds:List Value,olds.length=es.length*ie.size∧∀ m,m < es.length*ie.size→olds[m]? = c[off+m]? :=
    ⟨((c.toList.drop off).take (es.length*ie.size)),by
     rw [List.length_take,List.length_drop,show c.toList.length=off+cap*ie.size from Array.length_toList.trans hcs]
     have:=Nat.mul_le_mul_right ie.size hcapE; omega,λ m hm=>by rw [List.getElem?_take,if_pos hm,List.getElem?_drop,Array.getElem?_toList]⟩
   have hold:(Builtin.firstCells ie.size es.length (.slice (some ⟨b,off,none⟩) es.length cap)).run C.P w.drew=.ok olds.toArray w.drew:=by
    refine run_firstCells_some w.drew ie.size es.length ⟨b,off,none⟩ es.length cap olds hol (λ j v hv=>?_)
    have hj:j < es.length*ie.size:=by rw [← hol]; exact (List.getElem?_eq_some_iff.1 hv).1
    rw [add_lit,World.cell?_drew]
    simp only [World.cell?,hb]
    rw [← hocell j hj]; simpa using hv
   obtain ⟨v,w',g',hr',hst'⟩:=nS ty (o:=o) (es:=es) (λ i=>Nat.beq i k||Nat.beq i d) hDl G hi hik hie hS hsz h0' hzl' hlen hlen' hs (some ⟨b,off,none⟩) cap olds
    hold hol hsz' (λ i y j x hy hx=>by
     obtain ⟨k1,u,hu,hr⟩:=hinv i y j x hy hx
     have hi:i < es.length:=(List.getElem?_eq_some_iff.1 hy).1
     have hj:j < ie.size:=by rw [← hsz' y (List.mem_of_getElem? hy)]; exact (List.getElem?_eq_some_iff.1 hx).1
     have hm2:(i+1)*ie.size≤es.length*ie.size:=Nat.mul_le_mul_right _ O
     rw [Nat.add_mul] at hm2
     exact ⟨k1,u,by rw [hocell _ O,← Nat.add_assoc]; exact hu,hr⟩) O o.type hd hn hty'
   unfold Oper.wp
   rw [hrun0 _ _ hr']
   simp only [Oper.upon,hd]
   exact ⟨g',_,hst',hK⟩
theorem yC {t tx e e':TypeId}{x y:Operand}{k sz ty:Nat}{es:List PV}{Y0z:AV}{ys:List PV}{i ie j:TI}(ho:o.op=.call { callee:=.builtin .append,args:=#[x,y],argTypes:=#[t,tx] })(hd:o.dst=some d)(hn:Nat.blt d C.n=true)
  (hi:look C.tt t=some i) (hik:i.k=.slice e) (hie:look C.tt e=some ie) (hj:look C.tt tx=some j) (hjk:j.k=.slice e') (hx:evo sl x=some (.vec k sz ty es)) (hk:Nat.blt k M1=true) (hiz:ie.size=sz)
  (hy:evo sl y=some Y0z) (hY:Y0z.elems? = some ys) (hsz:∀ y∈ys,y.cells.length=ie.size) (h0:Nat.blt 0 ie.size=true) (hzl:Nat.beq ie.zero.length ie.size=true)
  (hlen:(es.length+ys.length)*ie.bytes≤140737488355328) (hlen':es.length+ys.length≤9223372036854775807) (hty:(Nat.beq ty 0||Nat.beq ty (e+1))=true)
  (hK:K ⟨(d,.vec d sz ty (es++ys))::(ct (λ i=>Nat.beq i k||Nat.beq i d) ⟨sl,ob⟩).sl,(ct (λ i=>Nat.beq i k||Nat.beq i d) ⟨sl,ob⟩).ob⟩):aW C o K ⟨sl,ob⟩ :=
 sC ho hd hn hi hik hie hx hk hiz (xr hj hjk hy hY hsz (by simpa using h0)) hsz h0 hzl hlen hlen' hty hK
theorem AW {tx:TypeId}{y:Operand}{s:List UInt8}{j:TI}(hj:look C.tt tx=some j)(hjk:j.k=.string)
  (hy:evo sl y=some (.p (.val (.string (str s))))):y8 C sl ob tx y 1 (s.map λ b=>.val (.int .u8 (b.toNat:Int))):=by
 intro g a w hs
 obtain ⟨u',h1',h2'⟩:=bc C.good hj
 have h3':=ez (h2'.trans hjk)
 subst h3'
 rw [bJ hs hy]
 refine ⟨byteCells (str s),by have:=Src.ofString w h1' (str s); rwa [show (str s).size=(s.map λ b=>PV.val (.int .u8 (b.toNat:Int))).length by simp [str,ByteArray.size]] at this,λ i y j c hy hc=>?_⟩
 simp only [List.getElem?_map,Option.map_eq_some_iff] at hy
 obtain ⟨b,hb,rfl⟩:=hy
 cases j with
 | succ j=>simp [PV.cells] at hc
 | zero =>
  simp only [PV.cells,List.getElem?_cons_zero,Option.some.injEq] at hc
  subst hc
  exact ⟨Z,_,by simp [byteCells,str,hb],.val _⟩
end
end Go.Ab
end
section
namespace Go.Ab
theorem St.addOb {n:Nat}{w0:Base}{w:World}{F:Nat→Prop}{g:Gh}{sl:List (Nat×AV)}{ob:List (Nat×List AV)}{a:Act}(hs:St n w0 F g ⟨sl,ob⟩ a w){d:Nat}{cs:List AV}(h:jb w g d cs) :
  St n w0 F g ⟨sl,(d,cs)::ob⟩ a w:=by
 refine { hs with ob:=λ id ds hd=>?_,sl:=hs.sl }
 simp only [bf] at hd
 by_cases e:d=id
 ·subst e; simp only [if_true,Option.some.injEq] at hd; subst hd; exact h
 ·rw [if_neg e] at hd; exact hs.ob id ds hd
section
variable {C:Cx} {o:Oper} {K:AS→Prop} {sl:List (Nat×AV)} {ob:List (Nat×List AV)} {d:Nat}
theorem wT {t e:Nat}{x y:Operand}{i ie:TI}{k k':IntKind}{n:Int}{z:Value}(ho:o.op=.makeSlice t x y)(hd:o.dst=some d)(hn:Nat.blt d C.n=true)
  (hi:look C.tt t=some i) (hik:i.k=.slice e) (hie:look C.tt e=some ie) (hs1:ie.size=1) (hz:ie.zero=[z]) (hx:evo sl x=some (.p (.val (.int k n)))) (hy:evo sl y=some (.p (.val (.int k' n))))
  (hb:0≤n∧n≤9223372036854775807∧(ie.bytes:Int)*n≤281474976710656)
  (hK:K ⟨(d,.arr d 1 0 n.toNat)::(ct (λ i=>Nat.beq i d) ⟨sl,ob⟩).sl,(d,(List.replicate n.toNat (.val z)).map .p)::(ct (λ i=>Nat.beq i d) ⟨sl,ob⟩).ob⟩):aW C o K ⟨sl,ob⟩:=by
 obtain ⟨u,h1,h2⟩:=bc C.good hi
 have h3:=bn (h2.trans hik)
 subst h3
 obtain ⟨j,hj,hj1,hj2,zz,hz1,hz2⟩:=fR C.good hie
 have hdl:d < M1:=by have h1:=Nat.le_of_ble_eq_true C.nl; have h2:d < C.n:=Nat.blt_eq ▸ hn; omega
 intro g a w hs
 have hrun:=run_make (P:=C.P) w t e j zz h1 hj hz1 k k' n n hb.1 (Int.le_refl _) (by rw [hj2]; exact hb.2.2) hb.2.1
 have hzs:zz.cells=#[z]:=by rw [← Array.toList_inj]; rw [hz2,hz]
 rw [hzs,hj1,hs1,Nat.mul_one] at hrun
 have hf:=hs.fresh (λ i=>Nat.beq i d) (λ i hi=>by have:=Nat.eq_of_beq_eq_true hi; omega) d G (λ _=>False) (madeCells #[z] n.toNat) e
 have hp:=hf.put (d:=some d) (λ t ht=>by cases ht; exact Nat.blt_eq ▸ hn) (x:=.arr d 1 0 n.toNat) (v:=.slice (some ⟨w.heap.size,0,none⟩) n.toNat n.toNat)
  (.arr G cK (by rw [size_madeCells]; omega) (Nat.le_refl _))
 have hob:=hp.addOb (d:=d) (cs:=(List.replicate n.toNat (.val z)).map .p) (by
  refine ⟨w.heap.size,madeCells #[z] n.toNat,e,by simp,cK,by simp [size_madeCells],λ o ho=>?_,λ i x hx=>?_⟩
  ·rcases ho with ho | ⟨_,ho⟩
   ·exact absurd (hs.lt _ _ ho) (Nat.lt_irrefl _)
   ·exact ho
  ·simp only [List.getElem?_map,Option.map_eq_some_iff,List.getElem?_replicate] at hx
   obtain ⟨y,hy,rfl⟩:=hx
   split at hy
   ·rename_i hlt
    cases hy
    exact ⟨z,by simp [madeCells,hlt,Nat.mod_one],.p (.val _)⟩
   ·cases hy)
 unfold Oper.wp
 have hrun':(execOp a.eval o).run C.P w=.ok (.value (.slice (some ⟨w.heap.size,0,none⟩) n.toNat n.toNat)) (w.alloc (.cells (madeCells #[z] n.toNat) e)):=by
  simp only [execOp,ho,bJ hs hx,bJ hs hy,Sem.run_bind,hrun,Result.andThen_ok,Sem.run_pure]
 rw [hrun']
 simp only [Oper.upon,hd]
 exact ⟨_,_,hob,hK⟩
theorem xG {es ys:List PV}{t tx e e':TypeId}{i ie j:TI}{y:Operand}{Y0z:AV}(D:Nat→Bool)(hDl:∀ i,D i=true→i < M1)(hDd:D d=true)
  (hi:look C.tt t=some i) (hik:i.k=.slice e) (hie:look C.tt e=some ie) (hj:look C.tt tx=some j) (hjk:j.k=.slice e')
  (hy:evo sl y=some Y0z) (hY:Y0z.elems? = some ys) (hsz:∀ y∈ys,y.cells=[y]) (h1s:ie.size=1) (hzl:ie.zero.length=ie.size)
  (hlen:(es.length+ys.length)*ie.bytes≤140737488355328) (hlen':es.length+ys.length≤9223372036854775807)
  {g:Gh} {a:Act} {w:World} (hs:St C.n C.w0 C.F g ⟨sl,ob⟩ a w) (base:Option Addr) (cap:Nat) (olds:List Value)
  (hold:(Builtin.firstCells ie.size es.length (.slice base es.length cap)).run C.P w.drew=.ok olds.toArray w.drew) (hol:olds.length=es.length)
  (hoc:∀ (i:Nat) x,es[i]? = some x→∃ u,olds[i]? = some u∧PRep w g.st x u)
  (hg:cap < es.length+ys.length) (ty:TypeId) (hn:Nat.blt d C.n=true) :
  ∃ v w' g',(Builtin.append_ #[t,tx] ty #[.slice base es.length cap,a.eval y]).run C.P w=.ok v w' ∧
   St C.n C.w0 C.F g' ⟨(d,.arr d 1 0 (es.length+ys.length))::(ct D ⟨sl,ob⟩).sl,(d,(es++ys).map .p)::(ct D ⟨sl,ob⟩).ob⟩ (a.put (some d) v) w':=by
 obtain ⟨u,h1,h2⟩:=bc C.good hi
 have h3:=bn (h2.trans hik)
 subst h3
 obtain ⟨u',h1',h2'⟩:=bc C.good hj
 have h3':=bn (h2'.trans hjk)
 subst h3'
 obtain ⟨info,hf1,hf2,hf3,z,hf4,hf5⟩:=fR C.good hie
 have hyv:=fp hY (bq hs hy)
 obtain ⟨news,hsrc,hnews⟩:=pd (P:=C.P) (sz:=ie.size) h1' hyv (λ y hy=>by rw [hsz y hy,h1s]; rfl) O
 have hfit:=growslice_fits (bytes:=ie.bytes) hg hlen
 have hrun:=run_append_grow_src w t tx ty e info z h1 hf1 hf4 base es.length cap olds (by rw [hf2]; exact hold) (a.eval y) ys.length news (by rw [hf2]; exact hsrc) hg O (by rw [hf3]; exact hfit)
 obtain ⟨q,hq⟩:∃ q,q=grownCap w (es.length+ys.length) cap e:=⟨_,rfl⟩
 rw [← hq] at hrun
 have hqn:es.length+ys.length≤q:=by
  rw [hq]; unfold grownCap; simp only [Question.cut]; omega
 have hzs:z.cells.size=1:=by rw [← h1s,← hzl,← hf5,Array.length_toList]
 have hnl:news.length=ys.length:=by rw [hsrc.newsLen,h1s,Nat.mul_one]
 obtain ⟨c,hc⟩:∃ c,c=(olds++news).toArray++Builtin.zeroCells z.cells (q - (es.length+ys.length)):=⟨_,rfl⟩
 rw [← hc] at hrun
 have hcs:c.size=q:=by
  rw [hc]
  simp only [Array.size_append,List.size_toArray,List.length_append,hol,hnl,size_zeroCells,hzs]
  omega
 have hf:=hs.drew.fresh D hDl d hDd (λ _=>False) c e
 have hp:=hf.put (d:=some d) (λ t ht=>by cases ht; exact Nat.blt_eq ▸ hn) (x:=.arr d 1 0 (es.length+ys.length)) (v:=.slice (some ⟨w.drew.heap.size,0,none⟩) (es.length+ys.length) q)
  (.arr G cK O hqn)
 have hev:=j2 (w:=w.drew) (T:=λ _=>False) (ob:=.cells c e) hs.drew.lt
 have hob:=hp.addOb (d:=d) (cs:=(es++ys).map .p) (by
  refine ⟨w.drew.heap.size,c,e,by simp,cK,by simp; omega,λ o ho=>?_,λ i x hx=>?_⟩
  ·rcases ho with ho | ⟨_,ho⟩
   ·exact absurd (hs.lt _ _ ho) (Nat.lt_irrefl _)
   ·exact ho
  ·simp only [List.getElem?_map,Option.map_eq_some_iff] at hx
   obtain ⟨y,hy,rfl⟩:=hx
   have hil:i < (es++ys).length:=(List.getElem?_eq_some_iff.1 hy).1
   simp only [List.length_append] at hil
   have hget:c[i]? = if i < es.length then olds[i]? else news[i - es.length]?:=by
    rw [hc,Array.getElem?_append]
    simp only [List.size_toArray,List.length_append,hol,hnl]
    rw [if_pos hil,List.getElem?_toArray,List.getElem?_append,hol]
   rw [List.getElem?_append] at hy
   split at hy
   ·rename_i hlt
    obtain ⟨u,hu,hr⟩:=hoc i y hy
    exact ⟨u,by rw [hget,if_pos hlt]; exact hu,.p ((PRep.mono (w:=w) (w':=w.drew) (st:=g.st) (st':=g.st) (λ b o h=>⟨h,Z⟩) hr).mono hev)⟩
   ·rename_i hge
    obtain ⟨k1,u,hu,hr⟩:=hnews (i - es.length) y 0 y hy (by rw [hsz y (List.mem_of_getElem? hy)]; rfl)
    rw [h1s,Nat.mul_one,Nat.add_zero] at hu
    exact ⟨u,by rw [hget,if_neg hge]; exact hu,.p ((PRep.mono (w:=w) (w':=w.drew) (st:=g.st) (st':=g.st) (λ b o h=>⟨h,Z⟩) hr).mono hev)⟩)
 exact ⟨_,_,_,hrun,hob⟩
theorem yV {t tx e e':TypeId}{x y:Operand}{k:Nat}{es:List PV}{n:Nat}{Y0z:AV}{ys:List PV}{i ie j:TI}(ho:o.op=.call { callee:=.builtin .append,args:=#[x,y],argTypes:=#[t,tx] })(hd:o.dst=some d)(hn:Nat.blt d C.n=true)
  (hi:look C.tt t=some i) (hik:i.k=.slice e) (hie:look C.tt e=some ie) (hj:look C.tt tx=some j) (hjk:j.k=.slice e') (hx:evo sl x=some (.arr k 1 0 n)) (hk:Nat.blt k M1=true) (hob:look ob k=some (es.map .p)) (hnl:n=es.length)
  (hy:evo sl y=some Y0z) (hY:Y0z.elems? = some ys) (hsz:∀ y∈ys,y.cells=[y]) (h1s:ie.size=1) (hzl:Nat.beq ie.zero.length ie.size=true)
  (hlen:(es.length+ys.length)*ie.bytes≤140737488355328) (hlen':es.length+ys.length≤9223372036854775807)
  (hK:K ⟨(d,.arr d 1 0 (es.length+ys.length))::(ct (λ i=>Nat.beq i k||Nat.beq i d) ⟨sl,ob⟩).sl,(d,(es++ys).map .p)::(ct (λ i=>Nat.beq i k||Nat.beq i d) ⟨sl,ob⟩).ob⟩):aW C o K ⟨sl,ob⟩:=by
 subst hnl
 have hzl':=Nat.eq_of_beq_eq_true hzl
 have hk':k < M1:=Nat.blt_eq ▸ hk
 have hdl:d < M1:=by have h1:=Nat.le_of_ble_eq_true C.nl; have h2:d < C.n:=Nat.blt_eq ▸ hn; omega
 have hDl:∀ i,(Nat.beq i k||Nat.beq i d)=true→i < M1:=by
  intro i hi
  simp only [Bool.or_eq_true] at hi
  rcases hi with hi | hi <;> (have:=Nat.eq_of_beq_eq_true hi; omega)
 intro g a w hs
 have hxr:=bq hs hx
 generalize hxv:a.eval x=xv at hxr
 have hrun0:∀ v w',(Builtin.append_ #[t,tx] o.type #[xv,a.eval y]).run C.P w=.ok v w'→(execOp a.eval o).run C.P w=.ok (.value v) w':=by
  intro v w' h
  rw [d9 ho]
  simp [builtin,hxv,h]
 cases hxr with
 | arr how hb hcs hn' =>
  rename_i b cap c e0
  obtain ⟨b',c1,e1,k1,k2,k3,k4,k5⟩:=hs.ob k _ hob
  rw [how] at k1; cases k1
  rw [hb] at k2; cases k2
  simp only [Nat.mul_one,Nat.zero_add] at hcs
  have hcell:∀ (i:Nat) x,es[i]? = some x→∃ u,c[i]? = some u∧PRep w g.st x u:=by
   intro i x hx
   obtain ⟨u,hu,hr⟩:=k5 i (.p x) (by simp [hx])
   cases hr with | p hr=>exact ⟨u,hu,hr⟩
  by_cases hroom:es.length+ys.length≤cap
  ·obtain ⟨u,h1,h2⟩:=bc C.good hi
   have h3:=bn (h2.trans hik)
   subst h3
   obtain ⟨u',h1',h2'⟩:=bc C.good hj
   have h3':=bn (h2'.trans hjk)
   subst h3'
   obtain ⟨info,hf1,hf2,hf3,z,hf4,hf5⟩:=fR C.good hie
   have hyv:=fp hY (bq hs hy)
   obtain ⟨news,hsrc,hnews⟩:=pd (P:=C.P) (sz:=ie.size) h1' hyv (λ y hy=>by rw [hsz y hy,h1s]; rfl) O
   have hnl:news.length=ys.length:=by rw [hsrc.newsLen,h1s,Nat.mul_one]
   have hstc:=run_storeCells_at C.P b (es.length*ie.size) e0 news 0 c w hb (by rw [h1s]; simp; omega) hsrc.one
   simp only [Nat.add_zero] at hstc
   rw [h1s,Nat.mul_one] at hstc
   obtain ⟨c',hc'⟩:∃ c',c'=(c.toList.take es.length++news++c.toList.drop (es.length+news.length)).toArray:=⟨_,rfl⟩
   rw [← hc'] at hstc
   have hrr:=kr t tx o.type e info h1 hf1 b es.length cap (a.eval y) ys.length news (by rw [hf2]; exact hsrc) hroom (by rw [hf2,h1s,Nat.mul_one]; exact hstc)
   have hcell':∀ j,c'[j]? = if es.length≤j∧j < es.length+news.length then news[j - es.length]? else c[j]?:=by
    intro j
    rw [hc']
    have:=jx c.toList news es.length (by simp; omega) j
    simpa using this
   have hcs':c'.size=cap:=by rw [← hcs,hc']; simp; omega
   have hin:=hs.inplace (λ i=>Nat.beq i k||Nat.beq i d) hDl (k:=k) (d:=d) how G G  hb (c':=c') (hcs'.trans hcs.symm) (λ o h=>absurd h (k4 o)) (λ _=>False) (λ o h=>k4 o h)
   have hp:=hin.put (d:=some d) (λ t ht=>by cases ht; exact Nat.blt_eq ▸ hn) (x:=.arr d 1 0 (es.length+ys.length)) (v:=.slice (some ⟨b,0,none⟩) (es.length+ys.length) cap)
    (.arr G (setRow_heap w b c c' e0 (0,0) hb) O hroom)
   have hEv:Ev w g.st (w.setRow b c') (λ b' o=>(b'=b∧False)∨(b'≠b∧g.st b' o)):=by
    intro b' o h
    have hne:b'≠b:=λ e=>k4 o (e ▸ h)
    exact ⟨.inr ⟨hne,h⟩,by simp only [World.cell?,setRow_other w b b' c' hne]⟩
   have hfin:=hp.addOb (d:=d) (cs:=(es++ys).map .p) (by
    refine ⟨b,c',e0,by simp,setRow_heap w b c c' e0 (0,0) hb,by simp; omega,λ o ho=>?_,λ i x hx=>?_⟩
    ·rcases ho with ⟨_,ho⟩ | ⟨ho,_⟩
     ·exact ho
     ·exact ho Z
    ·simp only [List.getElem?_map,Option.map_eq_some_iff] at hx
     obtain ⟨y,hy,rfl⟩:=hx
     rw [List.getElem?_append] at hy
     split at hy
     ·rename_i hlt
      obtain ⟨u,hu,hr⟩:=hcell i y hy
      exact ⟨u,by rw [hcell',if_neg O]; exact hu,.p (hr.mono hEv)⟩
     ·rename_i hge
      have hi2:i - es.length < ys.length:=(List.getElem?_eq_some_iff.1 hy).1
      obtain ⟨_,u,hu,hr⟩:=hnews (i - es.length) y 0 y hy (by rw [hsz y (List.mem_of_getElem? hy)]; rfl)
      rw [h1s,Nat.mul_one,Nat.add_zero] at hu
      exact ⟨u,by rw [hcell',if_pos O]; exact hu,.p (hr.mono hEv)⟩)
   unfold Oper.wp
   rw [hrun0 _ _ hrr]
   simp only [Oper.upon,hd]
   exact ⟨_,_,hfin,hK⟩
  ·have hlenT:(c.toList.take es.length).length=es.length:=by
    rw [List.length_take,show c.toList.length=cap from Array.length_toList.trans hcs]; omega
   have hold:(Builtin.firstCells ie.size es.length (.slice (some ⟨b,0,none⟩) es.length cap)).run C.P w.drew=.ok (c.toList.take es.length).toArray w.drew:=by
    refine run_firstCells_some w.drew ie.size es.length ⟨b,0,none⟩ es.length cap _ (by rw [hlenT,h1s,Nat.mul_one]) (λ j v hv=>?_)
    rw [List.getElem?_take] at hv
    split at hv
    ·rw [add_lit,Nat.zero_add,World.cell?_drew]
     simp only [World.cell?,hb]
     simpa using hv
    ·cases hv
   obtain ⟨v,w',g',hr',hst'⟩:=xG (es:=es) (λ i=>Nat.beq i k||Nat.beq i d) hDl G hi hik hie hj hjk hy hY hsz h1s hzl' hlen hlen' hs (some ⟨b,0,none⟩) cap (c.toList.take es.length)
    hold hlenT (λ i x hx=>by
     obtain ⟨u,hu,hr⟩:=hcell i x hx
     exact ⟨u,by rw [List.getElem?_take,if_pos (List.getElem?_eq_some_iff.1 hx).1]; simpa using hu,hr⟩) O o.type hn
   unfold Oper.wp
   rw [hrun0 _ _ hr']
   simp only [Oper.upon,hd]
   exact ⟨g',_,hst',hK⟩
theorem xO {t tx e e':TypeId}{x y:Operand}{Y0z:AV}{ys:List PV}{i ie j:TI}(ho:o.op=.call { callee:=.builtin .append,args:=#[x,y],argTypes:=#[t,tx] })(hd:o.dst=some d)(hn:Nat.blt d C.n=true)
  (hi:look C.tt t=some i) (hik:i.k=.slice e) (hie:look C.tt e=some ie) (hj:look C.tt tx=some j) (hjk:j.k=.slice e') (hx:evo sl x=some (.p (.val (.slice none 0 0))))
  (hy:evo sl y=some Y0z) (hY:Y0z.elems? = some ys) (hsz:∀ y∈ys,y.cells=[y]) (hys:0 < ys.length) (h1s:ie.size=1) (hzl:Nat.beq ie.zero.length ie.size=true)
  (hlen:ys.length*ie.bytes≤140737488355328) (hlen':ys.length≤9223372036854775807)
  (hK:K ⟨(d,.arr d 1 0 ys.length)::(ct (λ i=>Nat.beq i d) ⟨sl,ob⟩).sl,(d,ys.map .p)::(ct (λ i=>Nat.beq i d) ⟨sl,ob⟩).ob⟩):aW C o K ⟨sl,ob⟩:=by
 have hzl':=Nat.eq_of_beq_eq_true hzl
 have hdl:d < M1:=by have h1:=Nat.le_of_ble_eq_true C.nl; have h2:d < C.n:=Nat.blt_eq ▸ hn; omega
 intro g a w hs
 have hx':=bJ hs hx
 have hrun0:∀ v w',(Builtin.append_ #[t,tx] o.type #[.slice none 0 0,a.eval y]).run C.P w=.ok v w'→(execOp a.eval o).run C.P w=.ok (.value v) w':=by
  intro v w' h
  rw [d9 ho]
  simp [builtin,hx',h]
 obtain ⟨v,w',g',hr,hst⟩:=xG (es:=[]) (λ i=>Nat.beq i d) (λ i hi=>by have:=Nat.eq_of_beq_eq_true hi; omega) G hi hik hie hj hjk hy hY hsz h1s hzl' (by simpa using hlen) (by simpa using hlen') hs none 0 []
  (run_firstCells_none w.drew ie.size 0 0 0) Z G (by simpa using hys) o.type hn
 unfold Oper.wp
 rw [hrun0 _ _ hr]
 simp only [Oper.upon,hd]
 simp only [List.length_nil,Nat.zero_add,List.nil_append] at hst
 exact ⟨g',_,hst,hK⟩
end
theorem St.freeze {n:Nat}{w0:Base}{w:World}{F:Nat→Prop}{g:Gh}{sl:List (Nat×AV)}{ob:List (Nat×List AV)}{a:Act}(hs:St n w0 F g ⟨sl,ob⟩ a w){k:Nat}{es:List PV}{j:Nat}
  (hk:k < M1) (hob:look ob k=some (es.map .p)) (hj:look sl j=some (.arr k 1 0 es.length)) (hone:∀ x∈es,x.cells=[x]) (hone':∀ x∈es,x.one=true) :
  ∃ g',St n w0 F g' ⟨(j,.p (.slice es))::(ct (λ i=>Nat.beq i k) ⟨sl,ob⟩).sl,(ct (λ i=>Nat.beq i k) ⟨sl,ob⟩).ob⟩ a w:=by
 obtain ⟨b,c,e,k1,k2,k3,k4,k5⟩:=hs.ob k _ hob
 have hlt:b < w.heap.size:=(hs.own k b k1).1
 have keyD:∀ i b',Nat.beq i k=false→g.ow i=some b'→b'≠b:=λ i b' hD hi e=>by
  subst e
  have:=hs.inj i k b' hi k1
  subst this
  simp at hD
 have hev:Ev w g.st w (λ b' o=>g.st b' o∨(b'=b∧o < es.length)):=λ b' o h=>⟨.inl h,Z⟩
 have hs':=hs.evolve (λ i=>Nat.beq i k) (λ i hi=>by have:=Nat.eq_of_beq_eq_true hi; omega) (g':=⟨λ b' o=>g.st b' o∨(b'=b∧o < es.length),λ i=>if Nat.beq i k then none else g.ow i⟩) hev (λ id b' hD h=>⟨by simp only [hD]; exact h,Z,λ o ho=>ho.resolve_right λ h'=>keyD id b' hD h h'.1⟩)
  (λ i j b h1 h2=>by
   dsimp only at h1 h2
   split at h1
   ·cases h1
   ·split at h2
    ·cases h2
    ·exact hs.inj i j b h1 h2) (λ i b h=>by
   dsimp only at h
   split at h
   ·cases h
   ·exact hs.own i b h) (λ b' o h=>by
   rcases h with h | ⟨rfl,_⟩
   ·exact hs.lt b' o h
   ·exact hlt) (λ b h=>rfl) Z Z Z (Nat.le_refl _) (λ b' hb' o=>⟨λ h=>h.resolve_right λ h'=>(hs.own k b k1).2 (h'.1 ▸ hb'),.inl⟩) (λ i hi=>by
    have hne:Nat.beq i k=false:=by
     cases hq:Nat.beq i k
     ·rfl
     ·have:=Nat.eq_of_beq_eq_true hq; omega
    simp only [hne]; rfl)
 refine ⟨_,{ hs' with sl:=λ i=>?_,ob:=hs'.ob }⟩
 simp only [AS.get,bf]
 by_cases e1:j=i
 ·subst e1
  simp only [if_true,Option.getD_some]
  have h0:=hs.sl j
  simp only [AS.get,hj,Option.getD_some] at h0
  generalize a.tmps.getD j Go.undef=v at h0
  cases h0 with
  | arr how hb hcs hn =>
   rw [k1] at how; cases how
   rw [k2] at hb; cases hb
   refine .p (.slice 1 (λ i _=>c.getD i Go.undef) hn (λ y hy=>by rw [hone y hy]; rfl) (λ x hx y hy=>?_) (λ i x j y hx hy=>?_) (λ i x j y hx hy=>?_))
   ·rw [hone x hx] at hy; simp at hy; rw [hy]; exact hone' x hx
   ·rw [hone x (List.mem_of_getElem? hx)] at hy
    cases j with
    | succ j=>simp at hy
    | zero =>
     have hi:i < es.length:=(List.getElem?_eq_some_iff.1 hx).1
     have hci:i < c.size:=by simp at k3; omega
     refine ⟨.inr ⟨Z,by omega⟩,?_⟩
     simp only [World.cell?,k2,Nat.zero_add,Nat.mul_one,Nat.add_zero]
     simp [Array.getD,hci]
   ·rw [hone x (List.mem_of_getElem? hx)] at hy
    cases j with
    | succ j=>simp at hy
    | zero =>
     simp only [List.getElem?_cons_zero,Option.some.injEq] at hy
     subst hy
     obtain ⟨u,hu,hr⟩:=k5 i (.p x) (by simp [hx])
     rw [Array.getD_eq_getD_getElem?,hu]
     cases hr with | p hr=>exact hr.mono hev
 ·rw [if_neg e1]
  exact hs'.sl i
theorem x8 {C:Cx}{c:Code}{Q:Exit→AS→Prop}{sl:List (Nat×AV)}{ob:List (Nat×List AV)}(j:Nat){k n:Nat}{es:List PV}(hj:look sl j=some (.arr k 1 0 n))(hk:Nat.blt k M1=true)(hob:look ob k=some (es.map .p))(hn:n=es.length)
  (hone:∀ x∈es,x.cells=[x]) (hone':∀ x∈es,x.one=true)
  (h:awp C c Q ⟨(j,.p (.slice es))::(ct (λ i=>Nat.beq i k) ⟨sl,ob⟩).sl,(ct (λ i=>Nat.beq i k) ⟨sl,ob⟩).ob⟩):awp C c Q ⟨sl,ob⟩:=by
 subst hn
 intro g a w hs
 obtain ⟨g',hs'⟩:=hs.freeze (Nat.blt_eq ▸ hk) hob hj hone hone'
 exact h g' a w hs'
end Go.Ab
end
section
namespace Go.Ab
def AV.mapA (m:Nat→Option Nat):AV→Option AV
 | .undef=>some .undef
 | .p x=>some (.p x)
 | .vec tok sz ty es=>match m tok with
  | some t=>some (.vec t sz ty es)
  | none=>some (.p (.slice es))
 | .arr id sz off n=>match m id with
  | some t=>some (.arr t sz off n)
  | none=>none
 | .ptr id off=>match m id with
  | some t=>some (.ptr t off)
  | none=>none
 | .bptr T sz id=>match m id with
  | some t=>some (.bptr T sz t)
  | none=>none
 | .rptr cs=>some (.rptr cs)
 | .agg cs=>match go m cs with
  | some l=>some (.agg l)
  | none=>none
 | .tuple cs=>match go m cs with
  | some l=>some (.tuple l)
  | none=>none
 | .func f cs=>match go m cs with
  | some l=>some (.func f l)
  | none=>none
 | .mp tok kvs=>match m tok with
  | some t=>some (.mp t kvs)
  | none=>none
 | .mpr ..=>none
 | .stk tok sz es=>match m tok with
  | some t=>some (.stk t sz es)
  | none=>none
 | .sem _=>none
 | .it ..=>none
 | .vecp ..=>none
 | .elp ..=>none where
 go (m:Nat→Option Nat):List AV→Option (List AV)
 | []=>some []
 | x::r=>match x.mapA m,go m r with
  | some y,some l=>some (y::l)
  | _,_=>none
theorem qq {m:Nat→Option Nat}:∀ {l l':List AV},AV.mapA.go m l=some l'→l.length=l'.length∧∀ (i:Nat) x y,l[i]? = some x→l'[i]? = some y→x.mapA m=some y
 | [],l',h=>by simp only [AV.mapA.go,Option.some.injEq] at h; subst h; exact ⟨Z,by simp⟩
 | x::r,l',h=>by
  simp only [AV.mapA.go] at h
  split at h
  ·rename_i y l0 hy hl
   cases h
   obtain ⟨h1,h2⟩:=qq hl
   refine ⟨by simp [h1],λ i a b ha hb=>?_⟩
   cases i with
   | zero=>simp only [List.getElem?_cons_zero,Option.some.injEq] at ha hb; subst ha hb; exact hy
   | succ i=>simp only [List.getElem?_cons_succ] at ha hb; exact h2 i a b ha hb
  ·cases h
theorem jM {m:Nat→Option Nat}{w:World}{g g':Gh}(hst:g'.st=g.st)(hm:∀ i j b,m i=some j→g.ow i=some b→g'.ow j=some b){x:AV}{v:Value}(h:ARep w g x v):∀ {y:AV},x.mapA m=some y→ARep w g' y v:=by
 have lst:∀ {cs:List AV} {vs:Array Value} {l:List AV},vs.size=cs.length→(∀ (i:Nat) c v,cs[i]? = some c→vs[i]? = some v→∀ {y:AV},c.mapA m=some y→ARep w g' y v) →
   AV.mapA.go m cs=some l→vs.size=l.length∧∀ (i:Nat) c v,l[i]? = some c→vs[i]? = some v→ARep w g' c v:=by
  intro cs vs l hl ih hgo
  obtain ⟨h1,h2⟩:=qq hgo
  refine ⟨by omega,λ i c v hc hv=>?_⟩
  have hi:i < cs.length:=by have:=(List.getElem?_eq_some_iff.1 hc).1; omega
  exact ih i cs[i] v (List.getElem?_eq_getElem hi) hv (h2 i _ _ (List.getElem?_eq_getElem hi) hc)
 induction h with
 | undef v=>intro y hy; simp only [AV.mapA,Option.some.injEq] at hy; subst hy; exact .undef _
 | p h=>intro y hy; simp only [AV.mapA,Option.some.injEq] at hy; subst hy; exact .p (hst ▸ h)
 | vecn tok sz ty =>
  intro y hy
  simp only [AV.mapA] at hy
  split at hy <;> cases hy
  ·exact .vecn _ _ _
  ·exact .p .nils
 | vece tok sz a =>
  intro y hy
  simp only [AV.mapA] at hy
  split at hy <;> cases hy
  ·exact .vece _ _ _
  ·exact .p (.nile a)
 | vec how hb hcs hsz hst' hr hty =>
  intro y hy
  simp only [AV.mapA] at hy
  split at hy <;> cases hy
  ·rename_i t ht
   exact .vec (hm _ _ _ ht how) hb hcs hsz (by rw [hst]; exact hst') (by rw [hst]; exact hr) hty
  ·exact .p (by rw [hst]; exact hr)
 | arr how hb hcs hn =>
  intro y hy
  simp only [AV.mapA] at hy
  split at hy <;> cases hy
  rename_i t ht
  exact .arr (hm _ _ _ ht how) hb hcs hn
 | ptr how =>
  intro y hy
  simp only [AV.mapA] at hy
  split at hy <;> cases hy
  rename_i t ht
  exact .ptr (hm _ _ _ ht how)
 | bptrn how hb hcs =>
  intro y hy
  simp only [AV.mapA] at hy
  split at hy <;> cases hy
  rename_i t ht
  exact .bptrn (hm _ _ _ ht how) hb hcs
 | bptr how hb hcs =>
  intro y hy
  simp only [AV.mapA] at hy
  split at hy <;> cases hy
  rename_i t ht
  exact .bptr (hm _ _ _ ht how) hb hcs
 | rptr cf hc hr=>intro y hy; simp only [AV.mapA,Option.some.injEq] at hy; subst hy; exact .rptr cf (by rw [hst]; exact hc) (by rw [hst]; exact hr)
 | agg hl h ih =>
  intro y hy
  simp only [AV.mapA] at hy
  split at hy <;> cases hy
  rename_i l hgo
  obtain ⟨k1,k2⟩:=lst hl ih hgo
  exact .agg k1 k2
 | tuple hl h ih =>
  intro y hy
  simp only [AV.mapA] at hy
  split at hy <;> cases hy
  rename_i l hgo
  obtain ⟨k1,k2⟩:=lst hl ih hgo
  exact .tuple k1 k2
 | func hl h ih =>
  intro y hy
  simp only [AV.mapA] at hy
  split at hy <;> cases hy
  rename_i l hgo
  obtain ⟨k1,k2⟩:=lst hl ih hgo
  exact .func k1 k2
 | mp how hb hn hd hk hv =>
  intro y hy
  simp only [AV.mapA] at hy
  split at hy <;> cases hy
  rename_i t ht
  exact .mp (hm _ _ _ ht how) hb hn hd hk (by rw [hst]; exact hv)
 | mpr=>intro y hy; simp only [AV.mapA] at hy; cases hy
 | stkn tok sz =>
  intro y hy
  simp only [AV.mapA] at hy
  split at hy <;> cases hy
  exact .stkn _ _
 | stke tok sz a =>
  intro y hy
  simp only [AV.mapA] at hy
  split at hy <;> cases hy
  exact .stke _ _ _
 | stk how hb hcs hlen hsz hone hst' hr =>
  intro y hy
  simp only [AV.mapA] at hy
  split at hy <;> cases hy
  rename_i t ht
  exact .stk (hm _ _ _ ht how) hb hcs hlen hsz hone (by rw [hst]; exact hst') (by rw [hst]; exact hr)
 | sem=>intro y hy; simp only [AV.mapA] at hy; cases hy
 | it=>intro y hy; simp only [AV.mapA] at hy; cases hy
 | vecp=>intro y hy; simp only [AV.mapA] at hy; cases hy
 | elp=>intro y hy; simp only [AV.mapA] at hy; cases hy
def ia (m:Nat→Option Nat):List (Nat×List AV)→Option (List (Nat×List AV))
 | []=>some []
 | (i,cs)::r=>match m i,AV.mapA.go m cs,ia m r with
  | some j,some l,some q=>some ((j,l)::q)
  | _,_,_=>none
theorem kJ {m:Nat→Option Nat}{w:World}{g g':Gh}(hst:g'.st=g.st)(hm:∀ i j b,m i=some j→g.ow i=some b→g'.ow j=some b) :
  ∀ {l l':List (Nat×List AV)},ia m l=some l'→(∀ p∈l,jb w g p.1 p.2)→∀ p∈l',jb w g' p.1 p.2
 | [],l',h,_,p,hc=>by simp only [ia,Option.some.injEq] at h; subst h; simp at hc
 | (i,ds)::r,l',h,hl,p,hc=>by
  simp only [ia] at h
  split at h
  ·rename_i j l q hj hgo hq
   cases h
   rcases List.mem_cons.1 hc with rfl | hc
   ·obtain ⟨b,c,e,k1,k2,k3,k4,k5⟩:=hl (i,ds) G
    obtain ⟨m1,m2⟩:=qq hgo
    refine ⟨b,c,e,hm _ _ _ hj k1,k2,by simp only at k3 ⊢; omega,by rw [hst]; exact k4,λ n x hx=>?_⟩
    have hn:n < ds.length:=by have:=(List.getElem?_eq_some_iff.1 hx).1; simp only at this; omega
    obtain ⟨v,hv,hr⟩:=k5 n ds[n] (List.getElem?_eq_getElem hn)
    exact ⟨v,hv,jM hst hm hr (m2 n _ _ (List.getElem?_eq_getElem hn) hx)⟩
   ·exact kJ hst hm hq (λ p hp=>hl p (by simp [hp])) p hc
  ·cases h
theorem gM {α:Type}:∀ {l:List (Nat×α)} {i:Nat} {x:α},look l i=some x→(i,x)∈l
 | [],i,x,h=>by simp [look] at h
 | (j,y)::r,i,x,h=>by
  rw [bf] at h
  split at h
  ·rename_i e; subst e; cases h; simp
  ·simp [gM h]
theorem gW {α:Type}:∀ (l q:List (Nat×α)) (i:Nat),look (l++q) i=match look l i with | some x=>some x | none=>look q i
 | [],q,i=>by simp [look]
 | (j,y)::r,q,i=>by
  simp only [List.cons_append,bf,gW r q i]
  split <;> rfl
structure oH (w:World)(g:Gh)(w':World)(g':Gh):Prop where
 os:w'.os=w.os
 out:w'.output=w.output
 tape:w'.tape=w.tape
 size:w.heap.size≤w'.heap.size
 fr:∀ b,b < w.heap.size→(∀ i,g.ow i≠some b)→w'.heap[b]? = w.heap[b]?
 own:∀ i b,g'.ow i=some b→b < w'.heap.size∧(w.heap.size≤b∨∃ j,g.ow j=some b)
 inj:∀ i j b,g'.ow i=some b→g'.ow j=some b→i=j
 lt:∀ b o,g'.st b o→b < w'.heap.size
 stf:∀ b,b < w.heap.size→(∀ i,g.ow i≠some b)→∀ o,g'.st b o↔g.st b o
 owf:∀ i,M1≤i→i < 2*M1→g'.ow i=g.ow i
 sh:jZ g.ow w w'
 nst:∀ i b,M1≤i→g.ow i=some b→∀ o,¬ g'.st b o
 ev:Ev w g.st w' g'.st
def bN (P:Program)(f:FuncId)(args:List AV)(obs:List (Nat×List AV))(R:AV→List (Nat×List AV)→Prop):Prop :=
 ∀ (w:World) (g:Gh) (vs:Array Value),Ok0 w g.st→(∀ i b,g.ow i=some b→b < w.heap.size∧i < 2*M1) →
  (∀ i j b,g.ow i=some b→g.ow j=some b→i=j)→(∀ i b,M1≤i→g.ow i=some b→∀ o,¬ g.st b o)→vs.size=args.length →
  (∀ (i:Nat) c v,args[i]? = some c→vs[i]? = some v→ARep w g c v)→(∀ id cs,look obs id=some cs→jb w g id cs) →
  Calls P f vs w λ e w'=>∃ v r obs' g',e=.returned v∧R r obs'∧ARep w' g' r v∧(∀ p∈obs',jb w' g' p.1 p.2)∧oH w g w' g'
def iH (args:List AV):List (Nat×AV):=(args.zipIdx).map λ (x,i)=>(i,x)
theorem o0 (args:List AV):∀ (k i:Nat),look ((args.zipIdx k).map λ (x,i)=>(i,x)) i=if k≤i then args[i - k]? else none:=by
 induction args with
 | nil=>intro k i; simp [look]
 | cons x r ih =>
  intro k i
  simp only [List.zipIdx_cons,List.map_cons,bf,ih]
  by_cases e:k=i
  ·subst e; simp
  ·rw [if_neg e]
   by_cases h:k≤i
   ·rw [if_pos O,if_pos h]
    have:i - k=(i - (k+1))+1:=by omega
    rw [this]; simp
   ·rw [if_neg O,if_neg h]
def j4 (ts:List Nat)(i:Nat):Option Nat:=bif Nat.ble M1 i then (bif Nat.blt i MZ then some i else none) else match ts.findIdx? (Nat.beq i) with
 | some k=>some (2*M1+k)
 | none=>none
def gU (ob:List (Nat×List AV)):List Nat→Option (List (Nat×List AV))
 | []=>some []
 | i::r=>match look ob i,gU ob r with
  | some cs,some l=>some ((i,cs)::l)
  | _,_=>none
theorem mX {ob:List (Nat×List AV)}:∀ {ids:List Nat} {l:List (Nat×List AV)},gU ob ids=some l→∀ p∈l,look ob p.1=some p.2
 | [],l,h,p,hp=>by simp only [gU,Option.some.injEq] at h; subst h; simp at hp
 | i::r,l,h,p,hp=>by
  simp only [gU] at h
  split at h
  ·rename_i cs l' hcs hl'
   cases h
   rcases List.mem_cons.1 hp with rfl | hp
   ·exact hcs
   ·exact mX hl' p hp
  ·cases h
def nodupB:List Nat→Bool
 | []=>true
 | x::r=>!(r.any (Nat.beq x))&&nodupB r
theorem gh:∀ {l:List Nat},nodupB l=true→∀ (i j x:Nat),l[i]? = some x→l[j]? = some x→i=j
 | [],_,i,j,x,h,_=>by simp at h
 | y::r,h,i,j,x,hi,hj=>by
  simp only [nodupB,Bool.and_eq_true,Bool.not_eq_true',List.any_eq_false] at h
  cases i with
  | zero =>
   cases j with
   | zero=>rfl
   | succ j =>
    simp only [List.getElem?_cons_zero,Option.some.injEq,List.getElem?_cons_succ] at hi hj
    subst hi
    exact absurd G (h.1 y (List.mem_of_getElem? hj))
  | succ i =>
   cases j with
   | zero =>
    simp only [List.getElem?_cons_zero,Option.some.injEq,List.getElem?_cons_succ] at hi hj
    subst hj
    exact absurd G (h.1 y (List.mem_of_getElem? hi))
   | succ j =>
    simp only [List.getElem?_cons_succ] at hi hj
    rw [gh h.2 i j x hi hj]
def CE (fn:Func)(ts ids:List Nat)(R:AV→List (Nat×List AV)→Prop)(e:Exit)(s:AS):Prop :=
 (e=.normal∨e=.ret)∧∃ l r obs obs',lh fn.results.toList s=some l∧(np l).mapA (j4 ts)=some r∧gU s.ob ids=some obs∧ia (j4 ts) obs=some obs'∧R r obs'
theorem Dh {fn:Func}{ts ids:List Nat}{R:AV→List (Nat×List AV)→Prop}{s:AS}{l:List AV}{r:AV}{obs obs':List (Nat×List AV)}(h1:lh fn.results.toList s=some l)(h2:(np l).mapA (j4 ts)=some r)
  (h3:gU s.ob ids=some obs) (h4:ia (j4 ts) obs=some obs') (h5:R r obs'):CE fn ts ids R .ret s:=⟨.inr Z,l,r,obs,obs',h1,h2,h3,h4,h5⟩
theorem Dx {fn:Func}{ts ids:List Nat}{R:AV→List (Nat×List AV)→Prop}{s:AS}{l:List AV}{r:AV}{obs obs':List (Nat×List AV)}(h1:lh fn.results.toList s=some l)(h2:(np l).mapA (j4 ts)=some r)
  (h3:gU s.ob ids=some obs) (h4:ia (j4 ts) obs=some obs') (h5:R r obs'):CE fn ts ids R .normal s:=⟨.inl Z,l,r,obs,obs',h1,h2,h3,h4,h5⟩
theorem g7:∀ {ts:List Nat} {i k:Nat},ts.findIdx? (Nat.beq i)=some k→ts[k]? = some i:=by
 intro ts i k h
 obtain ⟨h1,h2,_⟩:=List.findIdx?_eq_some_iff_getElem.1 h
 rw [List.getElem?_eq_getElem h1]
 rw [Nat.eq_of_beq_eq_true h2]
theorem oJ {P:Program}{tt:List (Nat×TI)}(good:dv P tt){f:FuncId}{fn:Func}{c:Code}{args:List AV}{obs:List (Nat×List AV)}{R:AV→List (Nat×List AV)→Prop}(ts ids:List Nat)(hf:P.funcs[f]? = some fn)(hb:fn.body=some c)
  (hn:args.length≤fn.ntmps) (hnl:Nat.ble fn.ntmps M1=true) (hts:ts.all (λ i=>Nat.blt i M1)=true) (hnd:nodupB ts=true)
  (h:∀ w0 F,awp ⟨P,tt,good,fn.ntmps,hnl,w0,F⟩ c (CE fn ts ids R) ⟨iH args,obs⟩):bN P f args obs R:=by
 intro w g vs hlt hown hinj hnst h1 h2 hobs
 refine calls_of_wp hf hb ?_
 have hs:St fn.ntmps ⟨w,g.st,g.ow,hlt.gl,(λ i b h=>Nat.lt_of_lt_of_le (hown i b h).2 vA),[]⟩ (λ b=>b < w.heap.size∧∀ i,g.ow i≠some b) g ⟨iH args,obs⟩ { tmps:=vs++Array.replicate (fn.ntmps - vs.size) Go.undef,defers:=[] } w:=by
  refine ⟨Z,?_,?_,hobs,hinj,?_,hlt.lt,?_,?_,Z,Z,Z,Nat.le_refl _,λ b _ o=>Iff.rfl,λ _ _ _=>rfl,jZ.refl _ _,λ i b hi h=>hnst i b hi h,Ev.refl _ _⟩
  ·simp only [Array.size_append,Array.size_replicate]; omega
  ·intro i
   have:=o0 args 0 i
   simp only [AS.get,iH,this,Nat.zero_le,if_true,Nat.sub_zero]
   cases ha:args[i]? with
   | none=>exact .undef _
   | some x =>
    have hi:i < args.length:=(List.getElem?_eq_some_iff.1 ha).1
    have hi2:i < vs.size:=by omega
    have e:(vs++Array.replicate (fn.ntmps - vs.size) Go.undef).getD i Go.undef=vs[i]:=by
     simp [Array.getD_eq_getD_getElem?,Array.getElem?_append,hi2]
    simp only [Option.getD_some]
    rw [e]
    exact h2 i x _ ha (Array.getElem?_eq_getElem hi2)
  ·intro i b hi; exact ⟨(hown i b hi).1,λ h=>h.2 i hi⟩
  ·intro b h; exact h.1
  ·intro b h; rfl
 refine wp_mono (h ⟨w,g.st,g.ow,hlt.gl,(λ i b h=>Nat.lt_of_lt_of_le (hown i b h).2 vA),[]⟩ _ g _ w hs) ?_
 rintro e a' w' ⟨g1,s',h3,he,l,r,obs1,obs',hl,hr,hp,hm,hR⟩
 obtain ⟨v,hv,hvr⟩:=sA (P:=P) h3 fn l hl
 have hown3:∀ i b,M1≤i→i < MZ→g1.ow i=some b→i < 2*M1:=by
  intro i b hi hz hb
  rw [h3.owf i hi hz] at hb
  exact (hown i b hb).2
 have hmap:∀ i j b,j4 ts i=some j→g1.ow i=some b→(if 2*M1≤j then (ts[j - 2*M1]?).bind g1.ow else if M1≤j then g1.ow j else none)=some b:=by
  intro i j b hij hb
  unfold j4 at hij
  cases hle:Nat.ble M1 i
  ·rw [hle] at hij
   simp only [cond_false] at hij
   split at hij
   ·rename_i k hk
    cases hij
    rw [if_pos O,Nat.add_sub_cancel_left,g7 hk]
    exact hb
   ·cases hij
  ·rw [hle] at hij
   simp only [cond_true] at hij
   cases hz:Nat.blt i MZ <;> rw [hz] at hij <;> simp only [cond_true,cond_false,Option.some.injEq,reduceCtorEq] at hij
   subst hij
   have h4:=Nat.le_of_ble_eq_true hle
   have h5:=hown3 i b h4 (Nat.blt_eq ▸ hz) hb
   rw [if_neg O,if_pos h4]
   exact hb
 have hts':∀ (k t:Nat),ts[k]? = some t→t < M1:=by
  intro k t hk
  have:=List.all_eq_true.1 hts t (List.mem_of_getElem? hk)
  exact Nat.blt_eq ▸ this
 have inv:∀ j b,(if 2*M1≤j then (ts[j - 2*M1]?).bind g1.ow else if M1≤j then g1.ow j else none)=some b →
   (∃ t,ts[j - 2*M1]? = some t∧2*M1≤j∧g1.ow t=some b)∨(M1≤j∧j < 2*M1∧g1.ow j=some b):=by
  intro j b h
  by_cases e1:2*M1≤j
  ·rw [if_pos e1] at h
   obtain ⟨t,ht,hb⟩:=Option.bind_eq_some_iff.1 h
   exact .inl ⟨t,ht,e1,hb⟩
  ·rw [if_neg e1] at h
   by_cases e2:M1≤j
   ·rw [if_pos e2] at h; exact .inr ⟨e2,by omega,h⟩
   ·rw [if_neg e2] at h; cases h
 have hst0:(⟨g1.st,λ j=>if 2*M1≤j then (ts[j - 2*M1]?).bind g1.ow else if M1≤j then g1.ow j else none⟩:Gh).st=g1.st:=rfl
 have fin:∃ v,(results fn a'.tmps).run P w'=.ok v w'∧∃ v1 r obs' g',Ending.returned v=.returned v1∧R r obs'∧ARep w' g' r v1∧(∀ p∈obs',jb w' g' p.1 p.2)∧oH w g w' g':=by
  refine ⟨v,hv,v,r,obs',⟨g1.st,λ j=>if 2*M1≤j then (ts[j - 2*M1]?).bind g1.ow else if M1≤j then g1.ow j else none⟩,Z,hR,jM hst0 hmap hvr hr,kJ hst0 hmap hm (λ p hp'=>h3.ob p.1 p.2 (mX hp p hp')),?_⟩
  refine ⟨h3.os,h3.out,h3.tape,h3.size,λ b hb hno=>h3.fr b ⟨hb,hno⟩,λ i b hi=>?_,λ i j b hi hj=>?_,h3.lt,λ b hb hno=>h3.stf b ⟨hb,hno⟩,λ i h1 h2=>?_,h3.shf,h3.nst,h3.ev0⟩
  ·have key:∀ t,g1.ow t=some b→b < w'.heap.size∧(w.heap.size≤b∨∃ j,g.ow j=some b):=by
    intro t ht
    obtain ⟨k1,k2⟩:=h3.own t b ht
    refine ⟨k1,?_⟩
    by_cases hb:w.heap.size≤b
    ·exact .inl hb
    ·refine .inr ?_
     by_cases hex:∃ j,g.ow j=some b
     ·exact hex
     ·exact absurd ⟨by omega,λ i hi=>hex ⟨i,hi⟩⟩ k2
   rcases inv i b hi with ⟨t,_,_,ht⟩ | ⟨_,_,ht⟩
   ·exact key t ht
   ·exact key i ht
  ·rcases inv i b hi with ⟨t,a1,a2,a3⟩ | ⟨a1,a2,a3⟩ <;> rcases inv j b hj with ⟨u,b1,b2,b3⟩ | ⟨b1,b2,b3⟩
   ·have:=h3.inj t u b a3 b3
    subst this
    have:=gh hnd _ _ _ a1 b1
    omega
   ·have:=h3.inj t j b a3 b3
    have:=hts' _ t a1
    omega
   ·have:=h3.inj i u b a3 b3
    have:=hts' _ u b1
    omega
   ·exact h3.inj i j b a3 b3
  ·dsimp only
   rw [if_neg O,if_pos h1]
   exact h3.owf i h1 (Nat.lt_of_lt_of_le h2 vA)
 rcases he with rfl | rfl
 ·exact ⟨h3.nd,fin⟩
 ·exact ⟨h3.nd,fin⟩
def pT:List AV→List AV→Prop
 | [],[]=>True
 | x::r,y::q=>x.sub y∧pT r q
 | _,_=>False
theorem lP:∀ {l q:List AV},pT l q→l.length=q.length∧∀ (j:Nat) x y,l[j]? = some x→q[j]? = some y→x.sub y
 | [],[],_=>⟨Z,by simp⟩
 | [],_::_,h=>h.elim
 | _::_,[],h=>h.elim
 | x::r,y::q,h=>by
  obtain ⟨h1,h2⟩:=lP h.2
  refine ⟨by simp [h1],λ j x' y' hx hy=>?_⟩
  cases j with
  | zero=>simp only [List.getElem?_cons_zero,Option.some.injEq] at hx hy; subst hx hy; exact h.1
  | succ j=>simp only [List.getElem?_cons_succ] at hx hy; exact h2 j x' y' hx hy
def wb (ids:List Nat)(i:Nat):Option Nat:=match ids.findIdx? (Nat.beq i) with
 | some k=>some (M1+k)
 | none=>none
def ln (ids:List Nat)(NB NE:Nat)(j:Nat):Option Nat:=bif Nat.ble (2*M1) j then (bif Nat.blt (NB+(j - 2*M1)) NE then some (NB+(j - 2*M1)) else none) else bif Nat.ble M1 j then ids[j - M1]? else none
theorem tG {ids:List Nat}{NB NE j i:Nat}(h:ln ids NB NE j=some i):(∃ k,j=2*M1+k∧i=NB+k∧i < NE)∨(M1≤j∧j < 2*M1∧ids[j - M1]? = some i):=by
 generalize hm:2*M1=m at *
 unfold ln at h
 rw [hm] at h
 rcases Nat.lt_or_ge j m with hlt | hge
 ·have e1:Nat.ble m j=false:=by
   cases hq:Nat.ble m j
   ·rfl
   ·have:=Nat.le_of_ble_eq_true hq; omega
  rw [e1,cond_false] at h
  cases h2:Nat.ble M1 j
  ·rw [h2,cond_false] at h; cases h
  ·rw [h2,cond_true] at h
   exact .inr ⟨Nat.le_of_ble_eq_true h2,hlt,h⟩
 ·obtain ⟨k,rfl⟩:=Nat.le.dest hge
  rw [Nat.ble_eq_true_of_le hge,cond_true,Nat.add_sub_cancel_left] at h
  cases h2:Nat.blt (NB+k) NE
  ·rw [h2,cond_false] at h; cases h
  ·rw [h2,cond_true] at h
   cases h
   exact .inl ⟨k,Z,Z,by rw [← Nat.blt_eq]; exact h2⟩
section
variable {C:Cx} {o:Oper} {K:AS→Prop} {sl:List (Nat×AV)} {ob:List (Nat×List AV)} {d:Nat}
theorem CH (ids:List Nat)(NB NE:Nat){f:FuncId}{args:Array Operand}{ts:Array TypeId}{l l' q:List AV}{obs obs0 qo:List (Nat×List AV)}{R:AV→List (Nat×List AV)→Prop}(hc:bN C.P f q qo R)(ho:o.op=.call { callee:=.value (.func f),args:=args,argTypes:=ts })
  (hd:o.dst=some d) (hn:Nat.blt d C.n=true) (hl:lN sl args.toList=some l) (hl':AV.mapA.go (wb ids) l=some l') (hq:pT l' q) (hpk:gU ob ids=some obs) (hmo:ia (wb ids) obs=some obs0) (hqo:leO obs0 qo)
  (hnd:nodupB ids=true) (hids:ids.all (λ i=>Nat.blt i M1)=true) (hil:Nat.ble ids.length M1=true) (hdl:Nat.ble NE M1=true) (hdis:ids.all (λ i=>!(Nat.ble NB i&&Nat.blt i NE))=true)
  (henter:∀ vs w,(callFunc f vs).run C.P w=.ok (.enter f vs) w)
  (hK:∀ r obs',R r obs'→∃ r' ob',r.mapA (ln ids NB NE)=some r'∧ia (ln ids NB NE) obs'=some ob' ∧
   K ⟨(d,r')::(ct (λ i=>Nat.ble NB i&&Nat.blt i NE) ⟨sl,ob⟩).sl,ob'++(ct (λ i=>Nat.ble NB i&&Nat.blt i NE) ⟨sl,ob.filter λ p=>!(ids.any (Nat.beq p.1))⟩).ob⟩):aW C o K ⟨sl,ob⟩:=by
 have hidl:∀ (k i:Nat),ids[k]? = some i→i < M1:=λ k i h=>by
  have:=List.all_eq_true.1 hids i (List.mem_of_getElem? h)
  exact Nat.blt_eq ▸ this
 have hidD:∀ (k i:Nat),ids[k]? = some i→(Nat.ble NB i&&Nat.blt i NE)=false:=λ k i h=>by
  have:=List.all_eq_true.1 hdis i (List.mem_of_getElem? h)
  simpa only [Bool.not_eq_true'] using this
 have hD:∀ i,(Nat.ble NB i&&Nat.blt i NE)=true→NB≤i∧i < NE:=λ i h=>by
  simp only [Bool.and_eq_true] at h
  exact ⟨Nat.le_of_ble_eq_true h.1,Nat.blt_eq ▸ h.2⟩
 have hdl':=Nat.le_of_ble_eq_true hdl
 have hil':=Nat.le_of_ble_eq_true hil
 intro g a w hs
 obtain ⟨a1,a2⟩:=nt hs _ l hl
 obtain ⟨gc,hgc⟩:∃ gc:Gh,gc=⟨g.st,λ j=>if M1≤j then (ids[j - M1]?).bind g.ow else none⟩:=⟨_,rfl⟩
 have hgst:gc.st=g.st:=by rw [hgc]
 have gcinv:∀ j b,gc.ow j=some b→∃ i,ids[j - M1]? = some i∧M1≤j∧j < 2*M1∧g.ow i=some b:=by
  intro j b h
  rw [hgc] at h
  dsimp only at h
  by_cases e:M1≤j
  ·rw [if_pos e] at h
   obtain ⟨i,h1,h2⟩:=Option.bind_eq_some_iff.1 h
   have:=(List.getElem?_eq_some_iff.1 h1).1
   exact ⟨i,h1,e,by omega,h2⟩
  ·rw [if_neg e] at h; cases h
 have hpm:∀ i j b,wb ids i=some j→g.ow i=some b→gc.ow j=some b:=by
  intro i j b h hb
  unfold wb at h
  split at h
  ·rename_i k hk
   cases h
   rw [hgc]
   dsimp only
   rw [if_pos O,Nat.add_sub_cancel_left,g7 hk]
   exact hb
  ·cases h
 have hidob:∀ (k i:Nat),ids[k]? = some i→∃ cs,look ob i=some cs:=by
  have:∀ (ids:List Nat) (obs:List (Nat×List AV)),gU ob ids=some obs→∀ (k i:Nat),ids[k]? = some i→∃ cs,look ob i=some cs:=by
   intro ids
   induction ids with
   | nil=>intro obs _ k i h; simp at h
   | cons x r ih =>
    intro obs h k i hk
    simp only [gU] at h
    split at h
    ·rename_i cs l0 h1 h2
     cases k with
     | zero=>simp only [List.getElem?_cons_zero,Option.some.injEq] at hk; subst hk; exact ⟨cs,h1⟩
     | succ k=>simp only [List.getElem?_cons_succ] at hk; exact ih l0 h2 k i hk
    ·cases h
  exact this ids obs hpk
 have hnst:∀ j b,gc.ow j=some b→∀ o,¬ g.st b o:=by
  intro j b h o ho
  obtain ⟨i,h1,_,_,h4⟩:=gcinv j b h
  obtain ⟨cs,hcs⟩:=hidob _ i h1
  obtain ⟨b',c,e,k1,_,_,k4,_⟩:=hs.ob i cs hcs
  rw [h4] at k1; cases k1
  exact k4 o ho
 obtain ⟨m1,m2⟩:=qq hl'
 obtain ⟨b1,b2⟩:=lP hq
 have hargs:∀ (i:Nat) c v,q[i]? = some c→(args.map a.eval)[i]? = some v→ARep w gc c v:=by
  intro i c v hc hv
  have hi':i < l'.length:=by have:=(List.getElem?_eq_some_iff.1 hc).1; omega
  have hi:i < l.length:=by omega
  have hv':(args.toList.map a.eval)[i]? = some v:=by rw [← Array.toList_map]; simpa using hv
  have h1:=a2 i _ v (List.getElem?_eq_getElem hi) hv'
  have h2:=jM hgst hpm h1 (m2 i _ _ (List.getElem?_eq_getElem hi) (List.getElem?_eq_getElem hi'))
  exact b2 i _ c (List.getElem?_eq_getElem hi') hc w gc v h2
 have hobs0:=kJ hgst hpm hmo (λ p hp=>hs.ob p.1 p.2 (mX hpk p hp))
 have hqo':∀ id cs,look qo id=some cs→jb w gc id cs:=by
  intro id cs h
  obtain ⟨ds,h1,h2⟩:=qJ hqo id cs h
  obtain ⟨k1,k2⟩:=kd h2
  obtain ⟨b,c,e,n1,n2,n3,n4,n5⟩:=hobs0 (id,ds) (gM h1)
  refine ⟨b,c,e,n1,n2,by simp only at n3; omega,n4,λ i x hx=>?_⟩
  have hi:i < ds.length:=by have:=(List.getElem?_eq_some_iff.1 hx).1; omega
  obtain ⟨v,hv,hr⟩:=n5 i ds[i] (List.getElem?_eq_getElem hi)
  exact ⟨v,hv,k2 i x _ hx (List.getElem?_eq_getElem hi) _ _ _ hr⟩
 have hcall:=hc w gc (args.map a.eval) (by rw [hgst]; exact hs.ok0) (λ j b h=>by
   obtain ⟨i,h1,h2,h3,h4⟩:=gcinv j b h
   exact ⟨(hs.own i b h4).1,h3⟩) (λ i j b h1 h2=>by
   obtain ⟨i',p1,p2,_,p3⟩:=gcinv i b h1
   obtain ⟨j',q1,q2,_,q3⟩:=gcinv j b h2
   have:=hs.inj i' j' b p3 q3
   subst this
   have:=gh hnd _ _ _ p1 q1
   omega) (λ j b _ h=>by rw [hgst]; exact hnst j b h) (by have hlen:=a1.symm.trans (m1.trans b1); simpa using hlen) hargs hqo'
 unfold Oper.wp
 have hrun:(execOp a.eval o).run C.P w=.ok (.enter f (args.map a.eval)) w:=by
  simp [execOp,ho,resolve,Act.eval,Deferred.ofValue,invoke,henter]
 rw [hrun]
 simp only [Oper.upon]
 refine hcall.mono λ e w' ⟨v,r,obs',g',he,hR,hr,hob',hA⟩=>?_
 subst he
 obtain ⟨r',ob',hr',hmo',hK'⟩:=hK r obs' hR
 have nogc:∀ i b,(∀ (k:Nat),ids[k]?≠some i)→g.ow i=some b→∀ j,gc.ow j≠some b:=by
  intro i b hi hb j hj
  obtain ⟨i',p1,_,_,p3⟩:=gcinv j b hj
  have:=hs.inj i i' b hb p3
  subst this
  exact hi _ p1
 have stno:∀ b o,g.st b o→∀ j,gc.ow j≠some b:=λ b o h j hj=>hnst j b hj o h
 obtain ⟨g2,hg2⟩:∃ g2:Gh,g2=⟨g'.st,λ i=>if (Nat.ble NB i&&Nat.blt i NE)=true then g'.ow (2*M1+(i - NB)) else g.ow i⟩:=⟨_,rfl⟩
 have hg2st:g2.st=g'.st:=by rw [hg2]
 have g2old:∀ i,(Nat.ble NB i&&Nat.blt i NE)=false→g2.ow i=g.ow i:=λ i h=>by rw [hg2]; simp only [h]; rfl
 have g2new:∀ i,(Nat.ble NB i&&Nat.blt i NE)=true→g2.ow i=g'.ow (2*M1+(i - NB)):=λ i h=>by rw [hg2]; simp only [h,if_true]
 have hDM:∀ i,M1≤i→(Nat.ble NB i&&Nat.blt i NE)=false:=λ i hi=>by
  cases hq:(Nat.ble NB i&&Nat.blt i NE)
  ·rfl
  ·have:=hD i hq; omega
 have hbm:∀ j i b,ln ids NB NE j=some i→g'.ow j=some b→g2.ow i=some b:=by
  intro j i b h hb
  rcases tG h with ⟨k,rfl,rfl,h4⟩ | ⟨h3,h4,h5⟩
  ·rw [g2new (NB+k) (by
    simp only [Bool.and_eq_true]
    exact ⟨Nat.ble_eq_true_of_le (Nat.le_add_right _ _),by rw [Nat.blt_eq]; exact h4⟩),Nat.add_sub_cancel_left]
   exact hb
  ·rw [g2old i (hidD _ i h5)]
   rw [hA.owf j h3 h4] at hb
   obtain ⟨i',p1,_,_,p3⟩:=gcinv j b hb
   rw [h5] at p1; cases p1
   exact p3
 have hE:EvO (λ i=>Nat.ble NB i&&Nat.blt i NE) w g w' g2:=by
  refine ⟨λ b o h=>?_,λ id b hq h=>by rw [g2old id hq]; exact h,λ id b c e hq h0 h=>?shape,λ id b o hq h ho=>?_,λ id b es k hq h0 h=>?mpc,λ i hi=>hDM i (vn hi),λ id b o hq h0 ho=>?stb⟩
  case stb =>
   have hlt:=(hs.own id b h0).1
   by_cases hno:∃ j,gc.ow j=some b
   ·obtain ⟨j,hj⟩:=hno
    obtain ⟨i',p1,_,_,p3⟩:=gcinv j b hj
    obtain ⟨cs,hcs⟩:=hidob _ i' p1
    obtain ⟨b',c,e,k1,k2,_,k4,_⟩:=hs.ob i' cs hcs
    rw [p3] at k1; cases k1
    exact absurd ho (k4 o)
   ·exact hA.fr b hlt (λ j hj=>hno ⟨j,hj⟩)
  case mpc =>
   have hlt:=(hs.own id b h0).1
   by_cases hno:∃ j,gc.ow j=some b
   ·obtain ⟨j,hj⟩:=hno
    obtain ⟨i',p1,_,_,p3⟩:=gcinv j b hj
    obtain ⟨cs,hcs⟩:=hidob _ i' p1
    obtain ⟨b',c,e,k1,k2,_⟩:=hs.ob i' cs hcs
    rw [p3] at k1; cases k1
    rw [k2] at h; cases h
   ·exact (hA.fr b hlt (λ j hj=>hno ⟨j,hj⟩)).trans h
  case shape =>
   have hlt:=(hs.own id b h0).1
   by_cases hno:∃ j,gc.ow j=some b
   ·obtain ⟨j,hj⟩:=hno
    obtain ⟨_,_,p2,_,_⟩:=gcinv j b hj
    exact hA.sh j b c e p2 hj h
   ·exact ⟨c,(hA.fr b hlt (λ j hj=>hno ⟨j,hj⟩)).trans h,Z⟩
  ·have hlt:=hs.lt b o h
   have hno:=stno b o h
   refine ⟨by rw [hg2st]; exact (hA.stf b hlt hno o).2 (by rw [hgst]; exact h),?_⟩
   simp only [World.cell?,hA.fr b hlt hno]
  ·rw [hg2st] at ho
   have hlt:=(hs.own id b h).1
   by_cases hno:∃ j,gc.ow j=some b
   ·obtain ⟨j,hj⟩:=hno
    obtain ⟨_,_,p2,_,_⟩:=gcinv j b hj
    exact absurd ho (hA.nst j b p2 hj o)
   ·have:=(hA.stf b hlt (λ j hj=>hno ⟨j,hj⟩) o).1 ho
    rw [hgst] at this; exact this
 have hs':St C.n C.w0 C.F g2 ⟨(ct (λ i=>Nat.ble NB i&&Nat.blt i NE) ⟨sl,ob⟩).sl,ob'++(ct (λ i=>Nat.ble NB i&&Nat.blt i NE) ⟨sl,ob.filter λ p=>!(ids.any (Nat.beq p.1))⟩).ob⟩ a w':=by
  refine ⟨hs.nd,hs.sz,λ i=>?_,λ id cs h=>?_,λ i j b h1 h2=>?_,λ i b h=>?_,by rw [hg2st]; exact hA.lt,hs.fl,λ b h=>?_,hA.os.trans hs.os,hA.out.trans hs.out,hA.tape.trans hs.tape,Nat.le_trans hs.size hA.size,λ b h o=>?_,λ i h hz=>?_,hs.shf.next (λ i b c e hi hb h=>hE.shape i b c e (hDM i hi) ((hs.owf i hi (C.w0.lo i b hb)).trans hb) h),λ i b h1 h2 o h3=>?_,hs.ev0.trans hE.ev⟩
  ·have h:=(hs.sl i).dem hE
   simp only [AS.get,ct,gI]
   simp only [AS.get] at h
   cases hl:look sl i with
   | none=>simp only [Option.map_none,Option.getD_none]; exact .undef _
   | some x=>rw [hl] at h; simpa using h
  ·dsimp only at h
   rw [gW] at h
   split at h
   ·rename_i x hx
    cases h
    exact kJ hg2st hbm hmo' hob' (id,cs) (gM hx)
   ·have hf1:=gT (λ i=>Nat.ble NB i&&Nat.blt i NE) (ob.filter λ p=>!(ids.any (Nat.beq p.1))) id
    simp only [ct,gI] at h
    rw [hf1] at h
    cases hDi:(Nat.ble NB id&&Nat.blt id NE)
    ·simp only [hDi,Bool.false_eq_true,if_false,Option.map_eq_some_iff] at h
     have hf:=gT (λ i=>ids.any (Nat.beq i)) ob id
     rw [hf] at h
     cases hany:ids.any (Nat.beq id)
     ·rw [hany] at h
      simp only [Bool.false_eq_true,if_false] at h
      obtain ⟨ds,h1,rfl⟩:=h
      have hni:∀ (k:Nat),ids[k]?≠some id:=λ k hk=>by
       rw [List.any_eq_false] at hany
       exact hany id (List.mem_of_getElem? hk) G
      obtain ⟨b,c,e,k1,k2,k3,k4,k5⟩:=hs.ob id ds h1
      have hlt:=(hs.own id b k1).1
      have hno:=nogc id b hni k1
      refine ⟨b,c,e,by rw [g2old id hDi]; exact k1,(hA.fr b hlt hno).trans k2,by simpa [io] using k3,λ o ho=>?_,λ i x hx=>?_⟩
      ·rw [hg2st] at ho
       have:=(hA.stf b hlt hno o).1 ho
       rw [hgst] at this; exact k4 o this
      ·simp only [io,List.getElem?_map,Option.map_eq_some_iff] at hx
       obtain ⟨y,hy,rfl⟩:=hx
       obtain ⟨v,hv,hr⟩:=k5 i y hy
       exact ⟨v,hv,hr.dem hE⟩
     ·rw [hany] at h; simp at h
    ·simp [hDi] at h
  ·have cross:∀ i j b,(Nat.ble NB i&&Nat.blt i NE)=true→(Nat.ble NB j&&Nat.blt j NE)=false→g2.ow i=some b→g2.ow j=some b→False:=by
    intro i j b hi hj h1 h2
    rw [g2new i hi] at h1
    rw [g2old j hj] at h2
    have hlt:=(hs.own j b h2).1
    rcases (hA.own _ b h1).2 with h3 | ⟨j',hj'⟩
    ·omega
    ·obtain ⟨_,_,p2,p3,_⟩:=gcinv j' b hj'
     have h4:=hA.owf j' p2 p3
     rw [hj'] at h4
     have:=hA.inj _ _ b h1 h4
     omega
   cases hDi:(Nat.ble NB i&&Nat.blt i NE) <;> cases hDj:(Nat.ble NB j&&Nat.blt j NE)
   ·rw [g2old i hDi] at h1; rw [g2old j hDj] at h2; exact hs.inj i j b h1 h2
   ·exact (cross j i b hDj hDi h2 h1).elim
   ·exact (cross i j b hDi hDj h1 h2).elim
   ·rw [g2new i hDi] at h1; rw [g2new j hDj] at h2
    have:=hA.inj _ _ b h1 h2
    have:=hD i hDi
    have:=hD j hDj
    omega
  ·cases hDi:(Nat.ble NB i&&Nat.blt i NE)
   ·rw [g2old i hDi] at h
    have:=hs.own i b h
    have:=hA.size
    exact ⟨by omega,(hs.own i b h).2⟩
   ·rw [g2new i hDi] at h
    obtain ⟨k1,k2⟩:=hA.own _ b h
    refine ⟨k1,λ hF=>?_⟩
    rcases k2 with k2 | ⟨j,hj⟩
    ·have:=hs.fl b hF; have:=hs.size; omega
    ·obtain ⟨i',_,_,_,p3⟩:=gcinv j b hj
     exact (hs.own i' b p3).2 hF
  ·have hlt:b < w.heap.size:=by have:=hs.fl b h; have:=hs.size; omega
   exact (hA.fr b hlt λ j hj=>by
    obtain ⟨i',_,_,_,p3⟩:=gcinv j b hj
    exact (hs.own i' b p3).2 h).trans (hs.fr b h)
  ·have hlt:b < w.heap.size:=by have:=hs.fl b h; have:=hs.size; omega
   rw [hg2st]
   have:=hA.stf b hlt (λ j hj=>by
    obtain ⟨i',_,_,_,p3⟩:=gcinv j b hj
    exact (hs.own i' b p3).2 h) o
   rw [hgst] at this
   exact this.trans (hs.stf b h o)
  ·rw [g2old i (hDM i h)]; exact hs.owf i h hz
  ·rw [hg2st] at h3
   have h4:g.ow i=some b:=(hs.owf i h1 (C.w0.lo i b h2)).trans h2
   have hlt:=(hs.own i b h4).1
   have hno:=nogc i b (λ k hk=>by have:=hidl k i hk; omega) h4
   have:=(hA.stf b hlt hno o).1 h3
   rw [hgst] at this
   exact hs.nst i b h1 h2 o this
 have hp:=hs'.put (d:=o.dst) (λ t ht=>by rw [hd] at ht; cases ht; exact Nat.blt_eq ▸ hn) (jM hg2st hbm hr hr')
 rw [hd] at hp
 simp only
 rw [hd]
 exact ⟨_,_,hp,hK'⟩
end
end Go.Ab
end
section
namespace Go.Ab
def noGoto (Q:Exit→AS→Prop):Exit→AS→Prop
 | .goto _,_=>False
 | e,s=>Q e s
theorem dW {C:Cx}{c:Code}{Q:Exit→AS→Prop}{s:AS}(h:awp C c (noGoto Q) s):awp C (.scope c) Q s:=by
 intro g a w hs
 refine wp_scope_straight (wp_mono (h g a w hs) ?_)
 rintro e a' w' ⟨g',s',h1,h2⟩
 cases e with
 | goto l=>exact h2.elim
 | normal=>exact ⟨g',s',h1,h2⟩
 | exit id=>exact ⟨g',s',h1,h2⟩
 | ret=>exact ⟨g',s',h1,h2⟩
 | panic ch=>exact ⟨g',s',h1,h2⟩
 | outgrown=>exact ⟨g',s',h1,h2⟩
theorem aM {K:AS→Prop}{Q:Exit→AS→Prop}{s:AS}(h:Q .ret s):pg K Q .ret s:=h
theorem aI {K:AS→Prop}{Q:Exit→AS→Prop}{s:AS}{id:Nat}(h:Q (.exit id) s):pg K Q (.exit id) s:=h
theorem aJ {id:Nat}{Q:Exit→AS→Prop}{s:AS}(h:Q .ret s):j1 id Q .ret s:=h
theorem ar {id:Nat}{Q:Exit→AS→Prop}{s:AS}(h:Q .normal s):j1 id Q .normal s:=h
theorem aD {id:Nat}{Q:Exit→AS→Prop}{s:AS}(h:Q .normal s):j1 id Q (.exit id) s:=by
 simp only [j1,if_true]; exact h
theorem ax {id id':Nat}{Q:Exit→AS→Prop}{s:AS}(hne:Nat.beq id' id=false)(h:Q (.exit id') s):j1 id Q (.exit id') s:=by
 have:¬ id'=id:=λ e=>by subst e; simp at hne
 simp only [j1,if_neg this]; exact h
theorem noGoto_ret {Q:Exit→AS→Prop}{s:AS}(h:Q .ret s):noGoto Q .ret s:=h
theorem noGoto_exit {id:Nat}{Q:Exit→AS→Prop}{s:AS}(h:Q (.exit id) s):noGoto Q (.exit id) s:=h
theorem noGoto_normal {Q:Exit→AS→Prop}{s:AS}(h:Q .normal s):noGoto Q .normal s:=h
theorem ws {α:Type}(f:α→PV)(l:List α)(n:Nat)(dflt:α)(h:n < l.length):(l.map f)[n]? = some (f (l.getD n dflt)):=by
 rw [List.getElem?_map,List.getElem?_eq_getElem h,Option.map_some,List.getD_eq_getElem?_getD,List.getElem?_eq_getElem h]; rfl
section
variable {C:Cx} {o:Oper} {K:AS→Prop} {sl:List (Nat×AV)} {ob:List (Nat×List AV)} {d:Nat}
theorem du {t:TypeId}{x y:Operand}{a:List UInt8}{k:IntKind}{j:Nat}{i:TI}(ho:o.op=.index t x y)(hd:o.dst=some d)(hn:Nat.blt d C.n=true)
  (hi:look C.tt t=some i) (hik:i.k=.string) (hx:evo sl x=some (.p (.val (.string (str a))))) (hy:evo sl y=some (.p (.val (.int k (j:Int)))))
  (hj:j < a.length)
  (hK:K ⟨(d,.p (.val (.int .u8 ((a.getD j 0).toNat:Int))))::sl,ob⟩):aW C o K ⟨sl,ob⟩ :=
 dC ho hd hn hi hik hx hy O hK
theorem az {α:Type}(dflt:α){t e:TypeId}{x y:Operand}{z:AV}{f:α→PV}{l:List α}{i ie:TI}{k:IntKind}{n:Int}(ho:o.op=.indexAddr t x y)(hd:o.dst=some d)(hn:Nat.blt d C.n=true)
  (hi:look C.tt t=some i) (hik:i.k=.slice e) (hie:look C.tt e=some ie) (hx:evo sl x=some z) (hz:z.elems? = some (l.map f))
  (hy:evo sl y=some (.p (.val (.int k n)))) (hb:0≤n∧n < l.length) (hsz:∀ x,(f x).cells.length=ie.size)
  (hK:K ⟨(d,.rptr (f (l.getD n.toNat dflt)).cells)::sl,ob⟩):aW C o K ⟨sl,ob⟩ :=
 pZ ho hd hn hi hik hie hx hz hy hb.1 (ws f l n.toNat dflt O) (hsz _) hK
theorem aw {α:Type}(dflt:α){t e:TypeId}{x y:Operand}{z:AV}{f:α→PV}{l:List α}{i ie:TI}{k:IntKind}{n:Nat}(ho:o.op=.indexAddr t x y)(hd:o.dst=some d)(hn:Nat.blt d C.n=true)
  (hi:look C.tt t=some i) (hik:i.k=.slice e) (hie:look C.tt e=some ie) (hx:evo sl x=some z) (hz:z.elems? = some (l.map f))
  (hy:evo sl y=some (.p (.val (.int k (n:Int))))) (hb:n < l.length) (hsz:∀ x,(f x).cells.length=ie.size)
  (hK:K ⟨(d,.rptr (f (l.getD n dflt)).cells)::sl,ob⟩):aW C o K ⟨sl,ob⟩ :=
 az dflt ho hd hn hi hik hie hx hz hy O hsz hK
theorem bK {t e:TypeId}{x y:Operand}{i ie:TI}{k:IntKind}{n:Nat}{id m:Nat}(ho:o.op=.indexAddr t x y)(hd:o.dst=some d)(hn:Nat.blt d C.n=true)
  (hi:look C.tt t=some i) (hik:i.k=.slice e) (hie:look C.tt e=some ie) (hx:evo sl x=some (.arr id 1 0 m))
  (hy:evo sl y=some (.p (.val (.int k (n:Int))))) (hsz:ie.size=1) (hb:n < m)
  (hK:K ⟨(d,.ptr id n)::sl,ob⟩):aW C o K ⟨sl,ob⟩ :=
 jf ho hd hn hi hik hie hx hy hsz O (by rw [Nat.zero_add,Nat.mul_one]; exact hK)
theorem fV {α:Type}{t e:TypeId}{x:Operand}{y:AV}{f:α→PV}{l:List α}{i:TI}(ho:o.op=.call { callee:=.builtin .len,args:=#[x],argTypes:=#[t] })(hd:o.dst=some d)(hn:Nat.blt d C.n=true)
  (hi:look C.tt t=some i) (hik:i.k=.slice e) (hx:evo sl x=some y) (hy:y.elems? = some (l.map f))
  (hK:K ⟨(d,.p (.val (.int .i64 (l.length:Int))))::sl,ob⟩):aW C o K ⟨sl,ob⟩ :=
 fQ ho hd hn hi hik hx hy (by rw [List.length_map]; exact hK)
theorem aG {t e:TypeId}{x y:Operand}{i ie:TI}{k:IntKind}{n:Int}{id m:Nat}(ho:o.op=.indexAddr t x y)(hd:o.dst=some d)(hn:Nat.blt d C.n=true)
  (hi:look C.tt t=some i) (hik:i.k=.slice e) (hie:look C.tt e=some ie) (hx:evo sl x=some (.arr id 1 0 m))
  (hy:evo sl y=some (.p (.val (.int k n)))) (hsz:ie.size=1) (hb:0≤n∧n < m)
  (hK:K ⟨(d,.ptr id n.toNat)::sl,ob⟩):aW C o K ⟨sl,ob⟩ :=
 jf ho hd hn hi hik hie hx hy hsz hb (by rw [Nat.zero_add,Nat.mul_one]; exact hK)
theorem bo {α:Type}(dflt:α){t:TypeId}{x:Operand}{i:TI}{id k:Nat}{f:α→PV}{l:List α}(ho:o.op=.load t x)(hd:o.dst=some d)(hn:Nat.blt d C.n=true)
  (hi:look C.tt t=some i) (hia:i.k.isAgg=false) (hx:evo sl x=some (.ptr id k)) (hob:look ob id=some ((l.map f).map .p)) (hk:k < l.length) (hK:K ⟨(d,.p (f (l.getD k dflt)))::sl,ob⟩):aW C o K ⟨sl,ob⟩ :=
 wi ho hd hn hi hia hx hob (by rw [List.getElem?_map,ws f l k dflt hk]; rfl) hK
theorem bV {α:Type}{t:TypeId}{x v:Operand}{i:TI}{id k:Nat}{f:α→PV}{l:List α}{b:α}(ho:o.op=.store t x v)(hd:o.dst=none)
  (hi:look C.tt t=some i) (his:i.size=1) (hx:evo sl x=some (.ptr id k)) (hob:look ob id=some ((l.map f).map .p)) (hv:evo sl v=some (.p (f b))) (hc:AV.cellsA (.p (f b))=some [.p (f b)]) (hk:k < l.length)
  (hK:K ⟨sl,(id,((l.set k b).map f).map .p)::ob⟩):aW C o K ⟨sl,ob⟩:=by
 refine oU ho hd hi hx hv hc (by rw [his]; rfl) hob (by simp; omega) ?_
 have:ra ((l.map f).map .p) k [.p (f b)]=((l.set k b).map f).map .p:=by
  simp [ra,List.map_set]
 rw [this]; exact hK
theorem ij {t t':TypeId}{x y:Operand}{k:IntKind}{a b:Int}(ho:o.op=.call { callee:=.builtin .max,args:=#[x,y],argTypes:=#[t,t'] })(hd:o.dst=some d)(hn:Nat.blt d C.n=true)
  (hx:evo sl x=some (.p (.val (.int k a)))) (hy:evo sl y=some (.p (.val (.int k b))))
  (hK:K ⟨(d,.p (.val (.int k (if a < b then b else a))))::sl,ob⟩):aW C o K ⟨sl,ob⟩ :=
 ok_one hd hn (λ g c w hs=>⟨_,by
  rw [d9 ho]
  simp [builtin,bJ hs hx,bJ hs hy,Builtin.max_,Builtin.max2],.p (.val _)⟩) hK
theorem iL (ids:List Nat)(NB NE:Nat){f:FuncId}{args:Array Operand}{ts:Array TypeId}{l l' q:List AV}{obs obs0 qo rob ob':List (Nat×List AV)}{r r':AV}(hc:bN C.P f q qo (λ x y=>x=r∧y=rob))(ho:o.op=.call { callee:=.value (.func f),args:=args,argTypes:=ts })
  (hd:o.dst=some d) (hn:Nat.blt d C.n=true) (hl:lN sl args.toList=some l) (hl':AV.mapA.go (wb ids) l=some l') (hq:pT l' q) (hpk:gU ob ids=some obs) (hmo:ia (wb ids) obs=some obs0) (hqo:leO obs0 qo)
  (hnd:nodupB ids=true) (hids:ids.all (λ i=>Nat.blt i M1)=true) (hil:Nat.ble ids.length M1=true) (hdl:Nat.ble NE M1=true) (hdis:ids.all (λ i=>!(Nat.ble NB i&&Nat.blt i NE))=true)
  (henter:∀ vs w,(callFunc f vs).run C.P w=.ok (.enter f vs) w) (hr:r.mapA (ln ids NB NE)=some r') (hob:ia (ln ids NB NE) rob=some ob')
  (hK:K ⟨(d,r')::(ct (λ i=>Nat.ble NB i&&Nat.blt i NE) ⟨sl,ob⟩).sl,ob'++(ct (λ i=>Nat.ble NB i&&Nat.blt i NE) ⟨sl,ob.filter λ p=>!(ids.any (Nat.beq p.1))⟩).ob⟩):aW C o K ⟨sl,ob⟩ :=
 CH ids NB NE hc ho hd hn hl hl' hq hpk hmo hqo hnd hids hil hdl hdis henter λ x y ⟨e1,e2⟩=>by
  subst e1 e2
  exact ⟨r',ob',hr,hob,hK⟩
end
theorem aA.of_sub {P:Program}{f:FuncId}{args:List PV}{r:AV}(h:aA P f args (λ x=>x.sub r)):aA P f args (·=r) :=
 λ w st vs h0 h1 h2=>(h w st vs h0 h1 h2).mono λ e w' ⟨v,x,g',h3,h4,h5,h6⟩=>⟨v,r,g',h3,Z,h4 _ _ _ h5,h6⟩
theorem uY {P:Program}{tt:List (Nat×TI)}(good:dv P tt){f:FuncId}{fn:Func}{c:Code}{args:List PV}{r:AV}(hf:P.funcs[f]? = some fn)(hb:fn.body=some c)(hn:Nat.ble args.length fn.ntmps=true)(hnl:Nat.ble fn.ntmps M1=true)
  (h:∀ w0,awp ⟨P,tt,good,fn.ntmps,hnl,w0,λ b=>b < w0.w.heap.size⟩ c (Fz fn (λ x=>x.sub r)) ⟨md args,[]⟩):aA P f args (·=r) :=
 aA.of_sub (uK good hf hb (Nat.le_of_ble_eq_true hn) hnl h)
theorem aN {m:Nat→Option Nat}:∀ (l:List PV),AV.mapA.go m (l.map .p)=some (l.map .p)
 | []=>rfl
 | x::r=>by simp only [List.map_cons,AV.mapA.go,AV.mapA,aN r]
theorem mB (D:Nat→Bool):∀ (l:List PV),ls D (l.map .p)=l.map .p
 | []=>rfl
 | x::r=>by simp only [List.map_cons,ls,AV.dem,mB D r]
def lY (D:Nat→Bool)(ob:List (Nat×List AV)):List (Nat×List AV):=(ob.filter λ p=>!D p.1).map λ p=>(p.1,ls D p.2)
theorem iP (D:Nat→Bool):lY D []=[]:=rfl
theorem dd {D:Nat→Bool}{i:Nat}{cs cs':List AV}{r r':List (Nat×List AV)}(h:D i=false)(hc:ls D cs=cs')(hr:lY D r=r'):lY D ((i,cs)::r)=(i,cs')::r':=by
 subst hc hr
 simp only [lY,List.filter_cons,h,Bool.not_false,if_true,List.map_cons]
theorem aK {m:Nat→Option Nat}{i j:Nat}{cs l:List AV}{r q:List (Nat×List AV)}(h1:m i=some j)(h2:AV.mapA.go m cs=some l)(h3:ia m r=some q):ia m ((i,cs)::r)=some ((j,l)::q):=by
 simp only [ia,h1,h2,h3]
theorem xW {C:Cx}{o:Oper}{K:AS→Prop}{sl:List (Nat×AV)}{ob ob':List (Nat×List AV)}{d:Nat}{t e:Nat}{x y:Operand}{i ie:TI}{k k':IntKind}{n:Int}{z:Value}(ho:o.op=.makeSlice t x y)(hd:o.dst=some d)(hn:Nat.blt d C.n=true)
  (hi:look C.tt t=some i) (hik:i.k=.slice e) (hie:look C.tt e=some ie) (hs1:ie.size=1) (hz:ie.zero=[z]) (hx:evo sl x=some (.p (.val (.int k n)))) (hy:evo sl y=some (.p (.val (.int k' n))))
  (hb:0≤n∧n≤9223372036854775807∧(ie.bytes:Int)*n≤281474976710656) (hdo:lY (λ i=>Nat.beq i d) ob=ob')
  (hK:K ⟨(d,.arr d 1 0 n.toNat)::(ct (λ i=>Nat.beq i d) ⟨sl,ob⟩).sl,(d,(List.replicate n.toNat (.val z)).map .p)::ob'⟩):aW C o K ⟨sl,ob⟩ :=
 wT ho hd hn hi hik hie hs1 hz hx hy hb (by subst hdo; exact hK)
theorem ah:∀ (l:List AV),xN l l
 | []=>trivial
 | x::r=>⟨AV.sub_refl x,ah r⟩
theorem fO {l q:List AV}(h:l=q):xN l q:=h ▸ ah l
end Go.Ab
namespace Go.Ab
def Fu:BinOp→Bool→Bool→Option Bool
 | .eql,a,b=>some (a == b)
 | .neq,a,b=>some (!(a == b))
 | _,_,_=>none
theorem run_equalIn_bool {P:Program}(w:World)(d:Nat)(t:TypeId)(a b:Bool)(h:P.underlying t=some .bool):(Op.equalIn (d+1) t (.bool a) (.bool b)).run P w=.ok (a == b) w:=by
 simp [Op.equalIn,run_underlying h]
theorem run_equal_bool {P:Program}(w:World)(t:TypeId)(a b:Bool)(h:P.underlying t=some .bool):(Op.equal t (.bool a) (.bool b)).run P w=.ok (a == b) w:=run_equalIn_bool w 9999 t a b h
theorem wq {P:Program}{w:World}(op:BinOp)(t:TypeId)(x y:Operand)(a b:Bool) :
  (eqGuard op t x y (.bool a) (.bool b)).run P w=.ok () w:=by
 unfold eqGuard; split <;> rfl
section
variable {C:Cx} {o:Oper} {K:AS→Prop} {sl:List (Nat×AV)} {ob:List (Nat×List AV)} {d:Nat}
theorem DC {op:BinOp}{t t':TypeId}{x y:Operand}{i:TI}{a b c:Bool}(ho:o.op=.binOp op t x y t')(hd:o.dst=some d)(hn:Nat.blt d C.n=true)
  (hi:look C.tt t=some i) (hik:i.k=.bool)
  (hx:evo sl x=some (.p (.val (.bool a)))) (hy:evo sl y=some (.p (.val (.bool b)))) (hc:Fu op a b=some c)
  (hK:K ⟨(d,.p (.val (.bool c)))::sl,ob⟩):aW C o K ⟨sl,ob⟩:=by
 obtain ⟨u,h1,h2⟩:=bc C.good hi
 have h3:=pw (h2.trans hik)
 subst h3
 refine ok_one hd hn (λ g w' w hs=>⟨_,?_,.p (.val _)⟩) hK
 cases op <;> simp only [Fu,Option.some.injEq,reduceCtorEq] at hc <;> subst hc <;>
  simp [execOp,ho,bJ hs hx,bJ hs hy,wq,binOp,run_equal_bool _ _ _ _ h1]
end
structure Kept (W w':World):Prop where
 frame:∀ may:MemPlace→Prop,W.keptBut w' may
 frozen:∀ a:Addr,a.block < W.heap.size→w'.frozen? a=W.frozen? a
 size:W.heap.size≤w'.heap.size
 block:∀ b,b < W.heap.size→w'.heap[b]? = W.heap[b]?
theorem After.kept {w w':World}{st:Nat→Nat→Prop}{g':Gh}(h:After w st w' g'):Kept w w':=by
 refine ⟨λ may=>⟨h.os,h.out,λ i hi=>?_⟩,λ a hb=>?_,h.size,h.fr⟩
 ·rw [h.fr i hi]
  rw [Array.getElem?_eq_getElem hi]
  cases w.heap[i] <;> simp
 ·simp only [World.frozen?,h.fr _ hb]
theorem EH (a:ByteArray):str a.data.toList=a:=by
 cases a; rfl
theorem grown_of {P:Program}{f:FuncId}{args:List PV}{vs:Array Value}{b:Bool}(h:aA P f args (·=.p (.val (.bool b))))(w:World)(hgl:lj w (λ b _=>b < w.heap.size))(hsz:vs.size=args.length)
  (ha:∀ (i:Nat) c v,args[i]? = some c→vs[i]? = some v→PRep w (λ b _=>b < w.heap.size) c v) :
  Calls P f vs w λ e w'=>e=.returned (.bool b)∧Kept w w':=by
 refine (h w (λ b _=>b < w.heap.size) vs ⟨λ b o h=>h,hgl⟩ hsz ha).mono ?_
 rintro e w' ⟨v,r,g',rfl,rfl,hr,hA⟩
 cases hr with | p h=>cases h; exact ⟨rfl,hA.kept⟩
end Go.Ab
namespace Go.Ab
theorem C2 {w:World}{st:Nat→Nat→Prop}(a:ByteArray):PRep w st (.val (.string (str a.data.toList))) (.string a):=by
 have h:PRep w st (.val (.string (str a.data.toList))) (.string (str a.data.toList)):=.val _
 rwa [EH a] at h
end Go.Ab
end
