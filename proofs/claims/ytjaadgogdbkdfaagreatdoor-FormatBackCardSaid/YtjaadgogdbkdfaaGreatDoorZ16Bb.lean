/- Texts of the proof, one behind the other. No statement is proved here. -/
import Derived.Test.YtjaadgogdbkdfaaGreatDoorChecked
import Derived.Laws.StructEq
import Derived.Laws.IdiomStrings
import Derived.WalkKit
import Derived.Lib.Builder
import Derived.Lib.UnsafeStr
import Derived.Laws.Externs
import Derived.Shelf.RegionOpenPlain
import Derived.Below
import Derived.Lib.LaidTab
import Derived.Shelf.Lays
import Derived.Shelf.Small.Utf8
import Derived.Shelf.Small.Strs
import Derived.Shelf.Strings.Prefix
import Derived.Shelf.LaysM
import Derived.Shelf.Strconv.Itoa3
import Derived.Shelf.LaysC
import Derived.Shelf.Strconv.ParseIntPublic10
import Derived.Shelf.Unicode.DecodeAny
import Derived.Shelf.Unicode.ValidAny
import Derived.Shelf.Strings.Search3
import Derived.Shelf.Strings.Replace
import Derived.Shelf.Strings.OnBuilder
import Derived.Test.YtjaadgogdbkdfaaGreatDoorProg
import Derived.Lib.AppendIntMem
import Derived.Deep.LoopGhost
import Derived.Laws.Runes
import Derived.Scope
import Derived.Deep.QuietTactic
import Derived.BigQuiet
import Derived.Laws.RangeString
import Derived.Lib.IndexAny
import Derived.Lib.TrimU
import Derived.Test.YtjaadgogdbkdfaaGreatDoorZ16Ba
set_option maxHeartbeats 4000000
section
namespace Go.Ab
variable {p:Prop}
theorem KP (h:p:=by
 intro i;have:=rk args 0 i;simp only [AS.get,gR,this,ph,if_true,Nat.sub_zero]
 cases ha:args[i]? with
 | none=>exact .undef _
 | some x=>
  have hi:i<args.length:=(List.getElem?_eq_some_iff.1 ha).1;have hi2:i<vs.size:=by omega
  have e:(vs++Array.replicate (fn.ntmps-vs.size) Go.undef).getD i Go.undef=vs[i]:=by
   simp_all [Array.getElem?_append]
  simp only [Option.getD_some];rw [e]
  exact h2 i x _ ha (Array.getElem?_eq_getElem hi2)):p:=h
def V1:Nat:=900000
def zy (tt:List (Nat×TI))(fn:Func)(ts ids:List Nat)(R:AV->List (Nat×List AV)->Prop)(e:Exit)(s:AS):Prop :=(e=.normal\/e=.ret)/\∃ l r Ve obs',po tt fn.results.toList s=some l/\(tg l).mapA (pD ts)=some r/\jm s.ob ids=some Ve/\iT (pD ts) Ve=some obs'/\R r obs'
theorem MD {tt:List (Nat×TI)}{fn:Func}{ts ids:List Nat}{R:AV->List (Nat×List AV)->Prop}{s:AS}{l:List AV}{r:AV}{Ve obs':List (Nat×List AV)}(h1:po tt fn.results.toList s=some l)(h2:(tg l).mapA (pD ts)=some r)
  (h3:jm s.ob ids=some Ve) (h4:iT (pD ts) Ve=some obs') (h5:R r obs'):zy tt fn ts ids R .ret s:=⟨.inr Z,l,r,Ve,obs',h1,h2,h3,h4,h5⟩
theorem Ob {tt:List (Nat×TI)}{fn:Func}{ts ids:List Nat}{R:AV->List (Nat×List AV)->Prop}{s:AS}{l:List AV}{r:AV}{Ve obs':List (Nat×List AV)}(h1:po tt fn.results.toList s=some l)(h2:(tg l).mapA (pD ts)=some r)
  (h3:jm s.ob ids=some Ve) (h4:iT (pD ts) Ve=some obs') (h5:R r obs'):zy tt fn ts ids R .normal s:=⟨.inl Z,l,r,Ve,obs',h1,h2,h3,h4,h5⟩
theorem Bg (ts ids:List Nat)(hts:ts.all (λ i=>Nat.blt i M1)=true)(hnd:nodupB ts=true){n:Nat}{w w':World}{g g1:Gh}{df:List Deferred}{gl:mN w g.st}{lo:∀ i b,g.ow i=some b->i<MZ}{s':AS}{a':Act}
  (hown:∀ i b,g.ow i=some b->b<w.heap.size/\i<2*M1) (h3:St n ⟨w,g.st,g.ow,gl,lo,df⟩ (λ b=>b<w.heap.size/\∀ i,g.ow i≠some b) g1 s' a' w') {x r:AV} {v:Value} {obs1 obs':List (Nat×List AV)}
  (hvr:ARep w' g1 x v) (hr:x.mapA (pD ts)=some r) (hp:jm s'.ob ids=some obs1) (hm:iT (pD ts) obs1=some obs'):∃ g',ARep w' g' r v/\(∀ p∈obs',jJ w' g' p.1 p.2)/\pV w g w' g':=by
 have hown3:∀ i b,M1<=i->i<MZ->g1.ow i=some b->i<2*M1:=by
  intro i b hi hz hb;rw [h3.owf i hi hz] at hb
  grind
 have hmap:∀ i j b,pD ts i=some j->g1.ow i=some b->(if 2*M1<=j then (ts[j-2*M1]?).bind g1.ow else if M1<=j then g1.ow j else none)=some b:=by
  intro i j b hij hb;unfold pD at hij
  cases hle:Nat.ble M1 i
  ·rw [hle] at hij;simp only [cond_false] at hij;split at hij
   ·rename_i k hk
    cases hij
    rw [if_pos O,Nat.add_sub_cancel_left,mb hk];exact hb
   grind
  grind [Nat.le_of_ble_eq_true,Nat.blt_eq]
 have hts':∀ (k t:Nat),ts[k]? = some t->t<M1:=by
  intro k t hk;have:=sm.1 hts t (List.mem_of_getElem? hk)
  simp_all
 have inv:∀ j b,(if 2*M1<=j then (ts[j-2*M1]?).bind g1.ow else if M1<=j then g1.ow j else none)=some b ->
   (∃ t,ts[j-2*M1]? = some t/\2*M1<=j/\g1.ow t=some b)\/(M1<=j/\j<2*M1/\g1.ow j=some b):=by
  grind
 have hst0:(⟨g1.st,λ j=>if 2*M1<=j then (ts[j-2*M1]?).bind g1.ow else if M1<=j then g1.ow j else none⟩:Gh).st=g1.st:=rfl;refine ⟨⟨g1.st,λ j=>if 2*M1<=j then (ts[j-2*M1]?).bind g1.ow else if M1<=j then g1.ow j else none⟩,nD hst0 hmap hvr hr,rF hst0 hmap hm (λ p hp'=>h3.ob p.1 p.2 (vH hp p hp')),?_⟩;refine ⟨h3.os,h3.out,h3.tape,h3.size,λ b hb hno=>h3.fr b ⟨hb,hno⟩,λ i b hi=>?_,λ i j b hi hj=>?_,h3.lt,λ b hb hno=>h3.stf b ⟨hb,hno⟩,λ i h1 h2=>?_,h3.shf,h3.nst,h3.ev0⟩
 ·have key:∀ t,g1.ow t=some b->b<w'.heap.size/\(w.heap.size<=b\/∃ j,g.ow j=some b):=by
   intro t ht;obtain ⟨k1,k2⟩:=h3.own t b ht
   grind
  grind
 ·rcases inv i b hi with ⟨t,a1,a2,a3⟩|⟨a1,a2,a3⟩ <;> rcases inv j b hj with ⟨u,b1,b2,b3⟩|⟨b1,b2,b3⟩
  ·have:=h3.inj t u b a3 b3
   grind [nJ]
  ·have:=h3.inj t j b a3 b3
   grind
  ·have:=h3.inj i u b a3 b3
   grind
  ·exact h3.inj i j b a3 b3
 ·dsimp only;rw [if_neg O,if_pos h1];exact h3.owf i h1 (Nat.lt_of_lt_of_le h2 GV)
theorem ub {P:Program}{tt:List (Nat×TI)}(good:dp P tt){fn:Func}{c:Code}{args:List AV}{Ve:List (Nat×List AV)}{R:AV->List (Nat×List AV)->Prop}(ts ids:List Nat)(hn:args.length<=fn.ntmps)(hnl:Nat.ble fn.ntmps M1=true)(hts:ts.all (λ i=>Nat.blt i M1)=true)(hnd:nodupB ts=true)
  (h:∀ w0 F,awp ⟨P,tt,good,fn.ntmps,hnl,w0,F⟩ c (zy tt fn ts ids R) ⟨gR args,Ve⟩) {w:World} {g:Gh} {vs:Array Value} (hlt:Ok0 w g.st) (hown:∀ i b,g.ow i=some b->b<w.heap.size/\i<2*M1)
  (hinj:∀ i j b,g.ow i=some b->g.ow j=some b->i=j) (hnst:∀ i b,M1<=i->g.ow i=some b->∀ o,¬ g.st b o) (h1:vs.size=args.length)
  (h2:∀ (i:Nat) c v,args[i]? = some c->vs[i]? = some v->ARep w g c v) (hobs:∀ id cs,look Ve id=some cs->jJ w g id cs) :
  c.wp P (bodyPost P fn λ e w'=>∃ v r obs' g',e=.returned v/\R r obs'/\ARep w' g' r v/\(∀ p∈obs',jJ w' g' p.1 p.2)/\pV w g w' g') { tmps:=vs++Array.replicate (fn.ntmps-vs.size) Go.undef,defers:=[] } w:=by
 have hs:St fn.ntmps ⟨w,g.st,g.ow,hlt.gl,(λ i b h=>Nat.lt_of_lt_of_le (hown i b h).2 GV),[]⟩ (λ b=>b<w.heap.size/\∀ i,g.ow i≠some b) g ⟨gR args,Ve⟩ { tmps:=vs++Array.replicate (fn.ntmps-vs.size) Go.undef,defers:=[] } w:=by
  refine ⟨Z,?_,?_,hobs,hinj,?_,hlt.lt,?_,?_,Z,Z,Z,bt _,λ b _ o=>Iff.rfl,λ _ _ _=>rfl,kS.refl _ _,λ i b hi h=>hnst i b hi h,Ev.refl _ _⟩
  ·grind
  ·exact KP
  ·grind
  ·grind
  grind
 refine wp_mono (h ⟨w,g.st,g.ow,hlt.gl,(by grind),[]⟩ _ g _ w hs) ?_;rintro e a' w' ⟨g1,s',h3,he,l,r,obs1,obs',hl,hr,hp,hm,hR⟩;obtain ⟨v,hv,hvr⟩:=qW good h3 fn l hl;obtain ⟨g',e1,e2,e3⟩:=Bg ts ids hts hnd hown h3 hvr hr hp hm;rcases he with rfl|rfl
 ·exact ⟨h3.nd,v,hv,v,r,obs',g',Z,hR,e1,e2,e3⟩
 ·exact ⟨h3.nd,v,hv,v,r,obs',g',Z,hR,e1,e2,e3⟩
theorem wl {P:Program}{tt:List (Nat×TI)}(good:dp P tt){f:FuncId}{fn:Func}{c:Code}{args:List AV}{Ve:List (Nat×List AV)}{R:AV->List (Nat×List AV)->Prop}(ts ids:List Nat)(hf:P.funcs[f]? = some fn)(hb:fn.body=some c)
  (hn:args.length<=fn.ntmps) (hnl:Nat.ble fn.ntmps M1=true) (hts:ts.all (λ i=>Nat.blt i M1)=true) (hnd:nodupB ts=true)
  (h:∀ w0 F,awp ⟨P,tt,good,fn.ntmps,hnl,w0,F⟩ c (zy tt fn ts ids R) ⟨gR args,Ve⟩):cj P f args Ve R:=λ _ _ _ k1 k2 k3 k4 k5 k6 k7=>calls_of_wp hf hb (ub good ts ids hn hnl hts hnd h k1 k2 k3 k4 k5 k6 k7)
theorem ss {w:World}{g:Gh}{id:Nat}{cs ds:List AV}(h:jJ w g id ds)(hs:EV cs ds):jJ w g id cs:=by
 obtain ⟨k1,k2⟩:=oN hs;obtain ⟨b,c,e,n1,n2,n3,n4,n5⟩:=h;refine ⟨b,c,e,n1,n2,by omega,n4,λ i x hx=>?_⟩;have hi:i<ds.length:=by grind
 obtain ⟨v,hv,hr⟩:=n5 i ds[i] (List.getElem?_eq_getElem hi);exact ⟨v,hv,k2 i x _ hx (List.getElem?_eq_getElem hi) _ _ _ hr⟩
theorem wM {s:List (Nat×List AV)}:∀ {t:List (Nat×List AV)},leO s t->∀ p∈t,∃ ds,look s p.1=some ds/\EV p.2 ds
 | [],_,p,hp=>by simp at hp
 | (j,cs)::r,h,p,hp=>by
  rcases qr.1 hp with rfl|hp
  ·exact h.1
  ·exact wM h.2 p hp
theorem cj.of_sub {P:Program}{f:FuncId}{args:List AV}{Ve rob:List (Nat×List AV)}{r:AV}(h:cj P f args Ve (λ x y=>x.sub r/\leO y rob)):cj P f args Ve (λ x y=>x=r/\y=rob) :=
 λ w g vs h1 h2 h3 h4 h5 h6 h7=>(h w g vs h1 h2 h3 h4 h5 h6 h7).mono λ e w' ⟨v,x,obs',g',k1,⟨k2,k3⟩,k4,k5,k6⟩=>
  ⟨v,r,rob,g',k1,⟨Z,Z⟩,k2 _ _ _ k4,λ p hp=>by
   obtain ⟨ds,m1,m2⟩:=wM k3 p hp
   exact ss (k5 (p.1,ds) (iX m1)) m2,k6⟩
theorem Tv {P:Program}{tt:List (Nat×TI)}(good:dp P tt){f:FuncId}{fn:Func}{c:Code}{args:List AV}{Ve rob:List (Nat×List AV)}{r:AV}(ts ids:List Nat)(hf:P.funcs[f]? = some fn)(hb:fn.body=some c)
  (hn:Nat.ble args.length fn.ntmps=true) (hnl:Nat.ble fn.ntmps M1=true) (hts:ts.all (λ i=>Nat.blt i M1)=true) (hnd:nodupB ts=true)
  (h:∀ w0 F,awp ⟨P,tt,good,fn.ntmps,hnl,w0,F⟩ c (zy tt fn ts ids (λ x y=>x.sub r/\leO y rob)) ⟨gR args,Ve⟩):cj P f args Ve (λ x y=>x=r/\y=rob) :=
 cj.of_sub (wl good ts ids hf hb (Nat.le_of_ble_eq_true hn) hnl hts hnd h)
def mF (ids UY:List Nat)(i:Nat):Option Nat:=match ids.findIdx? (Nat.beq i) with
 | some k=>some (M1+k)
 | none=>match UY.findIdx? (Nat.beq i) with
  | some k=>some (V1+k)
  | none=>none
def yN (NB NE i:Nat):Bool:=Nat.ble NB i&&Nat.blt i NE
def dk (UY:List Nat)(NB NE i:Nat):Bool:=yN NB NE i||UY.any (Nat.beq i)
section
variable {C:Cx} {o:Oper} {K:AS->Prop} {sl:List (Nat×AV)} {ob:List (Nat×List AV)} {d:Nat}
theorem tI (ids UY:List Nat)(NB NE:Nat){l l' q:List AV}{Ve obs0 qo:List (Nat×List AV)}(hl':AV.mapA.go (mF ids UY) l=some l')(hq:qB l' q)(hpk:jm ob ids=some Ve)(hmo:iT (mF ids UY) Ve=some obs0)(hqo:leO obs0 qo)
  (hnd:nodupB ids=true) (hids:ids.all (λ i=>Nat.blt i (2*M1))=true) (hil:Nat.ble ids.length M1=true) (hdl:Nat.ble NE M1=true) (hdis:ids.all (λ i=>!(dk UY NB NE i))=true)
  (hvd:nodupB UY=true) (hvl:UY.all (λ i=>Nat.blt i M1)=true) (hvn:Nat.ble UY.length 100000=true)
  {g:Gh} {a:Act} {w:World} (hs:St C.n C.w0 C.F g ⟨sl,ob⟩ a w) {avs:Array Value} (a1:avs.size=l.length) (a2:∀ (i:Nat) c v,l[i]? = some c->avs[i]? = some v->ARep w g c v) :
  ∃ gc:Gh,(Ok0 w gc.st/\(∀ i b,gc.ow i=some b->b<w.heap.size/\i<2*M1)/\(∀ i j b,gc.ow i=some b->gc.ow j=some b->i=j)/\(∀ i b,M1<=i->gc.ow i=some b->∀ o,¬ gc.st b o)/\avs.size=q.length /\
   (∀ (i:Nat) c v,q[i]? = some c->avs[i]? = some v->ARep w gc c v)/\(∀ id cs,look qo id=some cs->jJ w gc id cs)) /\
   ∀ (w':World) (v:Value) (r r':AV) (obs' ob':List (Nat×List AV)) (g':Gh),ARep w' g' r v->(∀ p∈obs',jJ w' g' p.1 p.2)->pV w gc w' g'->r.mapA (md ids NB NE)=some r'->iT (md ids NB NE) obs'=some ob' ->
    ∃ g2,St C.n C.w0 C.F g2 ⟨(cW (dk UY NB NE) ⟨sl,ob⟩).sl,ob'++(cW (dk UY NB NE) ⟨sl,ob.filter λ p=>!(ids.any (Nat.beq p.1))⟩).ob⟩ a w'/\ARep w' g2 r' v:=by
 have hidl:∀ (k i:Nat),ids[k]? = some i->i<2*M1:=λ k i h=>by
  have:=sm.1 hids i (List.mem_of_getElem? h)
  simp_all
 have hvll:∀ (k i:Nat),UY[k]? = some i->i<M1:=λ k i h=>by
  have:=sm.1 hvl i (List.mem_of_getElem? h)
  simp_all
 have hidD:∀ (k i:Nat),ids[k]? = some i->dk UY NB NE i=false:=λ k i h=>by
  grind
 have hDn:∀ i,yN NB NE i=true->NB<=i/\i<NE:=λ i h=>by
  simp_all [yN]
 have hDv:∀ i,UY.any (Nat.beq i)=true->∃ k,UY[k]? = some i:=λ i h=>by
  obtain ⟨x,hx,he⟩:=List.any_eq_true.1 h;have:=cl he;subst this;exact List.mem_iff_getElem?.1 hx
 have hvD:∀ (k i:Nat),UY[k]? = some i->UY.any (Nat.beq i)=true:=λ k i h=>List.any_eq_true.2 ⟨i,List.mem_of_getElem? h,by simp⟩
 have hsplit:∀ i,dk UY NB NE i=false->yN NB NE i=false/\UY.any (Nat.beq i)=false:=λ i h=>by
  grind [dk]
 have hdl':=Nat.le_of_ble_eq_true hdl;have hil':=Nat.le_of_ble_eq_true hil;have hvn':=Nat.le_of_ble_eq_true hvn;have hV1:V1+100000=M1:=rfl;obtain ⟨gc,hgc⟩:∃ gc:Gh,gc=⟨g.st,λ j=>if M1<=j then (ids[j-M1]?).bind g.ow else if V1<=j then (UY[j-V1]?).bind g.ow else none⟩:=⟨_,rfl⟩
 have hgst:gc.st=g.st:=by rw [hgc]
 have gcinv:∀ j b,gc.ow j=some b->∃ i,g.ow i=some b/\((ids[j-M1]? = some i/\M1<=j/\j<2*M1)\/(UY[j-V1]? = some i/\V1<=j/\j<M1)):=by
  intro j b h;rw [hgc] at h
  grind
 have hpm:∀ i j b,mF ids UY i=some j->g.ow i=some b->gc.ow j=some b:=by
  intro i j b h hb;unfold mF at h;split at h
  ·rename_i k hk
   cases h
   rw [hgc];dsimp only;rw [if_pos O,Nat.add_sub_cancel_left,mb hk];exact hb
  ·split at h
   ·rename_i k hk
    cases h
    have hkl:=(List.getElem?_eq_some_iff.1 (mb hk)).1;rw [hgc];dsimp only;rw [if_neg O,if_pos O,Nat.add_sub_cancel_left,mb hk];exact hb
   ·cases h
 have hidob:∀ (k i:Nat),ids[k]? = some i->∃ cs,look ob i=some cs:=by
  have:∀ (ids:List Nat) (Ve:List (Nat×List AV)),jm ob ids=some Ve->∀ (k i:Nat),ids[k]? = some i->∃ cs,look ob i=some cs:=by
   intro ids
   induction ids with
   | nil=>grind
   | cons x r ih=>
    intro Ve h k i hk;simp only [jm] at h
    grind
  grind
 have hnst:∀ j b,M1<=j->gc.ow j=some b->∀ o,¬ g.st b o:=by
  intro j b hj h o ho;obtain ⟨i,h4,⟨h1,_,_⟩|⟨_,_,h3⟩⟩:=gcinv j b h
  ·obtain ⟨cs,U9⟩:=hidob _ i h1;obtain ⟨b',c,e,k1,_,_,k4,_⟩:=hs.ob i cs U9;rw [h4] at k1; cases k1;exact k4 o ho
  ·omega
 obtain ⟨m1,m2⟩:=sf hl';obtain ⟨b1,b2⟩:=oU hq
 have hargs:∀ (i:Nat) c v,q[i]? = some c->avs[i]? = some v->ARep w gc c v:=by
  intro i c v hc hv;have hi':i<l'.length:=by grind
  have hi:i<l.length:=by omega
  have h1:=a2 i _ v (List.getElem?_eq_getElem hi) hv;have h2:=nD hgst hpm h1 (m2 i _ _ (List.getElem?_eq_getElem hi) (List.getElem?_eq_getElem hi'));exact b2 i _ c (List.getElem?_eq_getElem hi') hc w gc v h2
 have hobs0:=rF hgst hpm hmo (λ p hp=>hs.ob p.1 p.2 (vH hpk p hp))
 have hqo':∀ id cs,look qo id=some cs->jJ w gc id cs:=by
  intro id cs h;obtain ⟨ds,h1,h2⟩:=xx hqo id cs h;exact ss (hobs0 (id,ds) (iX h1)) h2
 have hpre:∀ {Z0z:Prop},(Ok0 w gc.st->(∀ i b,gc.ow i=some b->b<w.heap.size/\i<2*M1)->(∀ i j b,gc.ow i=some b->gc.ow j=some b->i=j)->(∀ i b,M1<=i->gc.ow i=some b->∀ o,¬ gc.st b o)->avs.size=q.length->(∀ (i:Nat) c v,q[i]? = some c->avs[i]? = some v->ARep w gc c v)->(∀ id cs,look qo id=some cs->jJ w gc id cs)->Z0z)->Z0z:=λ k=>k (by rw [hgst]; exact hs.ok0) (λ j b h=>by
   obtain ⟨i,h4,⟨_,_,h3⟩|⟨_,_,h3⟩⟩:=gcinv j b h
   ·exact ⟨(hs.own i b h4).1,h3⟩
   ·exact ⟨(hs.own i b h4).1,by omega⟩) (λ i j b h1 h2=>by
   obtain ⟨i',p3,p⟩:=gcinv i b h1;obtain ⟨j',q3,q⟩:=gcinv j b h2;have:=hs.inj i' j' b p3 q3;subst this;rcases p with ⟨p1,p2,_⟩|⟨p1,p2,p4⟩ <;> rcases q with ⟨q1,q2,_⟩|⟨q1,q2,q4⟩
   ·have:=nJ hnd _ _ _ p1 q1; omega
   ·have h5:=(hsplit _ (hidD _ _ p1)).2
    grind
   ·have h5:=(hsplit _ (hidD _ _ q1)).2
    grind
   ·have:=nJ hvd _ _ _ p1 q1; omega) (λ j b hj h=>by rw [hgst]; grind) (a1.trans (m1.trans b1)) hargs hqo'
 refine ⟨gc,hpre λ k1 k2 k3 k4 k5 k6 k7=>⟨k1,k2,k3,k4,k5,k6,k7⟩,λ w' v r r' obs' ob' g' hr hob' hA hr' hmo'=>?_⟩
 have nogc:∀ i b,(∀ (k:Nat),ids[k]?≠some i)->(∀ (k:Nat),UY[k]?≠some i)->g.ow i=some b->∀ j,gc.ow j≠some b:=by
  intro i b hi hv hb j hj;obtain ⟨i',p3,p⟩:=gcinv j b hj;have:=hs.inj i i' b hb p3
  grind
 obtain ⟨g2,hg2⟩:∃ g2:Gh,g2=⟨g'.st,λ i=>if yN NB NE i=true then g'.ow (2*M1+(i-NB)) else if UY.any (Nat.beq i)=true then none else g.ow i⟩:=⟨_,rfl⟩
 have hg2st:g2.st=g'.st:=by rw [hg2]
 have g2old:∀ i,dk UY NB NE i=false->g2.ow i=g.ow i:=λ i h=>by
  obtain ⟨h1,h2⟩:=hsplit i h;rw [hg2]; grind
 have g2new:∀ i,yN NB NE i=true->g2.ow i=g'.ow (2*M1+(i-NB)):=λ i h=>by rw [hg2]; grind
 have g2cases:∀ i b,g2.ow i=some b->(yN NB NE i=true/\g'.ow (2*M1+(i-NB))=some b)\/(dk UY NB NE i=false/\g.ow i=some b):=by
  intro i b h
  cases h1:yN NB NE i
  ·cases h2:UY.any (Nat.beq i)
   ·grind [dk]
   ·rw [hg2] at h; grind
  grind
 have hDM:∀ i,M1<=i->dk UY NB NE i=false:=λ i hi=>by
  grind [dk]
 have hbm:∀ j i b,md ids NB NE j=some i->g'.ow j=some b->g2.ow i=some b:=by
  intro j i b h hb;rcases EE h with ⟨k,rfl,rfl,h4⟩|⟨h3,h4,h5⟩
  ·rw [g2new (NB+k) (by
    grind [yN,Nat.ble_eq_true_of_le,Nat.blt_eq]),Nat.add_sub_cancel_left]
   exact hb
  ·rw [g2old i (hidD _ i h5)];rw [hA.owf j h3 h4] at hb
   grind
 have hE:EvO (dk UY NB NE) w g w' g2:=by
  refine ⟨by rw [hg2st]; have:=hA.ev; grind,λ id b hq h=>by grind,λ id b c e hq h0 h=>?shape,λ id b o hq h ho=>?_,λ id b es k hq h0 h=>?mpc,λ i hi=>hDM i (Hc hi),λ id b o hq h0 ho=>?stb⟩
  case stb=>
   have hlt:=(hs.own id b h0).1;by_cases hno:∃ j,gc.ow j=some b
   ·obtain ⟨j,hj⟩:=hno;obtain ⟨i',p3,⟨p1,_,_⟩|⟨p1,_,_⟩⟩:=gcinv j b hj
    ·grind
    ·have:=hs.inj id i' b h0 p3
     grind
   ·exact hA.fr b hlt (λ j hj=>hno ⟨j,hj⟩)
  case mpc=>
   have hlt:=(hs.own id b h0).1;by_cases hno:∃ j,gc.ow j=some b
   ·obtain ⟨j,hj⟩:=hno;obtain ⟨i',p3,⟨p1,_,_⟩|⟨p1,_,_⟩⟩:=gcinv j b hj
    ·obtain ⟨cs,U9⟩:=hidob _ i' p1;obtain ⟨b',c,e,k1,k2,_⟩:=hs.ob i' cs U9
     grind
    ·have:=hs.inj id i' b h0 p3
     grind
   ·exact (hA.fr b hlt (λ j hj=>hno ⟨j,hj⟩)).trans h
  case shape=>
   have hlt:=(hs.own id b h0).1;by_cases hno:∃ j,gc.ow j=some b
   ·obtain ⟨j,hj⟩:=hno;obtain ⟨i',p3,⟨_,p2,_⟩|⟨p1,_,_⟩⟩:=gcinv j b hj
    ·exact hA.sh j b c e p2 hj h
    ·have:=hs.inj id i' b h0 p3
     grind
   ·exact ⟨c,(hA.fr b hlt (λ j hj=>hno ⟨j,hj⟩)).trans h,Z⟩
  rw [hg2st] at ho;have hlt:=(hs.own id b h).1;by_cases hno:∃ j,gc.ow j=some b
  ·obtain ⟨j,hj⟩:=hno;obtain ⟨i',p3,⟨_,p2,_⟩|⟨p1,_,_⟩⟩:=gcinv j b hj
   ·exact absurd ho (hA.nst j b p2 hj o)
   ·have:=hs.inj id i' b h p3
    grind
  ·have:=(hA.stf b hlt (λ j hj=>hno ⟨j,hj⟩) o).1 ho
   grind
 have hs':St C.n C.w0 C.F g2 ⟨(cW (dk UY NB NE) ⟨sl,ob⟩).sl,ob'++(cW (dk UY NB NE) ⟨sl,ob.filter λ p=>!(ids.any (Nat.beq p.1))⟩).ob⟩ a w':=by
  refine ⟨hs.nd,hs.sz,λ i=>?_,λ id cs h=>?_,λ i j b h1 h2=>?_,λ i b h=>?_,by rw [hg2st]; exact hA.lt,hs.fl,λ b h=>?_,hA.os.trans hs.os,hA.out.trans hs.out,hA.tape.trans hs.tape,Nat.le_trans hs.size hA.size,λ b h o=>?_,λ i h hz=>?_,hs.shf.next (λ i b c e hi hb h=>hE.shape i b c e (hDM i hi) ((hs.owf i hi (C.w0.lo i b hb)).trans hb) h),λ i b h1 h2 o h3=>?_,hs.ev0.trans hE.ev⟩
  ·have h:=(hs.sl i).dem hE;simp only [AS.get,cW,kI];simp only [AS.get] at h
   cases hl:look sl i with
   | none=>simp only [Option.map_none,Option.getD_none]; exact .undef _
   | some x=>grind
  ·dsimp only at h;rw [jV] at h;split at h
   ·rename_i x hx
    cases h
    exact rF hg2st hbm hmo' hob' (id,cs) (iX hx)
   ·have hf1:=nz (dk UY NB NE) (ob.filter λ p=>!(ids.any (Nat.beq p.1))) id;simp only [cW,kI] at h;rw [hf1] at h
    cases hDi:dk UY NB NE id
    ·simp only [hDi,Bool.false_eq_true,if_false,ro] at h;have hf:=nz (λ i=>ids.any (Nat.beq i)) ob id;rw [hf] at h
     cases hany:ids.any (Nat.beq id)
     ·rw [hany] at h;simp only [Bool.false_eq_true,if_false] at h;obtain ⟨ds,h1,rfl⟩:=h
      have hni:∀ (k:Nat),ids[k]?≠some id:=λ k hk=>by
       rw [List.any_eq_false] at hany;exact hany id (List.mem_of_getElem? hk) G
      have hnv:∀ (k:Nat),UY[k]?≠some id:=λ k hk=>by
       grind
      obtain ⟨b,c,e,k1,k2,k3,k4,k5⟩:=hs.ob id ds h1;have hlt:=(hs.own id b k1).1;have hno:=nogc id b hni hnv k1;refine ⟨b,c,e,by grind,(hA.fr b hlt hno).trans k2,by grind [lZ],λ o ho=>?_,λ i x hx=>?_⟩
      ·rw [hg2st] at ho;have:=(hA.stf b hlt hno o).1 ho;rw [hgst] at this; grind
      ·exact Oj
     grind
    grind
  ·have cross:∀ i j b,yN NB NE i=true->g'.ow (2*M1+(i-NB))=some b->dk UY NB NE j=false->g.ow j=some b->False:=by
    intro i j b hi h1 hj h2;have hlt:=(hs.own j b h2).1;rcases (hA.own _ b h1).2 with h3|⟨j',hj'⟩
    ·omega
    ·obtain ⟨i',p3,⟨p1,p2,p4⟩|⟨p1,_,_⟩⟩:=gcinv j' b hj'
     ·have h4:=hA.owf j' p2 p4;rw [hj'] at h4;have:=hA.inj _ _ b h1 h4;omega
     ·have:=hs.inj j i' b h2 p3
      grind
   rcases g2cases i b h1 with ⟨x1,x2⟩|⟨x1,x2⟩ <;> rcases g2cases j b h2 with ⟨y1,y2⟩|⟨y1,y2⟩
   ·have:=hA.inj _ _ b x2 y2
    grind
   ·grind
   ·grind
   ·exact hs.inj i j b x2 y2
  ·rcases g2cases i b h with ⟨x1,x2⟩|⟨x1,x2⟩
   ·obtain ⟨k1,k2⟩:=hA.own _ b x2;refine ⟨k1,λ hF=>?_⟩;rcases k2 with k2|⟨j,hj⟩
    ·have:=hs.fl b hF; have:=hs.size; omega
    ·obtain ⟨i',p3,_⟩:=gcinv j b hj;exact (hs.own i' b p3).2 hF
   ·have:=hs.own i b x2;have:=hA.size
    grind
  ·have hlt:b<w.heap.size:=by have:=hs.fl b h; have:=hs.size; omega
   exact (hA.fr b hlt λ j hj=>by
    obtain ⟨i',p3,_⟩:=gcinv j b hj
    exact (hs.own i' b p3).2 h).trans (hs.fr b h)
  ·have hlt:b<w.heap.size:=by have:=hs.fl b h; have:=hs.size; omega
   rw [hg2st]
   have:=hA.stf b hlt (λ j hj=>by
    obtain ⟨i',p3,_⟩:=gcinv j b hj
    exact (hs.own i' b p3).2 h) o
   rw [hgst] at this;exact this.trans (hs.stf b h o)
  ·rw [g2old i (hDM i h)]; exact hs.owf i h hz
  ·rw [hg2st] at h3;have h4:g.ow i=some b:=(hs.owf i h1 (C.w0.lo i b h2)).trans h2;have hlt:=(hs.own i b h4).1;by_cases hin:∃ k:Nat,ids[k]? = some i
   ·obtain ⟨k,hk⟩:=hin
    have hj:gc.ow (M1+k)=some b:=by
     rw [hgc]; dsimp only; rw [if_pos O,Nat.add_sub_cancel_left,hk]; exact h4
    exact hA.nst (M1+k) b O hj o h3
   have hno:=nogc i b (λ k hk=>hin ⟨k,hk⟩) (λ k hk=>by grind) h4;have:=(hA.stf b hlt hno o).1 h3;rw [hgst] at this;exact hs.nst i b h1 h2 o this
 grind [nD]
theorem yO (ids UY:List Nat)(NB NE:Nat){f:FuncId}{l l' q:List AV}{Ve obs0 qo:List (Nat×List AV)}{R:AV->List (Nat×List AV)->Prop}(hc:cj C.P f q qo R)
  (hen:∀ g a w,St C.n C.w0 C.F g ⟨sl,ob⟩ a w->∃ vs:Array Value,(execOp a.eval o).run C.P w=.ok (.enter f vs) w/\vs.size=l.length/\∀ (i:Nat) c v,l[i]? = some c->vs[i]? = some v->ARep w g c v)
  (hd:o.dst=some d) (hn:Nat.blt d C.n=true) (hl':AV.mapA.go (mF ids UY) l=some l') (hq:qB l' q) (hpk:jm ob ids=some Ve) (hmo:iT (mF ids UY) Ve=some obs0) (hqo:leO obs0 qo)
  (hnd:nodupB ids=true) (hids:ids.all (λ i=>Nat.blt i (2*M1))=true) (hil:Nat.ble ids.length M1=true) (hdl:Nat.ble NE M1=true) (hdis:ids.all (λ i=>!(dk UY NB NE i))=true)
  (hvd:nodupB UY=true) (hvl:UY.all (λ i=>Nat.blt i M1)=true) (hvn:Nat.ble UY.length 100000=true)
  (hK:∀ r obs',R r obs'->∃ r' ob',r.mapA (md ids NB NE)=some r'/\iT (md ids NB NE) obs'=some ob' /\
   K ⟨(d,r')::(cW (dk UY NB NE) ⟨sl,ob⟩).sl,ob'++(cW (dk UY NB NE) ⟨sl,ob.filter λ p=>!(ids.any (Nat.beq p.1))⟩).ob⟩):bu C o K ⟨sl,ob⟩:=by
 intro g a w hs;obtain ⟨avs,hrun,a1,a2⟩:=hen g a w hs;obtain ⟨gc,⟨k1,k2,k3,k4,k5,k6,k7⟩,hpost⟩:=tI ids UY NB NE hl' hq hpk hmo hqo hnd hids hil hdl hdis hvd hvl hvn hs a1 a2;unfold Oper.wp;rw [hrun];simp only [Oper.upon];refine (hc w gc avs k1 k2 k3 k4 k5 k6 k7).mono λ e w' ⟨v,r,obs',g',he,hR,hr,hob',hA⟩=>?_;subst he;obtain ⟨r',ob',hr',hmo',hK'⟩:=hK r obs' hR;obtain ⟨g2,hs',hrep⟩:=hpost w' v r r' obs' ob' g' hr hob' hA hr' hmo';have hp:=hs'.put (d:=o.dst) (λ t ht=>by grind [Nat.blt_eq]) hrep;rw [hd] at hp;simp only;rw [hd];exact ⟨_,_,hp,hK'⟩
theorem bq (ids UY:List Nat)(NB NE:Nat){f:FuncId}{args:Array Operand}{ts:Array TypeId}{l l' q:List AV}{Ve obs0 qo rob ob':List (Nat×List AV)}{r r':AV}(hc:cj C.P f q qo (λ x y=>x=r/\y=rob))(ho:o.op=.call { callee:=.value (.func f),args:=args,argTypes:=ts })
  (hd:o.dst=some d) (hn:Nat.blt d C.n=true) (hl:kM sl args.toList=some l) (hl':AV.mapA.go (mF ids UY) l=some l') (hq:qB l' q) (hpk:jm ob ids=some Ve) (hmo:iT (mF ids UY) Ve=some obs0) (hqo:leO obs0 qo)
  (hnd:nodupB ids=true) (hids:ids.all (λ i=>Nat.blt i (2*M1))=true) (hil:Nat.ble ids.length M1=true) (hdl:Nat.ble NE M1=true) (hdis:ids.all (λ i=>!(dk UY NB NE i))=true)
  (hvd:nodupB UY=true) (hvl:UY.all (λ i=>Nat.blt i M1)=true) (hvn:Nat.ble UY.length 100000=true)
  (henter:∀ vs w,(callFunc f vs).run C.P w=.ok (.enter f vs) w) (hr:r.mapA (md ids NB NE)=some r') (hob:iT (md ids NB NE) rob=some ob')
  (hK:K ⟨(d,r')::(cW (dk UY NB NE) ⟨sl,ob⟩).sl,ob'++(cW (dk UY NB NE) ⟨sl,ob.filter λ p=>!(ids.any (Nat.beq p.1))⟩).ob⟩):bu C o K ⟨sl,ob⟩ :=
 yO ids UY NB NE hc (λ g a w hs=>by
  obtain ⟨a1,a2⟩:=lf hs _ l hl
  exact ⟨args.map a.eval,by grind [execOp,resolve,Act.eval,Deferred.ofValue,invoke],by grind,λ i c v hc hv=>a2 i c v hc (by grind)⟩)
  hd hn hl' hq hpk hmo hqo hnd hids hil hdl hdis hvd hvl hvn λ x y ⟨e1,e2⟩=>by
  grind
theorem za (ids UY:List Nat)(NB NE:Nat){f:FuncId}{caps:List AV}{t:Nat}{args:Array Operand}{ts:Array TypeId}{l l' q:List AV}{Ve obs0 qo rob ob':List (Nat×List AV)}{r r':AV}(hc:cj C.P f q qo (λ x y=>x=r/\y=rob))(ho:o.op=.call { callee:=.value (.tmp t),args:=args,argTypes:=ts })
  (hd:o.dst=some d) (hn:Nat.blt d C.n=true) (hf:evo sl (.tmp t)=some (.func (.func f) caps)) (hl:kM sl args.toList=some l) (hl':AV.mapA.go (mF ids UY) (l++caps)=some l') (hq:qB l' q) (hpk:jm ob ids=some Ve) (hmo:iT (mF ids UY) Ve=some obs0) (hqo:leO obs0 qo)
  (hnd:nodupB ids=true) (hids:ids.all (λ i=>Nat.blt i (2*M1))=true) (hil:Nat.ble ids.length M1=true) (hdl:Nat.ble NE M1=true) (hdis:ids.all (λ i=>!(dk UY NB NE i))=true)
  (hvd:nodupB UY=true) (hvl:UY.all (λ i=>Nat.blt i M1)=true) (hvn:Nat.ble UY.length 100000=true)
  (henter:∀ vs w,(callFunc f vs).run C.P w=.ok (.enter f vs) w) (hr:r.mapA (md ids NB NE)=some r') (hob:iT (md ids NB NE) rob=some ob')
  (hK:K ⟨(d,r')::(cW (dk UY NB NE) ⟨sl,ob⟩).sl,ob'++(cW (dk UY NB NE) ⟨sl,ob.filter λ p=>!(ids.any (Nat.beq p.1))⟩).ob⟩):bu C o K ⟨sl,ob⟩ :=
 yO ids UY NB NE hc (λ g a w hs=>by
  obtain ⟨a1,a2⟩:=lf hs _ l hl;have hfr:=bN hs hf;generalize hv:a.eval (.tmp t)=v at hfr
  cases hfr with
  | func U9 hcr=>
   rename_i vs;have a1':(args.map a.eval).size=l.length:=by grind
   refine ⟨args.map a.eval++vs,by grind [execOp,resolve,Deferred.ofValue,invoke],by grind,λ i c v hc hv=>?_⟩
   grind)
  hd hn hl' hq hpk hmo hqo hnd hids hil hdl hdis hvd hvl hvn λ x y ⟨e1,e2⟩=>by
  grind
end
theorem Nf (h:p:=by
 cases hq:(k1::i::r).any (Nat.beq k) with
 | false=>rfl
 | true=>rw [hno k hq] at hk; cases hk):p:=h
theorem L5 (h:p:=by
 exact hbnext (trL (S.D q) sl') (λ z x h=>by rw [ux,h]; rfl) z x hx):p:=h
theorem MY (h:p:=by
 intro z zi hz hb
 exact (hI.2.1 z zi hz).1 (nh hI.2.2 4 o zi hb hafter)):p:=h
theorem Ni (h:p:=by
 exfalso;rw [Array.getD_eq_getD_getElem?,Array.getElem?_replicate] at hk
 grind):p:=h
def jI (o:Oper)(k:Nat):Bool:=o.after.toList.any λ e=>Nat.beq e.on k&&Region.binds .any e
def pq (ops:Array Oper):Nat->Oper->Nat->Bool|0,o,a=>jI o a|n+1,o,a=>jI o a||ops.toList.zipIdx.any λ p=>jI o p.2&&pq ops n p.1 a
def pA (ops:Array Oper)(imp:List Nat)(o:Oper)(k j:Nat):Bool :=
 (imp.zipIdx.all λ p=>!(pq ops 4 o p.1)||Nat.blt p.2 j)&&(imp.zipIdx.all λ p=>match ops.toList[p.1]? with
  | some oi=>!(jI oi k)||Nat.ble j p.2
  | none=>true)
def chainB (ops:Array Oper):List Nat->Bool
 | a::b::r=>(match ops.toList[b]? with|some o=>pq ops 4 o a|none=>false)&&chainB ops (b::r)
 | _=>true
def loB (ops:Array Oper)(imp:List Nat)(o:Oper)(j:Nat):Bool:=imp.zipIdx.all λ p=>!(pq ops 4 o p.1)||Nat.blt p.2 j
theorem nh {ops:Array Oper}{listed:Array Bool}(hcl:∀ (k:Nat) o,ops[k]? = some o->listed.getD k false=true->∀ e∈o.after,Region.binds .any e=true->listed.getD e.on false=true) :
  ∀ (n:Nat) (o:Oper) (a:Nat),pq ops n o a=true->(∀ e∈o.after,Region.binds .any e=true->listed.getD e.on false=true)->listed.getD a false=true:=by
 have one:∀ (o:Oper) (a:Nat),jI o a=true->(∀ e∈o.after,Region.binds .any e=true->listed.getD e.on false=true)->listed.getD a false=true:=by
  intro o a h ha;obtain ⟨e,he,hbe⟩:=List.any_eq_true.1 h
  grind [Nat.eq_of_beq_eq_true]
 intro n
 induction n with
 | zero=>exact one
 | succ n ih=>
  grind [pq]
inductive Tr where
 | none
 | some (D:Nat->Bool)
 | fn (f:AV->AV)
def trA:Tr->AV->AV|.none,x=>x|.some D,x=>x.dem D|.fn f,x=>f x
def trL:Tr->List (Nat×AV)->List (Nat×AV)|.none,l=>l|.some D,l=>l.map λ p=>(p.1,p.2.dem D)|.fn f,l=>l.map λ p=>(p.1,f p.2)
theorem ux {D:Tr}{l:List (Nat×AV)}{i:Nat}:look (trL D l) i=(look l i).map (trA D):=by
 cases D with
 | none=>simp only [trL]; cases look l i <;> rfl
 | some D=>simp only [trL,kI]; rfl
 | fn f=>simp only [trL,kI]; rfl
abbrev gf:=List (Nat×Nat×(Nat->AV))
def dH:gf->Nat->Option (Nat×(Nat->AV))|[],_=>none|(j,p)::r,k=>bif Nat.beq j k then some p else dH r k
def d4:gf->Nat->List (Nat×AV)|[],_=>[]|(_,d,v)::r,j=>(d,v j)::d4 r j
def KnS (bas:List (Nat×AV))(o:Oper)(rev:gf)(j:Nat):List (Nat×AV)->Prop|[]=>True|(i,x)::r=>(look bas i=some x\/∃ k v,jI o k=true/\dH rev k=some (i,v)/\v j=x)/\KnS bas o rev j r
structure fy where
 m:Nat
 imp:List Nat
 D:Nat->Tr
 bas:Nat->List (Nat×AV)
 obj:Nat->List (Nat×List AV)
def DS (C:Cx)(ops:Array Oper)(S:fy)(K:gf->Prop):List Oper->Nat->gf->Prop
 | [],_,rev=>K rev
 | o::rest,k,rev=>
  match S.imp.findIdx? (Nat.beq k) with
  | none=>∃ d v,o.dst=some d/\(rev.all λ p=>!(Nat.beq p.2.1 d))=true/\(∀ j,look (S.bas j) d=none)/\(∀ j,j<S.m->loB ops S.imp o j=true->v (j+1)=trA (S.D j) (v j)) /\
    (∀ j,j<=S.m->pA ops S.imp o k j=true->∃ kn,KnS (S.bas j) o rev j kn/\rx C ops (S.obj j) o kn d (v j))/\DS C ops S K rest (k+1) ((k,d,v)::rev)
  | some i=>∃ kn,KnS (S.bas i) o rev i kn/\((∃ d v,o.dst=some d/\(rev.all λ p=>!(Nat.beq p.2.1 d))=true/\(∀ j,i<j->look (S.bas j) d=none)/\(∀ j,i<j->j<S.m->v (j+1)=trA (S.D j) (v j)) /\
     (∀ sl,(∀ i x,look kn i=some x->look sl i=some x)->∀ K:AS->Prop,K ⟨(d,v (i+1))::trL (S.D i) sl,S.obj (i+1)⟩->One C ops o K ⟨sl,S.obj i⟩)/\DS C ops S K rest (k+1) ((k,d,v)::rev)) \/
    (o.dst=none/\(∀ sl,(∀ i x,look kn i=some x->look sl i=some x)->∀ K:AS->Prop,K ⟨trL (S.D i) sl,S.obj (i+1)⟩->One C ops o K ⟨sl,S.obj i⟩)/\DS C ops S K rest (k+1) rev))
def rP (C:Cx)(ops:Array Oper)(S:fy)(R:Nat->Option (Nat×(Nat->AV)))(o:Oper)(k:Nat):Prop :=
 match S.imp.findIdx? (Nat.beq k) with
 | none=>∃ d v,R k=some (d,v)/\o.dst=some d/\(∀ j,look (S.bas j) d=none)/\(∀ j,j<S.m->loB ops S.imp o j=true->v (j+1)=trA (S.D j) (v j)) /\
   (∀ j,j<=S.m->pA ops S.imp o k j=true->∀ sl,(∀ i x,look (S.bas j) i=some x->look sl i=some x)->(∀ k' p,jI o k'=true->R k'=some p->look sl p.1=some (p.2 j))->∀ K:AS->Prop,K ⟨(d,v j)::sl,S.obj j⟩->One C ops o K ⟨sl,S.obj j⟩)
 | some i=>(∃ d v,R k=some (d,v)/\o.dst=some d/\(∀ j,i<j->look (S.bas j) d=none)/\(∀ j,i<j->j<S.m->v (j+1)=trA (S.D j) (v j)) /\
    (∀ sl,(∀ q x,look (S.bas i) q=some x->look sl q=some x)->(∀ k' p,jI o k'=true->R k'=some p->look sl p.1=some (p.2 i))->∀ K:AS->Prop,K ⟨(d,v (i+1))::trL (S.D i) sl,S.obj (i+1)⟩->One C ops o K ⟨sl,S.obj i⟩)) \/
   (R k=none/\o.dst=none/\(∀ sl,(∀ q x,look (S.bas i) q=some x->look sl q=some x)->(∀ k' p,jI o k'=true->R k'=some p->look sl p.1=some (p.2 i))->∀ K:AS->Prop,K ⟨trL (S.D i) sl,S.obj (i+1)⟩->One C ops o K ⟨sl,S.obj i⟩))
theorem tV {bas:List (Nat×AV)}{o:Oper}{rev:gf}{j:Nat}{R:Nat->Option (Nat×(Nat->AV))}(hR:∀ k p,dH rev k=some p->R k=some p){sl:List (Nat×AV)}(h1:∀ i x,look bas i=some x->look sl i=some x)
  (h2:∀ k' p,jI o k'=true->R k'=some p->look sl p.1=some (p.2 j)):∀ {kn:List (Nat×AV)},KnS bas o rev j kn->∀ i x,look kn i=some x->look sl i=some x
 | [],_,i,x,h=>by simp [look] at h
 | (q,y)::r,hk,i,x,h=>by
  rw [aZ] at h;by_cases e:q=i
  ·rw [if_pos e] at h; cases h; subst e;rcases hk.1 with h3|⟨k,v,h3,h4,h5⟩
   ·grind
   grind
  ·rw [if_neg e] at h;exact tV hR h1 h2 hk.2 i x h
theorem wW {rev:gf}{k:Nat}(h:∀ p∈rev,p.1<k):dH rev k=none:=by
 induction rev with
 | nil=>rfl
 | cons p r ih=>
  grind [dH,Nat.eq_of_beq_eq_true]
theorem AC {C:Cx}{ops:Array Oper}{S:fy}{K:gf->Prop}:∀ {l:List Oper} {k:Nat} {rev:gf},DS C ops S K l k rev->(∀ p∈rev,p.1<k) ->
  ∃ fin:gf,K fin/\(∀ i,i<k->dH fin i=dH rev i)/\(∀ p∈fin,p.1<k+l.length) /\
   (∀ (i:Nat) o,l[i]? = some o->rP C ops S (dH fin) o (k+i)) /\
   (∃ pre:gf,fin=pre++rev/\(∀ p∈pre,∀ q∈rev,p.2.1≠q.2.1)/\(∀ (i j:Nat) p q,pre[i]? = some p->pre[j]? = some q->p.2.1=q.2.1->i=j)/\(∀ p∈pre,k<=p.1)/\∀ (i j:Nat) p q,pre[i]? = some p->pre[j]? = some q->p.1=q.1->i=j)
 | [],k,rev,h,hlt=>⟨rev,h,λ _ _=>rfl,hlt,λ i o h=>by simp at h,[],Z,by simp,by simp,by simp,by simp⟩
 | o::rest,k,rev,h,hlt=>by
  -- one more result
  have more:∀ (d:Nat) (v:Nat->AV),(rev.all λ p=>!(Nat.beq p.2.1 d))=true->DS C ops S K rest (k+1) ((k,d,v)::rev) ->
    (∀ fin:gf,(∀ q p,dH rev q=some p->dH fin q=some p)->dH fin k=some (d,v)->rP C ops S (dH fin) o k)->∃ fin:gf,K fin/\(∀ i,i<k->dH fin i=dH rev i)/\(∀ p∈fin,p.1<k+(rest.length+1)) /\
     (∀ (i:Nat) o',(o::rest)[i]? = some o'->rP C ops S (dH fin) o' (k+i)) /\
     (∃ pre:gf,fin=pre++rev/\(∀ p∈pre,∀ q∈rev,p.2.1≠q.2.1)/\(∀ (i j:Nat) p q,pre[i]? = some p->pre[j]? = some q->p.2.1=q.2.1->i=j)/\(∀ p∈pre,k<=p.1)/\∀ (i j:Nat) p q,pre[i]? = some p->pre[j]? = some q->p.1=q.1->i=j):=by
   intro d v hf hrest howes
   obtain ⟨fin,f1,f2,f3,f4,pre,f5,f6,f7,f8,f9⟩:=AC hrest (λ p hp=>by
    grind)
   have hkk:dH fin k=some (d,v):=by
    rw [f2 k (Nat.lt_succ_self k)];simp [dH]
   have hsub:∀ q,q<k->dH fin q=dH rev q:=by
    grind [dH,Nat.eq_of_beq_eq_true]
   have hfrd:∀ q∈rev,q.2.1≠d:=λ q hq e=>by
    have:=sm.1 hf q hq;simp [e] at this
   refine ⟨fin,f1,hsub,λ p hp=>by grind,λ i o' ho'=>?_,pre++[(k,d,v)],by grind,λ p hp q hq=>?_,λ i j p q hi hj e=>?_,λ p hp=>?_,λ i j p q hi hj e=>?_⟩
   ·cases i with
    | zero=>
     grind [wW]
    | succ i=>
     grind
   ·grind
   ·grind
   ·grind
   grind
  unfold DS at h
  cases hi:S.imp.findIdx? (Nat.beq k) with
  | none=>
   rw [hi] at h;obtain ⟨d,v,hd,hf,hb,hv,hs,hrest⟩:=h;refine more d v hf hrest λ fin hR hk=>?_;unfold rP;rw [hi];refine ⟨d,v,hk,hd,hb,hv,λ j hj hal sl h1 h2 K hK=>?_⟩;obtain ⟨kn,hkn,Va⟩:=hs j hj hal;exact Va sl (tV hR h1 h2 hkn) K hK
  | some i=>
   rw [hi] at h;obtain ⟨kn,hkn,⟨d,v,hd,hf,hb,hv,Va,hrest⟩|⟨hd,Va,hrest⟩⟩:=h
   ·refine more d v hf hrest λ fin hR hk=>?_;unfold rP;rw [hi];exact .inl ⟨d,v,hk,hd,hb,hv,λ sl h1 h2 K hK=>Va sl (tV hR h1 h2 hkn) K hK⟩
   ·obtain ⟨fin,f1,f2,f3,f4,pre,f5,f6,f7,f8,f9⟩:=AC hrest (by grind);refine ⟨fin,f1,λ q hq=>f2 q (Nat.lt_succ_of_lt hq),λ p hp=>by grind,λ q o' ho'=>?_,pre,f5,f6,f7,λ p hp=>by grind,f9⟩
    cases q with
    | zero=>
     simp only [List.getElem?_cons_zero,bx] at ho';subst ho'
     have hkn':dH fin k=none:=by
      grind [wW]
     unfold rP;rw [Nat.add_zero,hi];refine .inr ⟨hkn',hd,λ sl h1 h2 K hK=>Va sl (tV (λ q p hq=>?_) h1 h2 hkn) K hK⟩
     grind [wW]
    | succ q=>
     grind
theorem qC:∀ {rev:gf} {k:Nat} {p:Nat×(Nat->AV)},dH rev k=some p->(k,p)∈rev
 | [],k,p,h=>by simp [dH] at h
 | (j,q)::r,k,p,h=>by
  simp only [dH] at h
  cases hb:Nat.beq j k
  ·rw [hb,cond_false] at h;exact List.mem_cons_of_mem _ (qC h)
  simp_all
theorem yf:∀ {rev:gf} {j i:Nat} {x:AV},(i,x)∈d4 rev j->∃ k v,(k,i,v)∈rev/\v j=x
 | [],j,i,x,h=>by simp [d4] at h
 | (k,d,v)::r,j,i,x,h=>by
  simp only [d4] at h;rcases qr.1 h with e|h
  ·grind
  ·obtain ⟨k',v',h1,h2⟩:=yf h
   grind
theorem nQ {ops:Array Oper}:∀ {imp:List Nat},chainB ops imp=true->∀ (i a b:Nat) o,imp[i]? = some a->imp[i+1]? = some b->ops[b]? = some o->pq ops 4 o a=true
 | [],_,i,a,b,o,h,_,_=>by simp at h
 | [x],_,i,a,b,o,h1,h2,_=>by
  grind
 | x::y::r,hc,i,a,b,o,h1,h2,h3=>by
  simp only [chainB,py] at hc
  cases i with
  | zero=>
   grind
  | succ i=>
   simp only [List.getElem?_cons_succ] at h1 h2;exact nQ hc.2 i a b o h1 (by grind) h3
theorem Dc {ops:Array Oper}{listed:Array Bool}(hs:listed.size=ops.size)(hord:∀ (j:Nat) o,ops[j]? = some o->∀ e∈o.after,Region.binds .any e=true->e.on<j)(h:Region.ready .any ops listed=[]) :
  ∀ j,j<ops.size->listed.getD j false=true:=by
 exact MO
structure CG (C:Cx)(ops:Array Oper)(S:fy)(fin:gf):Prop where
 owes:∀ (k:Nat) o,ops[k]? = some o->rP C ops S (dH fin) o k
 lt:∀ k p,dH fin k=some p->k<ops.size
 same:∀ k k' p p',dH fin k=some p->dH fin k'=some p'->p.1=p'.1->k=k'
 num:∀ (i j:Nat) p q,fin[i]? = some p->fin[j]? = some q->p.1=q.1->i=j
 len:S.imp.length=S.m
 bas:∀ j,j<S.m->fu (trL (S.D j) (S.bas j)) (S.bas (j+1))
 nd:nodupB S.imp=true
 inn:S.imp.all (λ i=>Nat.blt i ops.size)=true
 ord:∀ (j:Nat) o,ops[j]? = some o->∀ e∈o.after,Region.binds .any e=true->e.on<j
theorem CG.mk' {C:Cx}{ops:Array Oper}{S:fy}{K:gf->Prop}(Pn:S.imp.length=S.m)
  (hbas:∀ j,j<S.m->fu (trL (S.D j) (S.bas j)) (S.bas (j+1))) (hnd:nodupB S.imp=true) (hin:S.imp.all (λ i=>Nat.blt i ops.size)=true)
  (hord:(ops.toList.zipIdx.all λ p=>p.1.after.toList.all λ e=>!(Region.binds .any e)||Nat.blt e.on p.2)=true) (h:DS C ops S K ops.toList 0 []):∃ fin,K fin/\CG C ops S fin:=by
 obtain ⟨fin,hfin,_,hfl,howes,pre,hpre,_,hdst,_,hnum⟩:=AC h G;rw [List.append_nil] at hpre;subst hpre;simp only [Nat.zero_add,Array.length_toList] at hfl howes;have howes':∀ (k:Nat) o,ops[k]? = some o->rP C ops S (dH fin) o k:=λ k o ho=>howes k o (by grind)
 have hord':∀ (j:Nat) o,ops[j]? = some o->∀ e∈o.after,Region.binds .any e=true->e.on<j:=by
  exact JM
 have hlt:∀ k p,dH fin k=some p->k<ops.size:=λ k p h=>hfl _ (qC h)
 have hsame:∀ k k' p p',dH fin k=some p->dH fin k'=some p'->p.1=p'.1->k=k':=by
  intro k k' p p' h1 h2 e;obtain ⟨i,hi⟩:=List.mem_iff_getElem?.1 (qC h1);obtain ⟨i',hi'⟩:=List.mem_iff_getElem?.1 (qC h2)
  grind
 have hdstOf:∀ k o p,ops[k]? = some o->dH fin k=some p->o.dst=some p.1:=by
  grind [rP]
 exact ⟨fin,hfin,howes',hlt,hsame,hnum,Pn,hbas,hnd,hin,hord'⟩
def H3 (ops:Array Oper)(S:fy)(listed:Array Bool)(j:Nat):Prop:=j<=S.m/\(∀ (i k:Nat),S.imp[i]? = some k->(listed.getD k false=true↔i<j))/\(∀ (k:Nat) o,ops[k]? = some o->listed.getD k false=true->∀ e∈o.after,Region.binds .any e=true->listed.getD e.on false=true)
def PKn (S:fy)(fin:gf)(listed:Array Bool)(j:Nat)(sl':List (Nat×AV)):Prop:=(∀ i x,look (S.bas j) i=some x->look sl' i=some x)/\(∀ k p,listed.getD k false=true->dH fin k=some p->look sl' p.1=some (p.2 j))
structure PAt (C:Cx)(ops:Array Oper)(S:fy)(fin:gf)(fuel:Nat)(listed:Array Bool)(g:Gh)(a:Act)(w:World)(sl':List (Nat×AV))(j:Nat):Prop where
 sz:listed.size=ops.size
 un:unl ops.size listed=fuel
 inv:H3 ops S listed j
 kn:PKn S fin listed j sl'
 st:St C.n C.w0 C.F g ⟨sl',S.obj j⟩ a w
theorem AS.le_refl (s:AS):s.le s:=⟨λ j x h=>by grind [AS.get,AV.sub_refl],λ id cs h=>⟨cs,h,bt _,λ i c d h1 h2=>by grind [AV.sub_refl]⟩⟩
theorem qp {C:Cx}{ops:Array Oper}{Q:Exit->AS->Prop}{S:fy}{fin:gf}(hP:CG C ops S fin){t:AS}(hle:(⟨d4 fin S.m++S.bas S.m,S.obj S.m⟩:AS).le t)(hfin:Q .normal t)(j0:Nat)
  (hsw:∀ (fuel:Nat) (listed:Array Bool) (g:Gh) (a:Act) (w:World) (sl':List (Nat×AV)) (j:Nat),j0<=j->PAt C ops S fin (fuel+1) listed g a w sl' j->∀ i q,i∈Region.ready .any ops listed->S.imp[q]? = some i->j<q ->
   wpOp C.P ops (λ e a' w'=>∃ g' s',St C.n C.w0 C.F g' s' a' w'/\Q e s') i (wpAny C.P .any ops (λ e a' w'=>∃ g' s',St C.n C.w0 C.F g' s' a' w'/\Q e s') fuel (listed.setIfInBounds i true)) a w) :
  (∀ (fuel:Nat) (listed:Array Bool) (g:Gh) (a:Act) (w:World) (sl':List (Nat×AV)) (j:Nat),j0<=j->PAt C ops S fin fuel listed g a w sl' j->wpAny C.P .any ops (λ e a' w'=>∃ g' s',St C.n C.w0 C.F g' s' a' w'/\Q e s') fuel listed a w) /\
  (∀ (fuel:Nat) (listed:Array Bool) (g:Gh) (a:Act) (w:World) (sl':List (Nat×AV)) (j i:Nat),(j0<=j\/(j0<=j+1/\S.imp[j]? = some i))->i∈Region.ready .any ops listed->PAt C ops S fin (fuel+1) listed g a w sl' j ->
   wpOp C.P ops (λ e a' w'=>∃ g' s',St C.n C.w0 C.F g' s' a' w'/\Q e s') i (wpAny C.P .any ops (λ e a' w'=>∃ g' s',St C.n C.w0 C.F g' s' a' w'/\Q e s') fuel (listed.setIfInBounds i true)) a w):=by
 obtain ⟨howes',hlt,hsame,hnum,Pn,hbas,hnd,hin,hord'⟩:=hP;have himp:∀ {k i:Nat},S.imp.findIdx? (Nat.beq k)=some i->S.imp[i]? = some k:=λ h=>mb h
 have himp2:∀ {k i:Nat},S.imp[i]? = some k->S.imp.findIdx? (Nat.beq k)=some i:=by
  intro k i h
  cases hf:S.imp.findIdx? (Nat.beq k) with
  | none=>
   have:=List.findIdx?_eq_none_iff.1 hf k (List.mem_of_getElem? h);simp at this
  | some i'=>
   grind [nJ]
 have done:∀ (listed:Array Bool) (g:Gh) (a:Act) (w:World) (sl':List (Nat×AV)) (j:Nat),(∀ k,k<ops.size->listed.getD k false=true)->H3 ops S listed j->PKn S fin listed j sl'->St C.n C.w0 C.F g ⟨sl',S.obj j⟩ a w ->
   ∃ g' s',St C.n C.w0 C.F g' s' a w/\Q .normal s':=by
  intro listed g a w sl' j hall hI hK hs
  have hj:j=S.m:=by
   rcases Nat.lt_or_ge j S.m with hlt|hge
   ·exfalso;have hjl:j<S.imp.length:=by omega
    have h1:=(hI.2.1 j S.imp[j] (List.getElem?_eq_getElem hjl)).1 (hall _ (by
     grind [List.getElem_mem,Nat.blt_eq]))
    omega
   ·exact Nat.le_antisymm hI.1 hge
  subst hj;refine ⟨g,t,(hs.weaken (t:=⟨d4 fin S.m++S.bas S.m,S.obj S.m⟩) ?_).weaken hle,hfin⟩;refine NI λ i x hx=>?_;rw [jV] at hx
  cases hq:look (d4 fin S.m) i with
  | none=>rw [hq] at hx; exact hK.1 i x (by grind)
  | some y=>
   rw [hq] at hx;simp only [Option.some_or,bx] at hx;subst hx;obtain ⟨k,v,h1,h2⟩:=yf (iX hq)
   have hk:dH fin k=some (i,v):=by
    obtain ⟨q,hq'⟩:=List.mem_iff_getElem?.1 h1
    cases hl:dH fin k with
    | none=>
     exfalso
     have hno:∀ {rev:gf} {k:Nat} {p:Nat×(Nat->AV)},(k,p)∈rev->dH rev k≠none:=by
      intro rev
      induction rev with
      | nil=>grind
      | cons z r ih=>
       intro k p h;obtain ⟨j,q⟩:=z;simp only [dH]
       cases hb:Nat.beq j k
       ·rw [cond_false];rcases qr.1 h with e|h
        ·cases e; simp at hb
        grind
       grind
     grind
    | some p=>
     obtain ⟨q2,hq2⟩:=List.mem_iff_getElem?.1 (qC hl)
     grind
   have:=hK.2 k _ (hall k (hlt k _ hk)) hk
   grind
 have step:∀ (fuel:Nat),(∀ (listed:Array Bool) (g:Gh) (a:Act) (w:World) (sl':List (Nat×AV)) (j:Nat),j0<=j->PAt C ops S fin fuel listed g a w sl' j->wpAny C.P .any ops (λ e a' w'=>∃ g' s',St C.n C.w0 C.F g' s' a' w'/\Q e s') fuel listed a w) ->
   ∀ (listed:Array Bool) (g:Gh) (a:Act) (w:World) (sl':List (Nat×AV)) (j i:Nat),(j0<=j\/(j0<=j+1/\S.imp[j]? = some i))->i∈Region.ready .any ops listed->PAt C ops S fin (fuel+1) listed g a w sl' j ->
    wpOp C.P ops (λ e a' w'=>∃ g' s',St C.n C.w0 C.F g' s' a' w'/\Q e s') i (wpAny C.P .any ops (λ e a' w'=>∃ g' s',St C.n C.w0 C.F g' s' a' w'/\Q e s') fuel (listed.setIfInBounds i true)) a w:=by
   intro fuel ih' listed g a w sl' j i hwhen hi VD;have hi0:=hi;obtain ⟨U0,hu,hI,hK,hs⟩:=VD
   have ih:∀ (listed:Array Bool) (g:Gh) (a:Act) (w:World) (sl':List (Nat×AV)) (j:Nat),listed.size=ops.size->unl ops.size listed=fuel->H3 ops S listed j->PKn S fin listed j sl'->St C.n C.w0 C.F g ⟨sl',S.obj j⟩ a w->j0<=j ->
     wpAny C.P .any ops (λ e a' w'=>∃ g' s',St C.n C.w0 C.F g' s' a' w'/\Q e s') fuel listed a w:=λ listed g a w sl' j h1 h2 h3 h4 h5 h6=>ih' listed g a w sl' j h6 ⟨h1,h2,h3,h4,h5⟩
   obtain ⟨h1,o,ho,hafter⟩:=mem_ready.1 hi;have hil:i<ops.size:=(Array.getElem?_eq_some_iff.1 ho).1
   have h1':listed.getD i false=false:=by
    grind
   have hbo:∀ k,jI o k=true->listed.getD k false=true:=by
    intro k hk;obtain ⟨e,he,hbe⟩:=List.any_eq_true.1 hk
    grind [Nat.eq_of_beq_eq_true]
   have hget:∀ q,(listed.setIfInBounds i true).getD q false=true->q=i\/listed.getD q false=true:=by
    intro q hq;by_cases e:q=i
    ·grind
    ·rw [getD_set_ne false (λ h=>e h.symm)] at hq; grind
   have hget2:∀ q,listed.getD q false=true->(listed.setIfInBounds i true).getD q false=true:=by
    intro q hq;have Vs:q≠i:=λ e=>by grind
    rw [getD_set_ne false (λ h=>Vs h.symm)]; exact hq
   have hgeti:(listed.setIfInBounds i true).getD i false=true:=by
    have hil2:i<listed.size:=by omega
    simp [Array.getD_eq_getD_getElem?,Array.getElem?_setIfInBounds,hil2]
   have hclosed:∀ k o',ops[k]? = some o'->(listed.setIfInBounds i true).getD k false=true->∀ e∈o'.after,Region.binds .any e=true->(listed.setIfInBounds i true).getD e.on false=true:=by
    intro k o' ho' hk e he hbe;rcases hget k hk with rfl|hk
    ·grind
    ·exact hget2 _ (hI.2.2 k o' ho' hk e he hbe)
   have howe:=howes' i o ho;unfold rP at howe
   cases hfi:S.imp.findIdx? (Nat.beq i) with
   | none=>
    rw [hfi] at howe;obtain ⟨d,v,hRk,hd,Xi,hv,Va⟩:=howe
    have hj0:j0<=j:=by
     grind
    have hal:pA ops S.imp o i j=true:=by
     unfold pA;simp only [py,sm];refine ⟨λ p hp=>?_,λ p hp=>?_⟩
     ·obtain ⟨q,hq⟩:=List.mem_iff_getElem?.1 hp;rw [List.getElem?_zipIdx] at hq;simp only [ro,Nat.zero_add] at hq;obtain ⟨x,hx,rfl⟩:=hq
      cases hbx:pq ops 4 o x
      ·simp [hbx]
      ·have:=(hI.2.1 q x hx).1 (nh hI.2.2 4 o x hbx hafter)
       grind [Nat.blt_eq]
     ·obtain ⟨q,hq⟩:=List.mem_iff_getElem?.1 hp;rw [List.getElem?_zipIdx] at hq;simp only [ro,Nat.zero_add] at hq;obtain ⟨x,hx,rfl⟩:=hq;simp only [Array.getElem?_toList]
      cases hox:ops[x]? with
      | none=>rfl
      | some ox=>
       simp only
       cases hbx:jI ox i
       ·simp
       ·simp only [Bool.not_true,Bool.false_or];refine Nat.ble_eq_true_of_le (Nat.le_of_not_lt λ hlt=>?_);have hl:=(hI.2.1 q x hx).2 hlt;obtain ⟨e,he,hbe⟩:=List.any_eq_true.1 hbx;simp only [py] at hbe;have:=cl hbe.1;subst this;have:=hI.2.2 x ox hox hl e (Array.mem_toList_iff.1 he) hbe.2
        grind
    have Vh:=Va j hI.1 hal sl' hK.1 (λ k' p hb hk'=>hK.2 k' p (hbo k' hb) hk') (λ s=>s=⟨(d,v j)::sl',S.obj j⟩) rfl i ho;refine wL (Vh g a w hs) ?_;rintro a' w' ⟨g',s',hs',rfl⟩;refine ih _ g' a' w' ((d,v j)::sl') j (by grind) ?_ ⟨hI.1,λ q k hq=>?_,hclosed⟩ ⟨λ q x hx=>?_,λ k p hk hp=>?_⟩ hs' hj0
    ·grind [wH]
    ·have Vs:k≠i:=λ e=>by grind
     rw [getD_set_ne false (λ h=>Vs h.symm)]; exact hI.2.1 q k hq
    ·rw [aZ,if_neg]
     ·exact hK.1 q x hx
     grind
    ·rw [aZ];rcases hget k hk with rfl|hk
     ·rw [hRk] at hp; cases hp; grind
     ·rw [if_neg]
      ·exact hK.2 k p hk hp
      grind
   | some q=>
    rw [hfi] at howe;have hq:=himp hfi
    -- its stage
    have h2:¬ q<j:=λ h=>by have:=(hI.2.1 q i hq).2 h; grind
    by_cases hqj:j<q
    ·rcases hwhen with hj0|⟨_,hji⟩
     ·exact hsw fuel listed g a w sl' j hj0 ⟨U0,hu,hI,hK,hs⟩ i q hi0 hq hqj
     grind
    have hqj:q=j:=by omega
    have hj1:j0<=j+1:=by
     grind
    subst hqj;have hqm:q<S.m:=by grind
    have hbnext:∀ (sl'':List (Nat×AV)),(∀ z x,look sl' z=some x->look sl'' z=some (trA (S.D q) x))->∀ z x,look (S.bas (q+1)) z=some x->look sl'' z=some x:=by
     intro sl'' UT z x hx;have hx:=pS (hbas q hqm) z x hx;rw [ux,ro] at hx;obtain ⟨y,hy,rfl⟩:=hx;exact UT z y (hK.1 z y hy)
    have hInext:H3 ops S (listed.setIfInBounds i true) (q+1):=by
     refine ⟨hqm,λ z k hz=>?_,hclosed⟩;by_cases e:k=i
     ·grind
     ·rw [getD_set_ne false (λ h=>e h.symm),hI.2.1 z k hz];constructor
      ·grind
      grind
    have hvnext:∀ k p,listed.getD k false=true->dH fin k=some p->p.2 (q+1)=trA (S.D q) (p.2 q):=by
     intro k p hk hp;have hkl:=hlt k p hp;have hok:=howes' k ops[k] (Array.getElem?_eq_getElem hkl);unfold rP at hok;split at hok
     ·obtain ⟨d,v,e1,_,_,e2,_⟩:=hok;rw [hp] at e1; cases e1;refine e2 q hqm (sm.2 λ p hp'=>?_);obtain ⟨z,hz⟩:=List.mem_iff_getElem?.1 hp';rw [List.getElem?_zipIdx] at hz;simp only [ro,Nat.zero_add] at hz;obtain ⟨x,hx,rfl⟩:=hz
      cases hbx:pq ops 4 ops[k] x
      ·rfl
      ·have:=(hI.2.1 z x hx).1 (nh hI.2.2 4 _ x hbx (hI.2.2 k _ (Array.getElem?_eq_getElem hkl) hk));simp only [Bool.not_true,Bool.false_or];rw [Nat.blt_eq]; exact this
     ·rename_i z hz;have hzq:z<q:=(hI.2.1 z k (himp hz)).1 hk;rcases hok with ⟨d,v,e1,_,_,e2,_⟩|⟨e1,_⟩
      ·rw [hp] at e1; cases e1; grind
      grind
    rcases howe with ⟨d,v,hRk,hd,Xi,hv,Va⟩|⟨hRk,hd,Va⟩
    ·have Vh:=Va sl' hK.1 (λ k' p hb hk'=>hK.2 k' p (hbo k' hb) hk') (λ s=>s=⟨(d,v (q+1))::trL (S.D q) sl',S.obj (q+1)⟩) rfl i ho;refine wL (Vh g a w hs) ?_;rintro a' w' ⟨g',s',hs',rfl⟩;refine ih _ g' a' w' ((d,v (q+1))::trL (S.D q) sl') (q+1) (by grind) ?_ hInext ⟨λ z x hx=>?_,λ k p hk hp=>?_⟩ hs' hj1
     ·grind [wH]
     ·rw [aZ,if_neg]
      ·exact L5
      grind
     ·rw [aZ];rcases hget k hk with rfl|hk
      ·rw [hRk] at hp; cases hp; grind
      ·rw [if_neg]
       ·rw [ux,hK.2 k p hk hp,hvnext k p hk hp]; rfl
       grind
    ·have Vh:=Va sl' hK.1 (λ k' p hb hk'=>hK.2 k' p (hbo k' hb) hk') (λ s=>s=⟨trL (S.D q) sl',S.obj (q+1)⟩) rfl i ho;refine wL (Vh g a w hs) ?_;rintro a' w' ⟨g',s',hs',rfl⟩;refine ih _ g' a' w' (trL (S.D q) sl') (q+1) (by grind) ?_ hInext ⟨λ z x hx=>?_,λ k p hk hp=>?_⟩ hs' hj1
     ·grind [wH]
     ·exact L5
     ·rcases hget k hk with rfl|hk
      ·grind
      ·rw [ux,hK.2 k p hk hp,hvnext k p hk hp]; rfl
 have main:∀ (fuel:Nat) (listed:Array Bool) (g:Gh) (a:Act) (w:World) (sl':List (Nat×AV)) (j:Nat),j0<=j->PAt C ops S fin fuel listed g a w sl' j->wpAny C.P .any ops (λ e a' w'=>∃ g' s',St C.n C.w0 C.F g' s' a' w'/\Q e s') fuel listed a w:=by
  intro fuel
  induction fuel with
  | zero=>
   intro listed g a w sl' j hj0 ⟨U0,hu,hI,hK,hs⟩;have hall:=B4 hu;refine ⟨?_,done listed g a w sl' j hall hI hK hs⟩;rw [List.eq_nil_iff_forall_not_mem]
   grind [mem_ready]
  | succ fuel ih=>
   intro listed g a w sl' j hj0 VD;exact ⟨λ hr=>done listed g a w sl' j (Dc VD.sz hord' hr) VD.inv VD.kn VD.st,λ i hi=>step fuel O listed g a w sl' j i (.inl hj0) hi VD⟩
 grind
theorem PAt.start {C:Cx}{ops:Array Oper}{S:fy}{fin:gf}{sl:List (Nat×AV)}{g:Gh}{a:Act}{w:World}(hb:fu sl (S.bas 0))(hs:St C.n C.w0 C.F g ⟨sl,S.obj 0⟩ a w) :
  PAt C ops S fin ops.size (Array.replicate ops.size false) g a w sl 0:=by
 refine ⟨by simp,?_,⟨ph _,λ i k hk=>?_,λ k o ho hk=>?_⟩,⟨λ i x hx=>pS hb i x hx,λ k p hk _=>?_⟩,hs⟩
 ·unfold unl;rw [List.filter_eq_self.2,List.length_range]
  simp_all
 ·constructor
  ·intro h;exfalso;rw [Array.getD_eq_getD_getElem?,Array.getElem?_replicate] at h
   grind
  grind
 ·exact Ni
 ·exact Ni
theorem Hy {C:Cx}{id:Nat}{ops:Array Oper}{Q:Exit->AS->Prop}{sl:List (Nat×AV)}{ob:List (Nat×List AV)}(S:fy)(hm:C.P.follows .mixedOrders=true)(Pn:S.imp.length=S.m)(hob:S.obj 0=ob)(hb:fu sl (S.bas 0))
  (hbas:∀ j,j<S.m->fu (trL (S.D j) (S.bas j)) (S.bas (j+1))) (hnd:nodupB S.imp=true) (hin:S.imp.all (λ i=>Nat.blt i ops.size)=true) (hch:chainB ops S.imp=true)
  (hord:(ops.toList.zipIdx.all λ p=>p.1.after.toList.all λ e=>!(Region.binds .any e)||Nat.blt e.on p.2)=true) (h:DS C ops S (λ rev=>Q .normal ⟨d4 rev S.m++S.bas S.m,S.obj S.m⟩) ops.toList 0 []):awp C (.region id ops true) Q ⟨sl,ob⟩:=by
 subst hob;intro g a w hs;obtain ⟨fin,hfin,hP⟩:=CG.mk' Pn hbas hnd hin hord h;refine wp_region_any hm ?_;refine (qp hP (AS.le_refl _) hfin 0 ?_).1 _ _ g a _ sl 0 (ph _) (PAt.start hb hs.drew);intro fuel listed g a w sl' j _ VD i q hi hq hjq;exfalso;obtain ⟨h1,o,ho,hafter⟩:=mem_ready.1 hi
 cases q with
 | zero=>omega
 | succ q=>
  have hql:q<S.imp.length:=by grind
  have hb:=nQ hch q S.imp[q] i o (List.getElem?_eq_getElem hql) hq ho;have h3:=nh VD.inv.2.2 4 o S.imp[q] hb hafter;have:=(VD.inv.2.1 q S.imp[q] (List.getElem?_eq_getElem hql)).1 h3;omega
def vu (imp:List Nat):gf->gf->Prop|(k,d,v)::r,(k',d',v')::r'=>(k=k'/\d=d'/\(imp.any (Nat.beq k)=true\/v 0=v' 0))/\vu imp r r'|[],[]=>True|_,_=>False
theorem vT {imp:List Nat}:∀ {r1 r2:gf},vu imp r1 r2->∀ k p,imp.any (Nat.beq k)=false->dH r2 k=some p->∃ v,dH r1 k=some (p.1,v)/\v 0=p.2 0
 | [],[],_,k,p,_,h=>by cases h
 | (k1,d1,v1)::r,(k2,d2,v2)::r',⟨⟨e1,e2,e3⟩,hr⟩,k,p,hk,h=>by
  subst e1 e2;simp only [dH] at h ⊢
  cases hb:Nat.beq k1 k
  ·rw [hb,cond_false] at h;rw [cond_false];exact vT hr k p hk h
  ·rw [hb,cond_true] at h
   cases h
   grind [Nat.eq_of_beq_eq_true]
 | [],_::_,h,_,_,_,_=>h.elim
 | _::_,[],h,_,_,_,_=>h.elim
theorem EI {C:Cx}{id:Nat}{ops:Array Oper}{Q:Exit->AS->Prop}{sl:List (Nat×AV)}{ob:List (Nat×List AV)}(S1 S2:fy){k1 k2:Nat}{r:List Nat}(hm:C.P.follows .mixedOrders=true)
  (hi1:S1.imp=k1::k2::r) (hi2:S2.imp=k2::k1::r) (hlen1:S1.imp.length=S1.m) (hlen2:S2.imp.length=S2.m) (hob1:S1.obj 0=ob) (hob2:S2.obj 0=ob) (hb:fu sl (S1.bas 0)) (hb2:S2.bas 0=S1.bas 0)
  (hbas1:∀ j,j<S1.m->fu (trL (S1.D j) (S1.bas j)) (S1.bas (j+1))) (hbas2:∀ j,j<S2.m->fu (trL (S2.D j) (S2.bas j)) (S2.bas (j+1)))
  (hnd:nodupB (k1::k2::r)=true) (hin:(k1::k2::r).all (λ i=>Nat.blt i ops.size)=true) (hch1:chainB ops (k1::r)=true) (hch2:chainB ops (k2::r)=true)
  (hord:(ops.toList.zipIdx.all λ p=>p.1.after.toList.all λ e=>!(Region.binds .any e)||Nat.blt e.on p.2)=true)
  (h:DS C ops S1 (λ rev1=>Q .normal ⟨d4 rev1 S1.m++S1.bas S1.m,S1.obj S1.m⟩/\DS C ops S2 (λ rev2=>(⟨d4 rev2 S2.m++S2.bas S2.m,S2.obj S2.m⟩:AS).le ⟨d4 rev1 S1.m++S1.bas S1.m,S1.obj S1.m⟩/\vu (k1::k2::r) rev1 rev2) ops.toList 0 []) ops.toList 0 []):awp C (.region id ops true) Q ⟨sl,ob⟩:=by
 intro g a w hs
 have hnd2:nodupB S2.imp=true:=by
  grind [nodupB,Nat.eq_of_beq_eq_true]
 have hin2:S2.imp.all (λ i=>Nat.blt i ops.size)=true:=by
  grind
 obtain ⟨fin1,⟨hf1,h2⟩,hP1⟩:=CG.mk' hlen1 hbas1 (by grind) (by grind) hord h;obtain ⟨fin2,⟨hf2,hag⟩,hP2⟩:=CG.mk' hlen2 hbas2 hnd2 hin2 hord h2
 -- behind the first change the others come in order
 have chain:∀ (x y:Nat) (S:fy),S.imp=x::y::r->chainB ops (y::r)=true->chainB ops (x::r)=true->∀ (listed:Array Bool) (j i q:Nat),H3 ops S listed j->i∈Region.ready .any ops listed->S.imp[q]? = some i->j<q->q=1/\j=0:=by
  intro x y S hS hcy hcx listed j i q hI hi hq hjq;obtain ⟨h1,o,ho,hafter⟩:=mem_ready.1 hi
  have use:∀ z zi,S.imp[z]? = some zi->pq ops 4 o zi=true->z<j:=by
   exact MY
  match q,hq,hjq with
  | 0,_,hjq=>omega
  | 1,_,hjq=>grind
  | q+2,hq,hjq=>
   exfalso;rw [hS] at hq;simp only [List.getElem?_cons_succ] at hq;have hql:q<r.length:=(List.getElem?_eq_some_iff.1 hq).1
   cases q with
   | zero=>
    have b1:=nQ hcy 0 y i o Z (by grind) ho;have:=use 1 y (by grind) b1
    grind
   | succ q=>
    have b1:=nQ hcy (q+1) r[q] i o (by grind) (by grind) ho;have:=use (q+2) r[q] (by grind) b1;omega
 have two:=qp hP2 hf2 hf1 1 (λ fuel listed g a w sl' j hj VD i q hi hq hjq=>by
  have:=chain k2 k1 S2 hi2 hch1 hch2 listed j i q VD.inv hi hq hjq; omega)
 refine wp_region_any hm ?_;refine (qp hP1 (AS.le_refl _) hf1 0 ?_).1 _ _ g a _ sl 0 (ph _) (PAt.start hb (by rw [hob1]; exact hs.drew));intro fuel listed g a w sl' j _ VD i q hi hq hjq;obtain ⟨rfl,rfl⟩:=chain k1 k2 S1 hi1 hch2 hch1 listed j i q VD.inv hi hq hjq;have U7:i=k2:=by grind
 subst U7
 have hno:∀ k,(k1::i::r).any (Nat.beq k)=true->listed.getD k false=false:=by
  intro k hk;obtain ⟨x,hx,hkx⟩:=List.any_eq_true.1 hk;have:=cl hkx;subst this;obtain ⟨z,hz⟩:=List.mem_iff_getElem?.1 hx;have:=VD.inv.2.1 z k (by grind)
  grind
 refine two.2 fuel listed g a w sl' 0 i (.inr ⟨bt _,by grind⟩) hi ⟨VD.sz,VD.un,⟨ph _,λ z k hz=>?_,VD.inv.2.2⟩,⟨λ z x hx=>VD.kn.1 z x (by grind),λ k p hk hp=>?_⟩,by rw [hob2,<- hob1]; exact VD.st⟩
 ·constructor
  ·intro hl
   have hmem:k∈(k1::i::r):=by
    have:=List.mem_of_getElem? hz;rw [hi2] at this;simp only [qr] at this ⊢
    grind
   rw [hno k (List.any_eq_true.2 ⟨k,hmem,by simp⟩)] at hl
   cases hl
  grind
 ·have hk':(k1::i::r).any (Nat.beq k)=false:=by
   exact Nf
  obtain ⟨v,hv1,hv2⟩:=vT hag k p hk' hp;have:=VD.kn.2 k _ hk hv1
  grind
theorem Lp (h:p:=by exact ⟨u,by grind,.p ((PRep.mono (w:=w) (w':=w.drew) (st:=g.st) (st':=g.st) (λ b o h=>⟨h,Z⟩) hr).mono U4)⟩):p:=h
def iP:List PV->List PV|[]=>[]|e::r=>e.cells++iP r
theorem oo:∀ (l q:List PV),iP (l++q)=iP l++iP q
 | [],q=>rfl
 | e::r,q=>by simp [iP,oo r q]
theorem mI {sz:Nat}:∀ {es:List PV},(∀ e∈es,e.cells.length=sz)->(iP es).length=es.length*sz
 | [],_=>by simp [iP]
 | e::r,h=>by
  have ih:=mI (sz:=sz) (es:=r) (λ x hx=>h x (by simp [hx]))
  grind [iP]
theorem sb {sz:Nat}:∀ {es:List PV},(∀ e∈es,e.cells.length=sz)->∀ (i:Nat) e (j:Nat) c,es[i]? = some e->e.cells[j]? = some c->(iP es)[i*sz+j]? = some c
 | [],_,i,e,j,c,h,_=>by simp at h
 | x::r,U0,i,e,j,c,h,hc=>by
  have hx:=U0 x G
  cases i with
  | zero=>
   grind [iP]
  | succ i=>
   simp only [List.getElem?_cons_succ] at h;have ih:=sb (λ x hx=>U0 x (by simp [hx])) i e j c h hc
   grind [iP]
theorem HB {sz:Nat}(h0:0<sz){es:List PV}(U0:∀ e∈es,e.cells.length=sz){k:Nat}{c:PV}(h:(iP es)[k]? = some c) :
  ∃ e,es[k / sz]? = some e/\e.cells[k%sz]? = some c/\k / sz*sz+k%sz=k:=by
 have hk:k<es.length*sz:=by grind [mI]
 grind [Nat.div_lt_iff_lt_mul,Nat.mod_lt,Nat.div_add_mod,sb]
section
variable {C:Cx} {o:Oper} {K:AS->Prop} {sl:List (Nat×AV)} {ob:List (Nat×List AV)} {d:Nat}
theorem zo {w:World}{st:Nat->Nat->Prop}{sz:Nat}(h0:0<sz){ys:List PV}{news:List Value}(U0:∀ y∈ys,y.cells.length=sz)
  (hnews:∀ (i:Nat) y (j:Nat) c,ys[i]? = some y->y.cells[j]? = some c->c.one=true/\∃ u,news[i*sz+j]? = some u/\PRep w st c u) :
  ∀ (k:Nat) c,(iP ys)[k]? = some c->∃ u,news[k]? = some u/\PRep w st c u:=by
 grind [HB]
theorem Ig {es ys:List PV}{t tx e e':TypeId}{i ie j:TI}{y:Operand}{Y0z:AV}(D:Nat->Bool)(hDl:∀ i,D i=true->i<M1)(hDd:D d=true)
  (hi:look C.tt t=some i) (U7:i.k=.slice e) (hie:look C.tt e=some ie) (hj:look C.tt tx=some j) (hjk:j.k=.slice e')
  (hy:evo sl y=some Y0z) (hY:Y0z.elems? = some ys) (U0:∀ y∈ys,y.cells.length=ie.size) (hse:∀ y∈es,y.cells.length=ie.size) (h0:0<ie.size) (hzl:ie.zero.length=ie.size)
  (Pn:(es.length+ys.length)*ie.bytes<=140737488355328) (hlen':es.length+ys.length<=9223372036854775807)
  {g:Gh} {a:Act} {w:World} (hs:St C.n C.w0 C.F g ⟨sl,ob⟩ a w) (base:Option Addr) (cap:Nat) (olds:List Value)
  (hold:(Builtin.firstCells ie.size es.length (.slice base es.length cap)).run C.P w.drew=.ok olds.toArray w.drew) (hol:olds.length=es.length*ie.size)
  (hoc:∀ (i:Nat) x,(iP es)[i]? = some x->∃ u,olds[i]? = some u/\PRep w g.st x u)
  (hg:cap<es.length+ys.length) (ty:TypeId) (hn:Nat.blt d C.n=true) :
  ∃ v w' g',(Builtin.append_ #[t,tx] ty #[.slice base es.length cap,a.eval y]).run C.P w=.ok v w' /\
   St C.n C.w0 C.F g' ⟨(d,.arr d ie.size 0 (es.length+ys.length))::(cW D ⟨sl,ob⟩).sl,(d,(iP (es++ys)).map .p)::(cW D ⟨sl,ob⟩).ob⟩ (a.put (some d) v) w':=by
 obtain ⟨u,h1,h2⟩:=bU C.good hi;have h3:=cu (h2.trans U7);subst h3;obtain ⟨u',h1',h2'⟩:=bU C.good hj;have h3':=cu (h2'.trans hjk);subst h3';obtain ⟨info,hf1,hf2,hf3,z,hf4,hf5⟩:=kg C.good hie;have hyv:=lj hY (bN hs hy);obtain ⟨news,hsrc,hnews⟩:=Fj (P:=C.P) (sz:=ie.size) h1' hyv U0 h0;have hnf:=zo h0 U0 hnews;have hfit:=growslice_fits (bytes:=ie.bytes) hg Pn;have hrun:=run_append_grow_src w t tx ty e info z h1 hf1 hf4 base es.length cap olds (by grind) (a.eval y) ys.length news (by grind) hg O (by grind);obtain ⟨q,hq⟩:∃ q,q=grownCap w (es.length+ys.length) cap e:=⟨_,rfl⟩
 rw [<- hq] at hrun
 have hqn:es.length+ys.length<=q:=by
  grind [grownCap,Question.cut]
 have hzs:z.cells.size=ie.size:=by grind
 have hnl:news.length=ys.length*ie.size:=hsrc.newsLen;obtain ⟨c,hc⟩:∃ c,c=(olds++news).toArray++Builtin.zeroCells z.cells (q-(es.length+ys.length)):=⟨_,rfl⟩
 rw [<- hc] at hrun
 have U9:c.size=q*ie.size:=by
  exact D7
 have hfl:(iP (es++ys)).length=(es.length+ys.length)*ie.size:=by
  grind [mI,List.length_append]
 have hqm:(es.length+ys.length)*ie.size<=q*ie.size:=Nat.mul_le_mul_right _ hqn;have hf:=hs.drew.fresh D hDl d hDd (λ _=>False) c e
 have hp:=hf.put (d:=some d) (λ t ht=>by simp_all) (x:=.arr d ie.size 0 (es.length+ys.length)) (v:=.slice (some ⟨w.drew.heap.size,0,none⟩) (es.length+ys.length) q)
  (.arr G gP O hqn)
 have U4:=o9 (w:=w.drew) (T:=λ _=>False) (ob:=.cells c e) hs.drew.lt
 have hob:=hp.addOb (d:=d) (cs:=(iP (es++ys)).map .p) (by
  refine ⟨w.drew.heap.size,c,e,by simp,gP,by grind,λ o ho=>?_,λ i x hx=>?_⟩
  ·rcases ho with ho|⟨_,ho⟩
   ·exact absurd (hs.lt _ _ ho) (Nat.lt_irrefl _)
   ·exact ho
  ·simp only [List.getElem?_map,ro] at hx;obtain ⟨y,hy,rfl⟩:=hx;have hil:i<(iP (es++ys)).length:=(List.getElem?_eq_some_iff.1 hy).1;rw [hfl,Nat.add_mul] at hil
   have hget:c[i]? = if i<es.length*ie.size then olds[i]? else news[i-es.length*ie.size]?:=by
    grind
   rw [oo,List.getElem?_append,mI hse] at hy;split at hy
   ·rename_i hlt;obtain ⟨u,hu,hr⟩:=hoc i y hy;exact Lp
   ·rename_i hge;obtain ⟨u,hu,hr⟩:=hnf (i-es.length*ie.size) y hy
    exact Lp)
 exact ⟨_,_,_,hrun,hob⟩
theorem SP {t tx e e':TypeId}{x y:Operand}{k sz:Nat}{es:List PV}{n:Nat}{Y0z:AV}{ys:List PV}{i ie j:TI}(ho:o.op=.call { callee:=.builtin .append,args:=#[x,y],argTypes:=#[t,tx] })(hd:o.dst=some d)(hn:Nat.blt d C.n=true)
  (hi:look C.tt t=some i) (U7:i.k=.slice e) (hie:look C.tt e=some ie) (hj:look C.tt tx=some j) (hjk:j.k=.slice e') (hx:evo sl x=some (.arr k sz 0 n)) (hk:Nat.blt k M1=true) (hob:look ob k=some ((iP es).map .p)) (hnl:n=es.length)
  (hy:evo sl y=some Y0z) (hY:Y0z.elems? = some ys) (U0:∀ y∈ys,y.cells.length=ie.size) (hse:∀ y∈es,y.cells.length=ie.size) (h1s:ie.size=sz) (h0:Nat.blt 0 ie.size=true) (hzl:Nat.beq ie.zero.length ie.size=true)
  (Pn:(es.length+ys.length)*ie.bytes<=140737488355328) (hlen':es.length+ys.length<=9223372036854775807)
  (hK:K ⟨(d,.arr d sz 0 (es.length+ys.length))::(cW (λ i=>Nat.beq i k||Nat.beq i d) ⟨sl,ob⟩).sl,(d,(iP (es++ys)).map .p)::(cW (λ i=>Nat.beq i k||Nat.beq i d) ⟨sl,ob⟩).ob⟩):bu C o K ⟨sl,ob⟩:=by
 subst hnl h1s;have h0':0<ie.size:=by simp_all
 have hzl':=cl hzl;have hk':k<M1:=Nat.blt_eq ▸ hk;have hdl:d<M1:=by have h1:=Nat.le_of_ble_eq_true C.nl; grind [Nat.blt_eq]
 have hDl:∀ i,(Nat.beq i k||Nat.beq i d)=true->i<M1:=by
  simp_all
 have hfl0:(iP es).length=es.length*ie.size:=mI hse
 have hfl:(iP (es++ys)).length=es.length*ie.size+ys.length*ie.size:=by
  grind [oo,mI]
 intro g a w hs;have hxr:=bN hs hx;generalize hxv:a.eval x=xv at hxr
 have hrun0:∀ v w',(Builtin.append_ #[t,tx] o.type #[xv,a.eval y]).run C.P w=.ok v w'->(execOp a.eval o).run C.P w=.ok (.value v) w':=by
  exact EL
 cases hxr with
 | arr how hb U9 hn'=>
  rename_i b cap c e0;obtain ⟨b',c1,e1,k1,k2,k3,k4,k5⟩:=hs.ob k _ hob;rw [how] at k1; cases k1;rw [hb] at k2; cases k2;simp only [Nat.zero_add] at U9
  have U6:∀ (i:Nat) x,(iP es)[i]? = some x->∃ u,c[i]? = some u/\PRep w g.st x u:=by
   intro i x hx;obtain ⟨u,hu,hr⟩:=k5 i (.p x) (by simp [hx])
   cases hr with|p hr=>grind
  by_cases hroom:es.length+ys.length<=cap
  ·obtain ⟨u,h1,h2⟩:=bU C.good hi;have h3:=cu (h2.trans U7);subst h3;obtain ⟨u',h1',h2'⟩:=bU C.good hj;have h3':=cu (h2'.trans hjk);subst h3';obtain ⟨info,hf1,hf2,hf3,z,hf4,hf5⟩:=kg C.good hie;have hyv:=lj hY (bN hs hy);obtain ⟨news,hsrc,hnews⟩:=Fj (P:=C.P) (sz:=ie.size) h1' hyv U0 h0';have hnf:=zo h0' U0 hnews;have hnl:news.length=ys.length*ie.size:=hsrc.newsLen;have hrm:es.length*ie.size+ys.length*ie.size<=cap*ie.size:=by rw [<- Nat.add_mul]; exact Nat.mul_le_mul_right _ hroom
   have hstc:=run_storeCells_at C.P b (es.length*ie.size) e0 news 0 c w hb jW hsrc.one;simp only [Nat.add_zero] at hstc;obtain ⟨c',hc'⟩:∃ c',c'=(c.toList.take (es.length*ie.size)++news++c.toList.drop (es.length*ie.size+news.length)).toArray:=⟨_,rfl⟩
   rw [<- hc'] at hstc;have hrr:=vC t tx o.type e info h1 hf1 b es.length cap (a.eval y) ys.length news (by rw [hf2]; exact hsrc) hroom (by rw [hf2]; exact hstc)
   have hcell':∀ j,c'[j]? = if es.length*ie.size<=j/\j<es.length*ie.size+news.length then news[j-es.length*ie.size]? else c[j]?:=by
    intro j;rw [hc'];have:=mJ c.toList news (es.length*ie.size) jW j
    grind
   have hcs':c'.size=cap*ie.size:=by grind
   have hin:=hs.inplace (λ i=>Nat.beq i k||Nat.beq i d) hDl (k:=k) (d:=d) how G G  hb (c':=c') (hcs'.trans U9.symm) (λ o h=>absurd h (k4 o)) (λ _=>False) (λ o h=>k4 o h)
   have hp:=hin.put (d:=some d) (λ t ht=>by simp_all) (x:=.arr d ie.size 0 (es.length+ys.length)) (v:=.slice (some ⟨b,0,none⟩) (es.length+ys.length) cap)
    (.arr G (setRow_heap w b c c' e0 (0,0) hb) O hroom)
   have hEv:Ev w g.st (w.setRow b c') (λ b' o=>(b'=b/\False)\/(b'≠b/\g.st b' o)):=by
    intro b' o h
    grind [World.cell?,setRow_other]
   have hfin:=hp.addOb (d:=d) (cs:=(iP (es++ys)).map .p) (by
    refine ⟨b,c',e0,by simp,setRow_heap w b c c' e0 (0,0) hb,by grind,λ o ho=>?_,λ i x hx=>?_⟩
    ·grind
    ·simp only [List.getElem?_map,ro] at hx;obtain ⟨y,hy,rfl⟩:=hx;have hil:i<(iP (es++ys)).length:=(List.getElem?_eq_some_iff.1 hy).1;rw [oo,List.getElem?_append,hfl0] at hy;split at hy
     ·rename_i hlt;obtain ⟨u,hu,hr⟩:=U6 i y hy;exact ⟨u,by grind,.p (hr.mono hEv)⟩
     ·rename_i hge;obtain ⟨u,hu,hr⟩:=hnf (i-es.length*ie.size) y hy
      exact ⟨u,by grind,.p (hr.mono hEv)⟩)
   grind [Oper.wp,Oper.upon]
  ·have hlenT:(c.toList.take (es.length*ie.size)).length=es.length*ie.size:=by
    grind
   have hold:(Builtin.firstCells ie.size es.length (.slice (some ⟨b,0,none⟩) es.length cap)).run C.P w.drew=.ok (c.toList.take (es.length*ie.size)).toArray w.drew:=by
    grind [run_firstCells_some,add_lit,World.cell?_drew,World.cell?]
   obtain ⟨v,w',g',hr',hst'⟩:=Ig (es:=es) (λ i=>Nat.beq i k||Nat.beq i d) hDl G hi U7 hie hj hjk hy hY U0 hse h0' hzl' Pn hlen' hs (some ⟨b,0,none⟩) cap (c.toList.take (es.length*ie.size))
    hold hlenT (λ i x hx=>by
     grind) O o.type hn
   grind [Oper.wp,Oper.upon]
end
theorem St.freezeM {n:Nat}{w0:Base}{w:World}{F:Nat->Prop}{g:Gh}{sl:List (Nat×AV)}{ob:List (Nat×List AV)}{a:Act}(hs:St n w0 F g ⟨sl,ob⟩ a w){k sz:Nat}{es:List PV}{j:Nat}
  (hk:k<M1) (h0:0<sz) (hob:look ob k=some ((iP es).map .p)) (hj:look sl j=some (.arr k sz 0 es.length)) (U0:∀ x∈es,x.cells.length=sz) (Vh:∀ x∈es,∀ c∈x.cells,c.one=true) :
  ∃ g',St n w0 F g' ⟨(j,.p (.slice es))::(cW (λ i=>Nat.beq i k) ⟨sl,ob⟩).sl,(cW (λ i=>Nat.beq i k) ⟨sl,ob⟩).ob⟩ a w:=by
 obtain ⟨b,c,e,k1,k2,k3,k4,k5⟩:=hs.ob k _ hob;have hfl:(iP es).length=es.length*sz:=mI U0;have hlt:b<w.heap.size:=(hs.own k b k1).1
 have keyD:∀ i b',Nat.beq i k=false->g.ow i=some b'->b'≠b:=λ i b' hD hi e=>by
  exact Fa
 have U4:Ev w g.st w (λ b' o=>g.st b' o\/(b'=b/\o<es.length*sz)):=λ b' o h=>⟨.inl h,Z⟩
 have hs':=hs.evolve (λ i=>Nat.beq i k) (λ i hi=>by simp_all) (g':=⟨λ b' o=>g.st b' o\/(b'=b/\o<es.length*sz),λ i=>if Nat.beq i k then none else g.ow i⟩) U4 (λ id b' hD h=>⟨by grind,Z,(by grind)⟩)
  (λ i j b h1 h2=>by
   dsimp only at h1 h2;split at h1
   ·cases h1
   ·split at h2
    ·cases h2
    ·exact hs.inj i j b h1 h2) (λ i b h=>by
   dsimp only at h;split at h
   ·cases h
   ·exact hs.own i b h) (λ b' o h=>by
   rcases h with h|⟨rfl,_⟩
   ·exact hs.lt b' o h
   grind) (λ b h=>rfl) Z Z Z (bt _) (λ b' hb' o=>⟨λ h=>h.resolve_right λ h'=>(hs.own k b k1).2 (h'.1 ▸ hb'),.inl⟩) (λ i hi=>by
    grind [Nat.eq_of_beq_eq_true])
 refine ⟨_,{ hs' with sl:=λ i=>?_,ob:=hs'.ob }⟩;simp only [AS.get,aZ];by_cases e1:j=i
 ·subst e1;simp only [if_true,Option.getD_some];have h0':=hs.sl j;simp only [AS.get,hj,Option.getD_some] at h0';generalize a.tmps.getD j Go.undef=v at h0'
  cases h0' with
  | arr how hb U9 hn=>
   rw [k1] at how; cases how;rw [k2] at hb; cases hb;refine .p (.slice sz (λ i j=>c.getD (i*sz+j) Go.undef) hn U0 Vh (λ i x j y hx hy=>?_) (λ i x j y hx hy=>?_))
   ·have hg:=sb U0 i x j y hx hy;have hi:=(List.getElem?_eq_some_iff.1 hg).1;have hci:i*sz+j<c.size:=by grind
    simp_all [World.cell?]
   ·have hg:=sb U0 i x j y hx hy;obtain ⟨u,hu,hr⟩:=k5 (i*sz+j) (.p y) (by simp [hg]);exact D6
 ·rw [if_neg e1];exact hs'.sl i
theorem St.settleO {n:Nat}{w0:Base}{w:World}{F:Nat->Prop}{g:Gh}{sl:List (Nat×AV)}{ob:List (Nat×List AV)}{a:Act}(hs:St n w0 F g ⟨sl,ob⟩ a w){k:Nat}{cs:List PV}{j:Nat}
  (hk:k<M1) (hob:look ob k=some (cs.map .p)) (hj:look sl j=some (.ptr k 0)) :
  ∃ g',St n w0 F g' ⟨(j,.rptr cs)::(cW (λ i=>Nat.beq i k) ⟨sl,ob⟩).sl,(cW (λ i=>Nat.beq i k) ⟨sl,ob⟩).ob⟩ a w:=by
 obtain ⟨b,c,e,k1,k2,k3,k4,k5⟩:=hs.ob k _ hob;have hlt:b<w.heap.size:=(hs.own k b k1).1
 have keyD:∀ i b',Nat.beq i k=false->g.ow i=some b'->b'≠b:=λ i b' hD hi e=>by
  exact Fa
 have U4:Ev w g.st w (λ b' o=>g.st b' o\/(b'=b/\o<cs.length)):=λ b' o h=>⟨.inl h,Z⟩
 have hs':=hs.evolve (λ i=>Nat.beq i k) (λ i hi=>by simp_all) (g':=⟨λ b' o=>g.st b' o\/(b'=b/\o<cs.length),λ i=>if Nat.beq i k then none else g.ow i⟩) U4 (λ id b' hD h=>⟨by grind,Z,(by grind)⟩)
  (λ i j b h1 h2=>by
   dsimp only at h1 h2;split at h1
   ·cases h1
   ·split at h2
    ·cases h2
    ·exact hs.inj i j b h1 h2) (λ i b h=>by
   dsimp only at h;split at h
   ·cases h
   ·exact hs.own i b h) (λ b' o h=>by
   rcases h with h|⟨rfl,_⟩
   ·exact hs.lt b' o h
   grind) (λ b h=>rfl) Z Z Z (bt _) (λ b' hb' o=>⟨λ h=>h.resolve_right λ h'=>(hs.own k b k1).2 (h'.1 ▸ hb'),.inl⟩) (λ i hi=>by
    grind [Nat.eq_of_beq_eq_true])
 refine ⟨_,{ hs' with sl:=λ i=>?_,ob:=hs'.ob }⟩;simp only [AS.get,aZ];by_cases e1:j=i
 ·subst e1;simp only [if_true,Option.getD_some];have h0':=hs.sl j;simp only [AS.get,hj,Option.getD_some] at h0';generalize a.tmps.getD j Go.undef=v at h0'
  cases h0' with
  | ptr how=>
   rw [k1] at how; cases how;refine .rptr (λ j=>c.getD j Go.undef) (λ j y hy=>?_) (λ j y hy=>?_)
   ·have hi:=(List.getElem?_eq_some_iff.1 hy).1;have hci:j<c.size:=by grind
    simp_all [World.cell?]
   ·obtain ⟨u,hu,hr⟩:=k5 j (.p y) (by simp [hy]);exact D6
 ·rw [if_neg e1];exact hs'.sl i
theorem yJ {C:Cx}{sl:List (Nat×AV)}{ob:List (Nat×List AV)}(j:Nat){k:Nat}{cs:List PV}(hj:look sl j=some (.ptr k 0))(hk:Nat.blt k M1=true)(hob:look ob k=some (cs.map .p)) :
  cN C ⟨sl,ob⟩ ⟨(j,.rptr cs)::(cW (λ i=>Nat.beq i k) ⟨sl,ob⟩).sl,(cW (λ i=>Nat.beq i k) ⟨sl,ob⟩).ob⟩ :=
 λ _ _ _ hs=>hs.settleO (Nat.blt_eq ▸ hk) hob hj
def ip (P:Program)(f:FuncId)(args:List AV)(R:AV->Prop):Prop :=∀ (w:World) (st:Nat->Nat->Prop) (vs:Array Value),Ok0 w st->vs.size=args.length -> (∀ (i:Nat) c v,args[i]? = some c->vs[i]? = some v->ARep w ⟨st,λ _=>none⟩ c v) -> Calls P f vs w λ e w'=>∃ v r g',e=.returned v/\R r/\ARep w' g' r v/\After w st w' g'
theorem ip.of_sub {P:Program}{f:FuncId}{args:List AV}{r:AV}(h:ip P f args (λ x=>x.sub r)):ip P f args (·=r) :=
 λ w st vs h0 h1 h2=>(h w st vs h0 h1 h2).mono λ e w' ⟨v,_,g',h3,h4,h5,h6⟩=>⟨v,r,g',h3,Z,h4 _ _ _ h5,h6⟩
theorem bA.q {P:Program}{f:FuncId}{args:List PV}{R:AV->Prop}(h:bA P f args R):ip P f (args.map .p) R:=by
 intro w st vs h0 h1 h2;refine h w st vs h0 (by grind) λ i c v hc hv=>?_;have:=h2 i (.p c) v (by simp [hc]) hv;exact Ao
theorem tE {P:Program}{tt:List (Nat×TI)}(good:dp P tt){f:FuncId}{fn:Func}{c:Code}{args:List AV}{r:AV}(hf:P.funcs[f]? = some fn)(hb:fn.body=some c)(hn:Nat.ble args.length fn.ntmps=true)(hnl:Nat.ble fn.ntmps M1=true)
  (h:∀ w0,awp ⟨P,tt,good,fn.ntmps,hnl,w0,λ b=>b<w0.w.heap.size⟩ c (zJ tt fn (λ x=>x.sub r)) ⟨gR args,[]⟩):ip P f args (·=r):=by
 refine ip.of_sub ?_;intro w st vs h0 h1 h2;refine calls_of_wp hf hb ?_;have hn:=Nat.le_of_ble_eq_true hn
 have hs:St fn.ntmps ⟨w,st,λ _=>none,h0.gl,(λ _ _ h=>nomatch h),[]⟩ (λ b=>b<w.heap.size) ⟨st,λ _=>none⟩ ⟨gR args,[]⟩ { tmps:=vs++Array.replicate (fn.ntmps-vs.size) Go.undef,defers:=[] } w:=by
  refine ⟨rfl,?_,?_,?_,?_,?_,?_,?_,?_,rfl,rfl,rfl,bt _,λ b _ o=>Iff.rfl,λ _ _ _=>rfl,kS.refl _ _,λ i b _ h=>(by cases h),Ev.refl _ _⟩
  ·grind
  ·exact KP
  ·grind [look]
  ·grind
  ·grind
  ·intro b o h; exact h0.lt b o h
  ·grind
  grind
 exact NR
section
variable {C:Cx} {o:Oper} {K:AS->Prop} {sl:List (Nat×AV)} {ob:List (Nat×List AV)} {d:Nat}
theorem vX {f:FuncId}{q:List AV}{vs:Array Value}{R:AV->Prop}{g:Gh}{a:Act}{w:World}(hs:St C.n C.w0 C.F g ⟨sl,ob⟩ a w)(hc:ip C.P f q R)(hd:o.dst=some d)(hn:Nat.blt d C.n=true)
  (U0:vs.size=q.length) (hargs:∀ (i:Nat) c v,q[i]? = some c->vs[i]? = some v->ARep w ⟨g.st,λ _=>none⟩ c v) (hrun:(execOp a.eval o).run C.P w=.ok (.enter f vs) w)
  (hK:∀ r,R r->∃ r',r.settle=some r'/\K ⟨(d,r')::sl,ob⟩):o.wp C.P a w (λ a' w'=>∃ g' s',St C.n C.w0 C.F g' s' a' w'/\K s') (λ _ _ _=>False):=by
 have hcall:=hc w g.st vs hs.ok0 U0 hargs;unfold Oper.wp;rw [hrun];simp only [Oper.upon];refine hcall.mono λ e w' ⟨v,r,g',he,hR,hr,hA⟩=>?_;subst he;obtain ⟨r',hr',hK'⟩:=hK r hR;exact Md
theorem Ro {n:Nat}{w0:Base}{w:World}{F:Nat->Prop}{g:Gh}{a:Act}(hs:St n w0 F g ⟨sl,ob⟩ a w){args:Array Operand}{l l' q:List AV}(hl:kM sl args.toList=some l)(hl':AV.mapA.go (λ _=>none) l=some l')(hq:qB l' q) :
  (args.map a.eval).size=q.length/\∀ (i:Nat) c v,q[i]? = some c->(args.map a.eval)[i]? = some v->ARep w ⟨g.st,λ _=>none⟩ c v:=by
 obtain ⟨a1,a2⟩:=lf hs _ l hl;obtain ⟨m1,m2⟩:=sf hl';obtain ⟨b1,b2⟩:=oU hq;refine ⟨by grind,λ i c v hc hv=>?_⟩;have hi':i<l'.length:=by grind
 have hi:i<l.length:=by omega
 have hv':(args.toList.map a.eval)[i]? = some v:=by grind
 have h1:=a2 i _ v (List.getElem?_eq_getElem hi) hv';have h2:=nD (g:=g) (g':=⟨g.st,λ _=>none⟩) rfl (λ i j b h _=>by cases h) h1 (m2 i _ _ (List.getElem?_eq_getElem hi) (List.getElem?_eq_getElem hi'));exact b2 i _ c (List.getElem?_eq_getElem hi') hc w _ v h2
theorem qh {f:FuncId}{args:Array Operand}{ts:Array TypeId}{l l' q:List AV}{r r':AV}(hc:ip C.P f q (·=r))(ho:o.op=.call { callee:=.value (.func f),args:=args,argTypes:=ts })
  (hd:o.dst=some d) (hn:Nat.blt d C.n=true) (hl:kM sl args.toList=some l) (hl':AV.mapA.go (λ _=>none) l=some l') (hq:qB l' q) (henter:∀ vs w,(callFunc f vs).run C.P w=.ok (.enter f vs) w)
  (hr:r.settle=some r') (hK:K ⟨(d,r')::sl,ob⟩):bu C o K ⟨sl,ob⟩:=by
 intro g a w hs;obtain ⟨h1,h2⟩:=Ro hs hl hl' hq;exact vX hs hc hd hn h1 h2 (by grind [execOp,resolve,Act.eval,Deferred.ofValue,invoke]) λ _ e=>e ▸ ⟨r',hr,hK⟩
theorem nF {F:FuncId}{caps:List AV}{t:Nat}{args:Array Operand}{ts:Array TypeId}{l l' q:List AV}{r r':AV}(hc:ip C.P F (q++caps) (·=r))(ho:o.op=.call { callee:=.value (.tmp t),args:=args,argTypes:=ts })
  (hd:o.dst=some d) (hn:Nat.blt d C.n=true) (hf:evo sl (.tmp t)=some (.func (.func F) caps)) (hcl:AV.mapA.go (λ _=>none) caps=some caps) (hl:kM sl args.toList=some l) (hl':AV.mapA.go (λ _=>none) l=some l') (hq:qB l' q)
  (henter:∀ vs w,(callFunc F vs).run C.P w=.ok (.enter F vs) w)
  (hr:r.settle=some r') (hK:K ⟨(d,r')::sl,ob⟩):bu C o K ⟨sl,ob⟩:=by
 intro g a w hs;obtain ⟨h1,h2⟩:=Ro hs hl hl' hq;have hfr:=bN hs hf;generalize hv:a.eval (.tmp t)=v at hfr
 cases hfr with
 | func U9 hcr=>
  rename_i vs;obtain ⟨m1,m2⟩:=sf hcl;refine vX hs (vs:=args.map a.eval++vs) hc hd hn (by grind) (λ i c v hc hv=>?_) (by grind [execOp,resolve,Deferred.ofValue,invoke]) λ _ e=>e ▸ ⟨r',hr,hK⟩
  grind [nD]
theorem vR {F:FuncId}{caps:Array Operand}{l:List AV}(ho:o.op=.makeFunc (.func F) #[] caps)(hd:o.dst=some d)(hn:Nat.blt d C.n=true)(hl:kM sl caps.toList=some l)
  (hK:K ⟨(d,.func (.func F) l)::sl,ob⟩):bu C o K ⟨sl,ob⟩:=by
 refine ok_one hd hn (λ g a w hs=>?_) hK;obtain ⟨a1,a2⟩:=lf hs _ l hl;refine ⟨.func (.func F) #[] (caps.map a.eval),by simp [execOp,ho,Instr.makeFunc],.func (by grind) λ i c v hc hv=>a2 i c v hc (by grind)⟩
end
end Go.Ab
namespace Go.Ab
def by2 {α:Type}(a b:α):Nat->α|0=>a|_+1=>b
def by3 {α:Type}(a b c:α):Nat->α|0=>a|1=>b|_+2=>c
def by4 {α:Type}(a b c e:α):Nat->α|0=>a|1=>b|2=>c|_+3=>e
def by5 {α:Type}(a0 a1 a2 a3 a4:α):Nat->α|0=>a0|1=>a1|2=>a2|3=>a3|_+4=>a4
theorem Rj {p:Nat->Prop}(h0:p 0)(h1:∀ j,p (j+1)):∀ j,p j
 | 0=>h0
 | j+1=>h1 j
theorem SS {p:Nat->Prop}(h0:p 0)(h1:p 1)(h2:∀ j,p (j+2)):∀ j,p j
 | 0=>h0
 | 1=>h1
 | j+2=>h2 j
theorem Cn {p:Nat->Prop}(h0:p 0)(h1:p 1)(h2:p 2)(h3:∀ j,p (j+3)):∀ j,p j
 | 0=>h0
 | 1=>h1
 | 2=>h2
 | j+3=>h3 j
theorem all5 {p:Nat->Prop}(h0:p 0)(h1:p 1)(h2:p 2)(h3:p 3)(h4:∀ j,p (j+4)):∀ j,p j
 | 0=>h0
 | 1=>h1
 | 2=>h2
 | 3=>h3
 | j+4=>h4 j
theorem lt1 {p:Nat->Prop}(h0:p 0):∀ j,j<1->p j
 | 0,_=>h0
 | j+1,h=>absurd h O
theorem lt2 {p:Nat->Prop}(h0:p 0)(h1:p 1):∀ j,j<2->p j
 | 0,_=>h0
 | 1,_=>h1
 | j+2,h=>absurd h O
theorem lt3 {p:Nat->Prop}(h0:p 0)(h1:p 1)(h2:p 2):∀ j,j<3->p j
 | 0,_=>h0
 | 1,_=>h1
 | 2,_=>h2
 | j+3,h=>absurd h O
theorem lt4 {p:Nat->Prop}(h0:p 0)(h1:p 1)(h2:p 2)(h3:p 3):∀ j,j<4->p j
 | 0,_=>h0
 | 1,_=>h1
 | 2,_=>h2
 | 3,_=>h3
 | j+4,h=>absurd h O
def Stg (C:Cx)(ops:Array Oper)(S:fy)(o:Oper)(k:Nat)(rev:gf)(d:Nat)(v:Nat->AV):Nat->Prop|0=>True|j+1=>(pA ops S.imp o k j=true->∃ kn,KnS (S.bas j) o rev j kn/\rx C ops (S.obj j) o kn d (v j))/\Stg C ops S o k rev d v j
section
variable {C:Cx} {ops:Array Oper} {S:fy} {K:gf->Prop} {o:Oper} {k:Nat} {rev:gf} {d:Nat} {v:Nat->AV}
theorem j7:Stg C ops S o k rev d v 0:=trivial
theorem ga {j:Nat}(h:pA ops S.imp o k j=false)(r:Stg C ops S o k rev d v j):Stg C ops S o k rev d v (j+1):=⟨λ h'=>(Bool.noConfusion (h.symm.trans h')),r⟩
theorem fX {j:Nat}(kn:List (Nat×AV))(h1:KnS (S.bas j) o rev j kn)(h2:rx C ops (S.obj j) o kn d (v j))(r:Stg C ops S o k rev d v j):Stg C ops S o k rev d v (j+1):=⟨λ _=>⟨kn,h1,h2⟩,r⟩
theorem Fe:∀ {m:Nat},Stg C ops S o k rev d v m->∀ j,j<m->pA ops S.imp o k j=true->∃ kn,KnS (S.bas j) o rev j kn/\rx C ops (S.obj j) o kn d (v j)
 | 0,_,j,h,_=>absurd h (Nat.not_lt_zero _)
 | m+1,hm,j,h,ha=>by
  by_cases e:j=m
  ·subst e; exact hm.1 ha
  ·exact Fe hm.2 j O ha
theorem kQ {rest:List Oper}(v:Nat->AV)(hk:S.imp.findIdx? (Nat.beq k)=none)(hd:o.dst=some d)(hf:(rev.all λ p=>!(Nat.beq p.2.1 d))=true)(hb:∀ j,look (S.bas j) d=none)(hv:∀ j,j<S.m->v (j+1)=trA (S.D j) (v j))
  (hs:Stg C ops S o k rev d v (S.m+1)) (h:DS C ops S K rest (k+1) ((k,d,v)::rev)):DS C ops S K (o::rest) k rev:=by
 unfold DS;rw [hk];exact ⟨d,v,hd,hf,hb,λ j hj _=>hv j hj,λ j hj ha=>Fe hs j O ha,h⟩
theorem pu {rest:List Oper}(v:Nat->AV)(hk:S.imp.findIdx? (Nat.beq k)=none)(hd:o.dst=some d)(hf:(rev.all λ p=>!(Nat.beq p.2.1 d))=true)(hb:∀ j,look (S.bas j) d=none)(hv:∀ j,j<S.m->loB ops S.imp o j=true->v (j+1)=trA (S.D j) (v j))
  (hs:Stg C ops S o k rev d v (S.m+1)) (h:DS C ops S K rest (k+1) ((k,d,v)::rev)):DS C ops S K (o::rest) k rev:=by
 unfold DS;rw [hk];exact ⟨d,v,hd,hf,hb,hv,λ j hj ha=>Fe hs j O ha,h⟩
theorem nl {b:Bool}{p:Prop}(hb:b=false)(h:b=true):p:=Bool.noConfusion (hb.symm.trans h)
theorem rI {rest:List Oper}{i:Nat}(v:Nat->AV)(kn:List (Nat×AV))(hk:S.imp.findIdx? (Nat.beq k)=some i)(hkn:KnS (S.bas i) o rev i kn)(hd:o.dst=some d)(hf:(rev.all λ p=>!(Nat.beq p.2.1 d))=true)(hb:∀ j,look (S.bas (j+(i+1))) d=none)
  (hv:∀ j,j<S.m->i<j->v (j+1)=trA (S.D j) (v j))
  (Va:∀ sl,(∀ i x,look kn i=some x->look sl i=some x)->∀ K:AS->Prop,K ⟨(d,v (i+1))::trL (S.D i) sl,S.obj (i+1)⟩->One C ops o K ⟨sl,S.obj i⟩) (h:DS C ops S K rest (k+1) ((k,d,v)::rev)):DS C ops S K (o::rest) k rev:=by
 unfold DS;rw [hk];exact ⟨kn,hkn,.inl ⟨d,v,hd,hf,λ j hj=>by have:=hb (j-(i+1)); grind,λ j h1 h2=>hv j h2 h1,Va,h⟩⟩
theorem kG {rest:List Oper}{i:Nat}(kn:List (Nat×AV))(hk:S.imp.findIdx? (Nat.beq k)=some i)(hkn:KnS (S.bas i) o rev i kn)(hd:o.dst=none)
  (Va:∀ sl,(∀ i x,look kn i=some x->look sl i=some x)->∀ K:AS->Prop,K ⟨trL (S.D i) sl,S.obj (i+1)⟩->One C ops o K ⟨sl,S.obj i⟩) (h:DS C ops S K rest (k+1) rev):DS C ops S K (o::rest) k rev:=by
 grind [DS]
theorem d5 (h:K rev):DS C ops S K [] k rev:=h
theorem xK {K1 K2:gf->Prop}(h2:K2 rev)(h:K1 rev):DS C ops S (λ rev=>K1 rev/\K2 rev) [] k rev:=⟨h,h2⟩
end
theorem mY {m:Nat->Option Nat}:AV.mapA.go m []=some []:=rfl
theorem dv {m:Nat->Option Nat}{x y:AV}{r l:List AV}(h1:x.mapA m=some y)(h2:AV.mapA.go m r=some l):AV.mapA.go m (x::r)=some (y::l):=by
 grind [AV.mapA.go]
theorem oJ {m:Nat->Option Nat}{f:Fn}{cs l:List AV}(h:AV.mapA.go m cs=some l):(AV.func f cs).mapA m=some (.func f l):=by
 grind [AV.mapA]
theorem fp {sl:List (Nat×AV)}{k:Nat}:qf sl k []=some []:=rfl
theorem dz {sl:List (Nat×AV)}{k:Nat}{x:Operand}{r:List (Nat×Operand)}{y:AV}{z:PV}{l:List PV}(h1:evo sl x=some y)(h2:y.toPV=some z)(h3:qf sl (k+1) r=some l):qf sl k ((k,x)::r)=some (z::l):=by
 simp_all [qf]
theorem vc {sl:List (Nat×AV)}:gw sl []=some []:=rfl
theorem tp {sl:List (Nat×AV)}{i:Nat}{x:Operand}{r:List (Nat×Operand)}{y:AV}{l:List (Nat×AV)}(h1:evo sl x=some y)(h2:gw sl r=some l):gw sl ((i,x)::r)=some ((i,y)::l):=by
 grind [gw]
theorem u9 {C:Cx}{c:Code}{Q:Exit->AS->Prop}{s:AS}(h:awp C c (λ e s=>∃ t,cN C s t/\Q e t) s):awp C c Q s:=by
 intro g a w hs;refine wp_mono (h g a w hs) ?_;rintro e a' w' ⟨g',s',h3,t,hg,hq⟩;obtain ⟨g2,h4⟩:=hg g' a' w' h3
 grind
def w6 (C:Cx)(tt:List (Nat×TI))(fn:Func)(ts ids:List Nat)(r:AV)(rob:List (Nat×List AV))(e:Exit)(s:AS):Prop :=∃ t,cN C s t/\zy tt fn ts ids (λ x y=>x.sub r/\leO y rob) e t
theorem qV {P:Program}{tt:List (Nat×TI)}(good:dp P tt){f:FuncId}{fn:Func}{c:Code}{args:List AV}{Ve rob:List (Nat×List AV)}{r:AV}(ts ids:List Nat)(hf:P.funcs[f]? = some fn)(hb:fn.body=some c)
  (hn:Nat.ble args.length fn.ntmps=true) (hnl:Nat.ble fn.ntmps M1=true) (hts:ts.all (λ i=>Nat.blt i M1)=true) (hnd:nodupB ts=true)
  (h:∀ w0 F,awp ⟨P,tt,good,fn.ntmps,hnl,w0,F⟩ c (w6 ⟨P,tt,good,fn.ntmps,hnl,w0,F⟩ tt fn ts ids r rob) ⟨gR args,Ve⟩):cj P f args Ve (λ x y=>x=r/\y=rob) :=
 Tv good ts ids hf hb hn hnl hts hnd λ w0 F=>u9 (h w0 F)
theorem Ac {C:Cx}{tt:List (Nat×TI)}{fn:Func}{ts ids:List Nat}{r r1:AV}{rob Ve obs':List (Nat×List AV)}{s t:AS}{l:List AV}(hg:cN C s t)(h1:po tt fn.results.toList t=some l)(h2:(tg l).mapA (pD ts)=some r1)
  (h3:jm t.ob ids=some Ve) (h4:iT (pD ts) Ve=some obs') (h5:r1.sub r) (h6:leO obs' rob):w6 C tt fn ts ids r rob .ret s:=⟨t,hg,MD h1 h2 h3 h4 ⟨h5,h6⟩⟩
theorem QO {C:Cx}{tt:List (Nat×TI)}{fn:Func}{ts ids:List Nat}{r r1:AV}{rob Ve obs':List (Nat×List AV)}{s t:AS}{l:List AV}(hg:cN C s t)(h1:po tt fn.results.toList t=some l)(h2:(tg l).mapA (pD ts)=some r1)
  (h3:jm t.ob ids=some Ve) (h4:iT (pD ts) Ve=some obs') (h5:r1.sub r) (h6:leO obs' rob):w6 C tt fn ts ids r rob .normal s:=⟨t,hg,Ob h1 h2 h3 h4 ⟨h5,h6⟩⟩
theorem rq {P:Program}(w:World)(d:Nat)(t e:TypeId)(a:Option Addr)(l c:Nat)(h:P.underlying t=some (.slice e)):(Op.equalIn (d+1) t (.slice a l c) (.slice none 0 0)).run P w=.ok a.isNone w:=by
 cases a <;> simp [Op.equalIn,run_underlying h]
theorem tA {P:Program}(w:World)(t e:TypeId)(a:Option Addr)(l c:Nat)(h:P.underlying t=some (.slice e)):(Op.equal t (.slice a l c) (.slice none 0 0)).run P w=.ok a.isNone w:=rq w 9999 t e a l c h
section
variable {C:Cx} {o:Oper} {K:AS->Prop} {sl:List (Nat×AV)} {ob:List (Nat×List AV)} {d:Nat}
theorem LH {t t':TypeId}{x y:Operand}{Y0z:AV}{es:List PV}{i:TI}{e:Nat}(ho:o.op=.binOp .eql t x y t')(hd:o.dst=some d)(hn:Nat.blt d C.n=true)
  (hi:look C.tt t=some i) (U7:i.k=.slice e) (hx:evo sl x=some Y0z) (hY:Y0z.elems? = some es) (hy:evo sl y=some (.p (.val (.slice none 0 0))))
  (hK:∀ b:Bool,(b=true->es=[])->K ⟨(d,.p (.val (.bool b)))::sl,ob⟩):bu C o K ⟨sl,ob⟩:=by
 obtain ⟨u,h1,h2⟩:=bU C.good hi;have h3:=cu (h2.trans U7);subst h3;intro g a w hs;have hp:=lj hY (bN hs hx);have hyv:=cm hs hy;generalize hxv:a.eval x=v at hp
 have key:∃ (b:Bool) (ad:Option Addr) (l c:Nat),v=.slice ad l c/\b=ad.isNone/\(b=true->es=[]):=by
  cases hp with
  | nils=>grind
  | nile ad=>grind
  | slice sz cf hcap U0 Vh hc hr=>grind
 obtain ⟨b,ad,l,c,rfl,rfl,hb⟩:=key
 have hrun:(execOp a.eval o).run C.P w=.ok (.value (.bool ad.isNone)) w:=by
  simp_all [execOp,eqGuard,binOp,tA]
 unfold Oper.wp;rw [hrun];simp only [Oper.upon,hd];exact ⟨g,_,hs.put (d:=some d) (λ t ht=>by simp_all) (.p (.val _)),hK _ hb⟩
theorem L1 {t e:TypeId}{i ie:TI}(ho:o.op=.buildSlice t 0 #[])(hd:o.dst=some d)(hn:Nat.blt d C.n=true)
  (hi:look C.tt t=some i) (U7:i.k=.slice e) (hie:look C.tt e=some ie) (hzl:Nat.beq ie.zero.length ie.size=true) (tok sz:Nat)
  (hK:K ⟨(d,.vec tok sz 0 [])::sl,ob⟩):bu C o K ⟨sl,ob⟩:=by
 obtain ⟨u,h1,h2⟩:=bU C.good hi;have h3:=cu (h2.trans U7);subst h3;obtain ⟨j,hj,hj1,hj2,z,hz1,hz2⟩:=kg C.good hie;intro g a w hs
 have hrun:(execOp a.eval o).run C.P w=.ok (.value (.slice (some ⟨w.heap.size,0,none⟩) 0 0)) (w.alloc (.cells #[] e)):=by
  simp [execOp,ho,Instr.buildSlice,run_underlying h1,sizeOf,typeInfo,hj,Instr.fill,newRow]
  grind
 unfold Oper.wp;rw [hrun];have Va:=(hs.settled (λ _=>False) #[] e).put (d:=some d) (λ t ht=>by simp_all) (.vece tok sz ⟨w.heap.size,0,none⟩);simp only [Oper.upon,hd];exact ⟨_,_,Va,hK⟩
theorem mi {a:Int}(h:inR a):IntKind.wrap .i64 a=a:=IntWalk.i64_in a h
def dvI:BinOp->Int->Int->Option Int|.rem,a,b=>some (a.tmod b)|.quo,a,b=>some (IntKind.wrap .i64 (a.tdiv b))|_,_,_=>none
theorem N0 {P:Program}{w:World}{op:BinOp}{t:TypeId}{a b c:Int}(hb:b≠0)(h:dvI op a b=some c) :
  (binOp op t (.int .i64 a) (.int .i64 b)).run P w=.ok (.int .i64 c) w:=by
 cases op <;> simp only [dvI,bx,reduceCtorEq] at h <;> subst h <;> simp [binOp,Op.intDiv,hb]
theorem Jb {op:BinOp}{t t':TypeId}{x y:Operand}{a b c:Int}(ho:o.op=.binOp op t x y t')(hd:o.dst=some d)(hn:Nat.blt d C.n=true)
  (hx:evo sl x=some (.p (.val (.int .i64 a)))) (hy:evo sl y=some (.p (.val (.int .i64 b)))) (hc:dvI op a b=some c) (hb:b≠0)
  (hK:K ⟨(d,.p (.val (.int .i64 c)))::sl,ob⟩):bu C o K ⟨sl,ob⟩ :=
 ok_one hd hn (λ g a w hs=>⟨_,by
  simp only [execOp,ho,cm hs hx,cm hs hy,Sem.run_bind,nG,Result.andThen_ok,N0 hb hc,Sem.run_pure],.p (.val _)⟩) hK
end
open Go.Proofs
def tt:List (Nat×TI):=[(2,⟨.int .i64,1,8,[.int .i64 0]⟩),(3,⟨.int .i64,1,8,[.int .i64 0]⟩),(4,⟨.bool,1,1,[.bool false]⟩),(5,⟨.int .u8,1,1,[.int .u8 0]⟩),(6,⟨.int .u8,1,1,[.int .u8 0]⟩),(7,⟨.struct [(0,2),(1,3),(2,4),(3,6)],4,24,[.int .i64 0,.int .i64 0,.bool false,.int .u8 0]⟩),(8,⟨.struct [(0,2),(1,3),(2,4),(3,6)],4,24,[.int .i64 0,.int .i64 0,.bool false,.int .u8 0]⟩),(9,⟨.string,1,16,[.string ⟨#[]⟩]⟩),(10,⟨.string,1,16,[.string ⟨#[]⟩]⟩),(11,⟨.string,1,16,[.string ⟨#[]⟩]⟩),(12,⟨.int .u64,1,8,[.int .u64 0]⟩),(13,⟨.struct [(0,9),(1,12)],2,24,[.string ⟨#[]⟩,.int .u64 0]⟩),(14,⟨.struct [(0,9),(1,12)],2,24,[.string ⟨#[]⟩,.int .u64 0]⟩),(15,⟨.ptr 241,1,8,[.pointer none]⟩),(16,⟨.ptr 244,1,8,[.pointer none]⟩),(17,⟨.ptr 251,1,8,[.pointer none]⟩),(18,⟨.struct [(0,17)],1,8,[.pointer none]⟩),(19,⟨.struct [(0,17)],1,8,[.pointer none]⟩),(20,⟨.iface,1,16,[.nilIface]⟩),(21,⟨.int .i32,1,4,[.int .i32 0]⟩),(22,⟨.int .i64,1,8,[.int .i64 0]⟩),(23,⟨.int .i64,1,8,[.int .i64 0]⟩),(24,⟨.int .i64,1,8,[.int .i64 0]⟩),(25,⟨.slice 28,1,24,[.slice none 0 0]⟩),(26,⟨.slice 9,1,24,[.slice none 0 0]⟩),(27,⟨.struct [(0,24),(1,3),(2,9),(3,25),(4,26)],5,80,[.int .i64 0,.int .i64 0,.string ⟨#[]⟩,.slice none 0 0,.slice none 0 0]⟩),(28,⟨.struct [(0,24),(1,3),(2,9),(3,25),(4,26)],5,80,[.int .i64 0,.int .i64 0,.string ⟨#[]⟩,.slice none 0 0,.slice none 0 0]⟩),(29,⟨.slice 31,1,24,[.slice none 0 0]⟩),(30,⟨.struct [(0,22),(1,23),(2,9),(3,9),(4,28),(9,29),(10,3)],11,160,[.int .i64 0,.int .i64 0,.string ⟨#[]⟩,.string ⟨#[]⟩,.int .i64 0,.int .i64 0,.string ⟨#[]⟩,.slice none 0 0,.slice none 0 0,.slice none 0 0,.int .i64 0]⟩),(31,⟨.struct [(0,22),(1,23),(2,9),(3,9),(4,28),(9,29),(10,3)],11,160,[.int .i64 0,.int .i64 0,.string ⟨#[]⟩,.string ⟨#[]⟩,.int .i64 0,.int .i64 0,.string ⟨#[]⟩,.slice none 0 0,.slice none 0 0,.slice none 0 0,.int .i64 0]⟩),(32,⟨.slice 59,1,24,[.slice none 0 0]⟩),(33,⟨.slice 61,1,24,[.slice none 0 0]⟩),(34,⟨.struct [(0,32),(1,33)],2,48,[.slice none 0 0,.slice none 0 0]⟩),(35,⟨.struct [(0,32),(1,33)],2,48,[.slice none 0 0,.slice none 0 0]⟩),(41,⟨.int .i64,1,8,[.int .i64 0]⟩),(42,⟨.struct [(0,41),(1,3),(2,9)],3,32,[.int .i64 0,.int .i64 0,.string ⟨#[]⟩]⟩),(43,⟨.struct [(0,41),(1,3),(2,9)],3,32,[.int .i64 0,.int .i64 0,.string ⟨#[]⟩]⟩),(54,⟨.slice 35,1,24,[.slice none 0 0]⟩),(58,⟨.struct [(0,9),(1,31),(12,3)],13,184,[.string ⟨#[]⟩,.int .i64 0,.int .i64 0,.string ⟨#[]⟩,.string ⟨#[]⟩,.int .i64 0,.int .i64 0,.string ⟨#[]⟩,.slice none 0 0,.slice none 0 0,.slice none 0 0,.int .i64 0,.int .i64 0]⟩),(59,⟨.struct [(0,9),(1,31),(12,3)],13,184,[.string ⟨#[]⟩,.int .i64 0,.int .i64 0,.string ⟨#[]⟩,.string ⟨#[]⟩,.int .i64 0,.int .i64 0,.string ⟨#[]⟩,.slice none 0 0,.slice none 0 0,.slice none 0 0,.int .i64 0,.int .i64 0]⟩),(60,⟨.struct [(0,9),(1,26),(2,35),(4,3)],5,96,[.string ⟨#[]⟩,.slice none 0 0,.slice none 0 0,.slice none 0 0,.int .i64 0]⟩),(61,⟨.struct [(0,9),(1,26),(2,35),(4,3)],5,96,[.string ⟨#[]⟩,.slice none 0 0,.slice none 0 0,.slice none 0 0,.int .i64 0]⟩),(67,⟨.ptr 70,1,8,[.pointer none]⟩),(68,⟨.slice 5,1,24,[.slice none 0 0]⟩),(69,⟨.struct [(0,67),(1,68)],2,32,[.pointer none,.slice none 0 0]⟩),(70,⟨.struct [(0,67),(1,68)],2,32,[.pointer none,.slice none 0 0]⟩),(76,⟨.slice 86,1,24,[.slice none 0 0]⟩),(79,⟨.ptr 81,1,8,[.pointer none]⟩),(80,⟨.struct [(0,76),(1,3),(2,43)],5,64,[.slice none 0 0,.int .i64 0,.int .i64 0,.int .i64 0,.string ⟨#[]⟩]⟩),(81,⟨.struct [(0,76),(1,3),(2,43)],5,64,[.slice none 0 0,.int .i64 0,.int .i64 0,.int .i64 0,.string ⟨#[]⟩]⟩),(84,⟨.int .i64,1,8,[.int .i64 0]⟩),(85,⟨.struct [(0,84),(1,9),(2,3)],3,32,[.int .i64 0,.string ⟨#[]⟩,.int .i64 0]⟩),(86,⟨.struct [(0,84),(1,9),(2,3)],3,32,[.int .i64 0,.string ⟨#[]⟩,.int .i64 0]⟩),(101,⟨.iface,1,16,[.nilIface]⟩),(102,⟨.iface,1,16,[.nilIface]⟩),(109,⟨.array 16 9,16,256,[.string ⟨#[]⟩,.string ⟨#[]⟩,.string ⟨#[]⟩,.string ⟨#[]⟩,.string ⟨#[]⟩,.string ⟨#[]⟩,.string ⟨#[]⟩,.string ⟨#[]⟩,.string ⟨#[]⟩,.string ⟨#[]⟩,.string ⟨#[]⟩,.string ⟨#[]⟩,.string ⟨#[]⟩,.string ⟨#[]⟩,.string ⟨#[]⟩,.string ⟨#[]⟩]⟩),(110,⟨.ptr 5,1,8,[.pointer none]⟩),(111,⟨.ptr 113,1,8,[.pointer none]⟩),(112,⟨.struct [(0,76),(1,3),(2,3),(3,3),(4,43)],7,80,[.slice none 0 0,.int .i64 0,.int .i64 0,.int .i64 0,.int .i64 0,.int .i64 0,.string ⟨#[]⟩]⟩),(113,⟨.struct [(0,76),(1,3),(2,3),(3,3),(4,43)],7,80,[.slice none 0 0,.int .i64 0,.int .i64 0,.int .i64 0,.int .i64 0,.int .i64 0,.string ⟨#[]⟩]⟩),(116,⟨.ptr 120,1,8,[.pointer none]⟩),(118,⟨.array 256 5,256,256,List.replicate 256 (.int .u8 0)⟩),(120,⟨.struct [(0,9),(1,3),(2,118),(258,3),(259,43)],262,320,[.string ⟨#[]⟩,.int .i64 0]++List.replicate 256 (.int .u8 0)++[.int .i64 0,.int .i64 0,.int .i64 0,.string ⟨#[]⟩]⟩),(124,⟨.ptr 35,1,8,[.pointer none]⟩),(132,⟨.ptr 134,1,8,[.pointer none]⟩),(133,⟨.struct [(0,3)],1,8,[.int .i64 0]⟩),(134,⟨.struct [(0,3)],1,8,[.int .i64 0]⟩),(159,⟨.array 7 9,7,112,[.string ⟨#[]⟩,.string ⟨#[]⟩,.string ⟨#[]⟩,.string ⟨#[]⟩,.string ⟨#[]⟩,.string ⟨#[]⟩,.string ⟨#[]⟩]⟩),(171,⟨.int .u64,1,8,[.int .u64 0]⟩),(174,⟨.array 24 5,24,24,[.int .u8 0,.int .u8 0,.int .u8 0,.int .u8 0,.int .u8 0,.int .u8 0,.int .u8 0,.int .u8 0,.int .u8 0,.int .u8 0,.int .u8 0,.int .u8 0,.int .u8 0,.int .u8 0,.int .u8 0,.int .u8 0,.int .u8 0,.int .u8 0,.int .u8 0,.int .u8 0,.int .u8 0,.int .u8 0,.int .u8 0,.int .u8 0]⟩),(175,⟨.int .u64,1,8,[.int .u64 0]⟩),(180,⟨.array 13 9,13,208,[.string ⟨#[]⟩,.string ⟨#[]⟩,.string ⟨#[]⟩,.string ⟨#[]⟩,.string ⟨#[]⟩,.string ⟨#[]⟩,.string ⟨#[]⟩,.string ⟨#[]⟩,.string ⟨#[]⟩,.string ⟨#[]⟩,.string ⟨#[]⟩,.string ⟨#[]⟩,.string ⟨#[]⟩]⟩),(190,⟨.array 20 175,20,160,[.int .u64 0,.int .u64 0,.int .u64 0,.int .u64 0,.int .u64 0,.int .u64 0,.int .u64 0,.int .u64 0,.int .u64 0,.int .u64 0,.int .u64 0,.int .u64 0,.int .u64 0,.int .u64 0,.int .u64 0,.int .u64 0,.int .u64 0,.int .u64 0,.int .u64 0,.int .u64 0]⟩),(191,⟨.int .u32,1,4,[.int .u32 0]⟩),(196,⟨.other,1,8,[.nilFunc]⟩),(206,⟨.struct [(0,5),(1,5)],2,2,[.int .u8 0,.int .u8 0]⟩),(207,⟨.struct [(0,5),(1,5)],2,2,[.int .u8 0,.int .u8 0]⟩),(208,⟨.array 16 207,32,32,[.int .u8 0,.int .u8 0,.int .u8 0,.int .u8 0,.int .u8 0,.int .u8 0,.int .u8 0,.int .u8 0,.int .u8 0,.int .u8 0,.int .u8 0,.int .u8 0,.int .u8 0,.int .u8 0,.int .u8 0,.int .u8 0,.int .u8 0,.int .u8 0,.int .u8 0,.int .u8 0,.int .u8 0,.int .u8 0,.int .u8 0,.int .u8 0,.int .u8 0,.int .u8 0,.int .u8 0,.int .u8 0,.int .u8 0,.int .u8 0,.int .u8 0,.int .u8 0]⟩),(211,⟨.array 32 5,32,32,[.int .u8 0,.int .u8 0,.int .u8 0,.int .u8 0,.int .u8 0,.int .u8 0,.int .u8 0,.int .u8 0,.int .u8 0,.int .u8 0,.int .u8 0,.int .u8 0,.int .u8 0,.int .u8 0,.int .u8 0,.int .u8 0,.int .u8 0,.int .u8 0,.int .u8 0,.int .u8 0,.int .u8 0,.int .u8 0,.int .u8 0,.int .u8 0,.int .u8 0,.int .u8 0,.int .u8 0,.int .u8 0,.int .u8 0,.int .u8 0,.int .u8 0,.int .u8 0]⟩),(221,⟨.ptr 223,1,8,[.pointer none]⟩),(222,⟨.struct [(0,9),(1,3),(2,3),(3,3),(4,9),(5,29),(6,4)],7,88,[.string ⟨#[]⟩,.int .i64 0,.int .i64 0,.int .i64 0,.string ⟨#[]⟩,.slice none 0 0,.bool false]⟩),(223,⟨.struct [(0,9),(1,3),(2,3),(3,3),(4,9),(5,29),(6,4)],7,88,[.string ⟨#[]⟩,.int .i64 0,.int .i64 0,.int .i64 0,.string ⟨#[]⟩,.slice none 0 0,.bool false]⟩),(225,⟨.int .i64,1,8,[.int .i64 0]⟩),(228,⟨.ptr 234,1,8,[.pointer none]⟩),(233,⟨.struct [(0,9),(1,9),(2,102)],3,48,[.string ⟨#[]⟩,.string ⟨#[]⟩,.nilIface]⟩),(234,⟨.struct [(0,9),(1,9),(2,102)],3,48,[.string ⟨#[]⟩,.string ⟨#[]⟩,.nilIface]⟩),(237,⟨.ptr 239,1,8,[.pointer none]⟩),(238,⟨.struct [(0,9)],1,16,[.string ⟨#[]⟩]⟩),(239,⟨.struct [(0,9)],1,16,[.string ⟨#[]⟩]⟩),(240,⟨.struct [(0,17),(1,17),(2,17),(3,9)],4,40,[.pointer none,.pointer none,.pointer none,.string ⟨#[]⟩]⟩),(241,⟨.struct [(0,17),(1,17),(2,17),(3,9)],4,40,[.pointer none,.pointer none,.pointer none,.string ⟨#[]⟩]⟩),(242,⟨.array 0 16,0,0,[]⟩),(243,⟨.struct [(0,242)],0,0,[]⟩),(244,⟨.struct [(0,242)],0,0,[]⟩),(245,⟨.int .u8,1,1,[.int .u8 0]⟩),(246,⟨.int .u8,1,1,[.int .u8 0]⟩),(248,⟨.int .i32,1,4,[.int .i32 0]⟩),(249,⟨.int .i32,1,4,[.int .i32 0]⟩),(250,⟨.struct [(0,12),(1,12),(2,191),(3,245),(4,5),(5,5),(6,246),(7,247),(8,110),(9,248),(10,249)],11,48,[.int .u64 0,.int .u64 0,.int .u32 0,.int .u8 0,.int .u8 0,.int .u8 0,.int .u8 0,.nilFunc,.pointer none,.int .i32 0,.int .i32 0]⟩),(251,⟨.struct [(0,12),(1,12),(2,191),(3,245),(4,5),(5,5),(6,246),(7,247),(8,110),(9,248),(10,249)],11,48,[.int .u64 0,.int .u64 0,.int .u32 0,.int .u8 0,.int .u8 0,.int .u8 0,.int .u8 0,.nilFunc,.pointer none,.int .i32 0,.int .i32 0]⟩)]
theorem good:dp Tryz.prog tt:=by
 unfold tt;simp only [dp];refine ⟨?_,?_,?_,?_,?_,?_,?_,?_,?_,?_,?_,?_,?_,?_,?_,?_,?_,?_,?_,?_,?_,?_,?_,?_,?_,?_,?_,?_,?_,?_,?_,?_,?_,?_,?_,?_,?_,?_,?_,?_,?_,?_,?_,?_,?_,?_,?_,?_,?_,?_,?_,?_,?_,?_,?_,?_,?_,?_,?_,?_,?_,?_,?_,?_,?_,?_,?_,?_,?_,?_,?_,?_,?_,?_,?_,?_,?_,?_,?_,?_,?_,?_,?_,?_,?_,?_,?_,?_,?_,?_,?_,?_,?_,?_,?_,?_,?_,?_,?_,?_,trivial⟩
 all_goals exact ⟨by kernel_rfl,by kernel_rfl⟩
end Go.Ab
end
section
namespace Go.Ab
def cV (k:IntKind)(a b:Int):Int:=k.wrap ((BitVec.ofInt k.bits a &&& BitVec.ofInt k.bits b).toNat:Nat)
def iOr (k:IntKind)(a b:Int):Int:=k.wrap ((BitVec.ofInt k.bits a ||| BitVec.ofInt k.bits b).toNat:Nat)
def iXor (k:IntKind)(a b:Int):Int:=k.wrap ((BitVec.ofInt k.bits a ^^^ BitVec.ofInt k.bits b).toNat:Nat)
def F1 (k:IntKind)(a b:Int):Int:=k.wrap ((BitVec.ofInt k.bits a &&& ~~~(BitVec.ofInt k.bits b)).toNat:Nat)
def Qh (k:IntKind):BinOp->Int->Int->Option Int|.and,a,b=>some (cV k a b)|.or,a,b=>some (iOr k a b)|.xor,a,b=>some (iXor k a b)|.andNot,a,b=>some (F1 k a b)|_,_,_=>none
def mX (k:IntKind)(a b:Int):Int:=k.wrap (a*2^(min b.toNat k.bits))
def jb (k:IntKind)(a b:Int):Int:=a.fdiv (2^(min b.toNat k.bits))
def shI (k:IntKind):BinOp->Int->Int->Option Int|.shl,a,b=>some (mX k a b)|.shr,a,b=>some (jb k a b)|_,_,_=>none
theorem HG {P:Program}{w:World}{op:BinOp}{t:TypeId}{k:IntKind}{a b c:Int}(h:Qh k op a b=some c) :
  (binOp op t (.int k a) (.int k b)).run P w=.ok (.int k c) w:=by
 cases op <;> simp only [Qh,bx,reduceCtorEq] at h <;> subst h <;> simp [binOp,Op.intBits,cV,iOr,iXor,F1]
theorem Oi {P:Program}{w:World}{op:BinOp}{t:TypeId}{k k':IntKind}{a b c:Int}(hb:0<=b)(h:shI k op a b=some c) :
  (binOp op t (.int k a) (.int k' b)).run P w=.ok (.int k c) w:=by
 have hb':¬ b<0:=by omega
 cases op <;> simp only [shI,bx,reduceCtorEq] at h <;> subst h <;> simp [binOp,Op.shift,hb',mX,jb]
section
variable {C:Cx} {o:Oper} {K:AS->Prop} {sl:List (Nat×AV)} {ob:List (Nat×List AV)} {d:Nat}
theorem S4 {op:BinOp}{t t':TypeId}{x y:Operand}{k:IntKind}{a b c:Int}(ho:o.op=.binOp op t x y t')(hd:o.dst=some d)(hn:Nat.blt d C.n=true)
  (hx:evo sl x=some (.p (.val (.int k a)))) (hy:evo sl y=some (.p (.val (.int k b)))) (hc:Qh k op a b=some c)
  (hK:K ⟨(d,.p (.val (.int k c)))::sl,ob⟩):bu C o K ⟨sl,ob⟩ :=
 ok_one hd hn (λ g a w hs=>⟨_,by
  simp only [execOp,ho,cm hs hx,cm hs hy,Sem.run_bind,nG,Result.andThen_ok,HG hc,Sem.run_pure],.p (.val _)⟩) hK
theorem rc {op:BinOp}{t t':TypeId}{x y:Operand}{k k':IntKind}{a b c:Int}(ho:o.op=.binOp op t x y t')(hd:o.dst=some d)(hn:Nat.blt d C.n=true)
  (hx:evo sl x=some (.p (.val (.int k a)))) (hy:evo sl y=some (.p (.val (.int k' b)))) (hc:shI k op a b=some c) (hb:0<=b)
  (hK:K ⟨(d,.p (.val (.int k c)))::sl,ob⟩):bu C o K ⟨sl,ob⟩ :=
 ok_one hd hn (λ g a w hs=>⟨_,by
  simp only [execOp,ho,cm hs hx,cm hs hy,Sem.run_bind,nG,Result.andThen_ok,Oi hb hc,Sem.run_pure],.p (.val _)⟩) hK
end
def eqC:Option PV->Option PV->Prop|some (.val (.int _ a)),some (.val (.int _ b))=>a=b|some (.val (.bool a)),some (.val (.bool b))=>a=b|some (.val (.string a)),some (.val (.string b))=>a.data.toList=b.data.toList|_,_=>False
def eqF (cs ds:List PV):List (Nat×Nat)->Prop|[]=>True|[f]=>eqC cs[f.1]? ds[f.1]?|f::g::r=>eqC cs[f.1]? ds[f.1]?/\eqF cs ds (g::r)
def Eg (k:Option TI)(x y:Option PV):Bool:=match k,x,y with
 | some ⟨.int q,_,_,_⟩,some (.val (.int k _)),some (.val (.int k' _))=>(q==k)&&(q==k')
 | some ⟨.bool,_,_,_⟩,some (.val (.bool _)),some (.val (.bool _))=>true
 | some ⟨.string,_,_,_⟩,some (.val (.string _)),some (.val (.string _))=>true
 | _,_,_=>false
def A9 (tt:List (Nat×TI))(cs ds:List PV):List (Nat×Nat)->Bool|[]=>true|f::r=>Eg (look tt f.2) cs[f.1]? ds[f.1]?&&A9 tt cs ds r
def wB:List Field->Bool
 | []=>true
 | f::r=>f.name != "_" && wB r
def eqOk (P:Program)(t:TypeId):Bool:=wB (P.fieldsOf t).toList&&!P.stoodInHeld t&&!P.eqGuardType P.depth t
theorem qi {P:Program}{tt:List (Nat×TI)}(good:dp P tt){t:Nat}{i:TI}(h:look tt t=some i)(ha:i.k.isAgg=false){cs:Array Value}{off:Nat}{v:Value}(hv:cs[off]? = some v)(w:World) :
  (part t cs off).run P w=.ok v w:=by
 simp [part,oO good h,ha,hv]
theorem oz {w:World}{st:Nat->Nat->Prop}{cs:List PV}{vs:Array Value}(h:PRep w st (.agg cs) (.agg vs)){j:Nat}{u:Value}(hc:cs[j]? = some (.val u)):vs[j]? = some u:=by
 cases h with
 | agg hl h=>
  have hj:j<vs.size:=by
   grind
  have h1:=h j _ _ hc (Array.getElem?_eq_getElem hj)
  cases h1
  grind
theorem B7 {P:Program}{tt:List (Nat×TI)}(good:dp P tt){w:World}{st:Nat->Nat->Prop}{cs ds:List PV}{xs ys:Array Value}(hx:PRep w st (.agg cs) (.agg xs))(hy:PRep w st (.agg ds) (.agg ys)){t off:Nat}
  (h:Eg (look tt t) cs[off]? ds[off]? = true) (d:Nat):∃ a b r,(part t xs off).run P w=.ok a w/\(part t ys off).run P w=.ok b w/\(Op.equalIn (d+1) t a b).run P w=.ok r w/\(r=true↔eqC cs[off]? ds[off]?):=by
 unfold Eg at h;split at h
 ·rename_i q s z l k u k' u' hl hc hd;simp only [py,beq_iff_eq] at h;obtain ⟨rfl,rfl⟩:=h;obtain ⟨ud,h1,h2⟩:=bU good hl;have h3:=pw h2;subst h3;refine ⟨_,_,_,qi good hl rfl (oz hx hc) w,qi good hl rfl (oz hy hd) w,run_equalIn_int w d t _ _ u u' h1,?_⟩;rw [hc,hd];exact beq_iff_eq
 ·rename_i s z l u u' hl hc hd;obtain ⟨ud,h1,h2⟩:=bU good hl;have h3:=sG h2;subst h3;refine ⟨_,_,_,qi good hl rfl (oz hx hc) w,qi good hl rfl (oz hy hd) w,run_equalIn_bool' w d t u u' h1,?_⟩;rw [hc,hd];exact beq_iff_eq
 ·rename_i s z l u u' hl hc hd;obtain ⟨ud,h1,h2⟩:=bU good hl;have h3:=jk h2;subst h3;refine ⟨_,_,_,qi good hl rfl (oz hx hc) w,qi good hl rfl (oz hy hd) w,run_equalIn_string w d t u u' h1,?_⟩
  grind [eqC,ByteArray.toList_eq]
 ·cases h
theorem GD {P:Program}{tt:List (Nat×TI)}(good:dp P tt){w:World}{st:Nat->Nat->Prop}{cs ds:List PV}{xs ys:Array Value}(hx:PRep w st (.agg cs) (.agg xs))(hy:PRep w st (.agg ds) (.agg ys))(d:Nat) :
  ∀ fs:List Field,wB fs=true->A9 tt cs ds (fs.map λ f=>(f.offset,f.type))=true ->
   ∃ r,(Op.eqFields (d+1) xs ys fs).run P w=.ok r w/\(r=true↔eqF cs ds (fs.map λ f=>(f.offset,f.type)))
 | [],_,_=>⟨true,Z,by simp [eqF]⟩
 | f::r,hn,hp=>by
  simp only [wB,py,bne_iff_ne,ne_eq] at hn;simp only [n7,A9,py] at hp;obtain ⟨a,b,r1,e1,e2,e3,e4⟩:=B7 good hx hy hp.1 d;obtain ⟨r2,e5,e6⟩:=GD good hx hy d r hn.2 hp.2
  cases r1 with
  | false=>
   refine ⟨false,by simp_all [Op.eqFields],?_⟩;have:¬ eqC cs[f.offset]? ds[f.offset]?:=λ h=>by grind
   cases r with
   | nil=>grind [eqF]
   | cons g r=>simp [eqF,this]
  | true=>
   refine ⟨r2,by simp_all [Op.eqFields],?_⟩;rw [e6];have:=e4.1 Z
   cases r with
   | nil=>grind [eqF]
   | cons g r=>simp [eqF,this]
theorem Jf {C:Cx}{o:Oper}{K:AS->Prop}{sl:List (Nat×AV)}{ob:List (Nat×List AV)}{d:Nat}{op:BinOp}{t t':TypeId}{x y:Operand}{cs ds:List PV}{i:TI}{fs:List (Nat×Nat)}{r:Bool}(p:Prop) [Decidable p]
  (ho:o.op=.binOp op t x y t') (hd:o.dst=some d) (hn:Nat.blt d C.n=true) (hi:look C.tt t=some i) (U7:i.k=.struct fs) (hx:evo sl x=some (.p (.agg cs))) (hy:evo sl y=some (.p (.agg ds)))
  (hok:eqOk C.P t=true) (hpl:A9 C.tt cs ds fs=true) (hp:p=eqF cs ds fs) (hop:op=.eql/\r=decide p\/op=.neq/\r=!decide p)
  (hK:K ⟨(d,.p (.val (.bool r)))::sl,ob⟩):bu C o K ⟨sl,ob⟩:=by
 subst hp;obtain ⟨u,h1,h2⟩:=bU C.good hi;obtain ⟨fa,rfl,h3⟩:=ji (h2.trans U7);have hfo:C.P.fieldsOf t=fa:=by grind [Program.fieldsOf]
 simp only [eqOk,py,Bool.not_eq_true',hfo] at hok;refine ok_one hd hn (λ g a w hs=>?_) hK;have hxr:=bN hs hx;have hyr:=bN hs hy
 cases hxr with
 | p hxr=>
  cases hyr with
  | p hyr=>
   generalize hxv:a.eval x=vx at hxr;generalize hyv:a.eval y=vy at hyr
   cases hxr with
   | @agg _ xs hl1 hh1=>
    cases hyr with
    | @agg _ ys hl2 hh2=>
     obtain ⟨rr,e1,e2⟩:=GD C.good (.agg hl1 hh1) (.agg hl2 hh2) 9998 fa.toList hok.1.1 (by grind);rw [h3] at e2;have e3:=run_equalIn_struct w 9999 t xs ys (by grind) hok.1.2;rw [hfo] at e3
     have hrr:rr=decide (eqF cs ds fs):=by
      grind
     rcases hop with ⟨rfl,rfl⟩|⟨rfl,rfl⟩
     ·refine ⟨_,?_,.p (.val _)⟩
      simp_all [execOp,run_eqGuard_agg,run_eql_struct]
     ·refine ⟨_,?_,.p (.val _)⟩
      simp_all [execOp,run_eqGuard_agg,run_neq_struct]
def eU (b:UInt8):PV:=.val (.int .u8 (b.toNat:Int))
def u8 (n:Int):UInt8:=UInt8.ofNat n.toNat
theorem rZ {n:Int}(h:(0:Int)<=n/\n<256):eK .u8 n=eU (u8 n):=by
 grind [eK,eU,u8,UInt8.toNat_ofNat']
theorem Te (b:UInt8):u8 (b.toNat:Int)=b:=by simp [u8]
section
variable {C:Cx} {o:Oper} {K:AS->Prop} {sl:List (Nat×AV)} {ob:List (Nat×List AV)} {d:Nat}
theorem LY (l0 l:Bk){t tx e:TypeId}{x y:Operand}{k ty:Nat}{i ie j:TI}(ho:o.op=.call { callee:=.builtin .append,args:=#[x,y],argTypes:=#[t,tx] })(hd:o.dst=some d)(hn:Nat.blt d C.n=true)
  (hi:look C.tt t=some i) (U7:i.k=.slice e) (hie:look C.tt e=some ie) (hj:look C.tt tx=some j) (hjk:j.k=.string) (hx:evo sl x=some (.vec k 1 ty (l0.map eU))) (hk:Nat.blt k M1=true)
  (hy:evo sl y=some (.p (eS l))) (h1:ie.size=1) (hzl:Nat.beq ie.zero.length ie.size=true) (hby:Nat.blt 0 ie.bytes=true)
  (hty:(Nat.beq ty 0||Nat.beq ty (e+1))=true) (Pn:(l0.length+l.length)*ie.bytes<=140737488355328)
  (hK:K ⟨(d,.vec d 1 ty ((l0++l).map eU))::(cW (λ i=>Nat.beq i k||Nat.beq i d) ⟨sl,ob⟩).sl,(cW (λ i=>Nat.beq i k||Nat.beq i d) ⟨sl,ob⟩).ob⟩):bu C o K ⟨sl,ob⟩:=by
 have hby':1<=ie.bytes:=Nat.succ_le_of_lt (by simp_all);have h2:(l0.length+l.length)*1<=(l0.length+l.length)*ie.bytes:=Nat.mul_le_mul_left _ hby'
 exact wg ho hd hn hi U7 hie hx hk h1 (ys:=l.map eU) (h1 ▸ Iq hj hjk hy) (λ y hy=>by obtain ⟨x,_,rfl⟩:=List.mem_map.1 hy; rw [h1]; rfl) (by rw [h1]; rfl) hzl (by grind) (by grind) hty
  (by grind)
def eE (b:Bool):PV:=bif b then .ifc else .val .nilIface
theorem SH (b:Bool):AV.toPV (.p (eE b))=some (eE b):=by cases b <;> rfl
theorem Ez:AV.settle.go []=some []:=rfl
theorem vW {x:AV}{y:PV}{r l:List AV}(h:x.toPV=some y)(h':AV.settle.go r=some l):AV.settle.go (x::r)=some (.p y::l):=by grind [AV.settle.go]
theorem HD {l l':List AV}(h:AV.settle.go l=some l'):AV.settle (.tuple l)=some (.tuple l'):=by grind [AV.settle]
theorem DL {u:TypeDesc}(h:kindOf u=.iface):∃ ms,u=.interface ms:=by cases u <;> simp [kindOf] at h; grind
theorem vA {P:Program}{t:TypeId}{ms:Array (String×TypeId)}(h:P.underlying t=some (.interface ms))(w:World):(Op.equal t .nilIface .nilIface).run P w=.ok true w:=by
 have:∀ d,(Op.equalIn (d+1) t .nilIface .nilIface).run P w=.ok true w:=λ d=>by simp [Op.equalIn,run_underlying h]
 exact this 9999
theorem uQ {P:Program}{t:TypeId}{ms:Array (String×TypeId)}(h:P.underlying t=some (.interface ms))(w:World)(t':TypeId)(v:Value):(Op.equal t (.iface t' v) .nilIface).run P w=.ok false w:=by
 have:∀ d,(Op.equalIn (d+1) t (.iface t' v) .nilIface).run P w=.ok false w:=λ d=>by simp [Op.equalIn,run_underlying h]
 exact this 9999
theorem Tt {op:BinOp}{t t':TypeId}{x:Operand}{b c:Bool}{i:TI}(ho:o.op=.binOp op t x (.const .nilIface) t')(hd:o.dst=some d)(hn:Nat.blt d C.n=true)
  (hi:look C.tt t=some i) (U7:i.k=.iface)
  (hx:evo sl x=some (.p (eE b))) (hc:(op=.eql/\c=!b)\/(op=.neq/\c=b))
  (hK:K ⟨(d,.p (eB c))::sl,ob⟩):bu C o K ⟨sl,ob⟩:=by
 obtain ⟨u,h1,h2⟩:=bU C.good hi;obtain ⟨ms,rfl⟩:=DL (h2.trans U7);refine ok_one hd hn (λ g a w hs=>⟨.bool c,?_,.p (.val _)⟩) hK;have hr:=bN hs hx;generalize hv:a.eval x=v at hr;have hcn:a.eval (.const .nilIface)=.nilIface:=rfl
 cases b with
 | true=>
  cases hr with
  | p h=>
   cases h with
   | ifc t2 v2=>rcases hc with ⟨rfl,rfl⟩|⟨rfl,rfl⟩ <;> simp [execOp,ho,hv,hcn,eqGuard,binOp,uQ h1]
 | false=>
  cases hr with
  | p h=>
   cases h with
   | val=>rcases hc with ⟨rfl,rfl⟩|⟨rfl,rfl⟩ <;> simp [execOp,ho,hv,hcn,eqGuard,binOp,vA h1]
theorem LS {st dt:TypeId}{x:Operand}{k k':IntKind}{a:Int}{i j:TI}(ho:o.op=.convert st dt x)(hd:o.dst=some d)(hn:Nat.blt d C.n=true)
  (hi:look C.tt st=some i) (U7:i.k=.int k') (hj:look C.tt dt=some j) (hjk:j.k=.int k) (hx:evo sl x=some (.p (.val (.int k' a))))
  (hK:K ⟨(d,.p (.val (.int k (k.wrap a))))::sl,ob⟩):bu C o K ⟨sl,ob⟩:=by
 obtain ⟨u,h1,h2⟩:=bU C.good hj;have h3:=pw (h2.trans hjk);obtain ⟨u',h1',h2'⟩:=bU C.good hi;have h3':=pw (h2'.trans U7);subst h3 h3';exact ok_one hd hn (λ g b w hs=>⟨_,by simp [execOp,ho,cm hs hx,convert,run_underlying h1,run_underlying h1',Conv.intToInt],.p (.val _)⟩) hK
end
theorem tS {u:TypeDesc}{n e:Nat}(h:kindOf u=.array n e):u=.array n e:=by cases u <;> simp [kindOf] at h; grind
section
variable {C:Cx} {o:Oper} {K:AS->Prop} {sl:List (Nat×AV)} {ob:List (Nat×List AV)} {d:Nat}
theorem BD {t m e:Nat}{parts:Array (Nat×Operand)}{i ie:TI}{ps:List (Nat×AV)}{cs:List AV}{y:AV}(ho:o.op=.build t parts)(hd:o.dst=some d)(hn:Nat.blt d C.n=true)
  (hi:look C.tt t=some i) (U7:i.k=.array m e) (hie:look C.tt e=some ie) (hps:gw sl parts.toList=some ps) (hf:vY (λ (k:Nat)=>some (k*ie.size,ie.size)) (ib i) ps=some cs) (hy:some (pf cs)=some y)
  (hK:K ⟨(d,y)::sl,ob⟩):bu C o K ⟨sl,ob⟩:=by
 cases hy
 obtain ⟨u,h1,h2⟩:=bU C.good hi;have h3:=tS (h2.trans U7);subst h3;refine ok_one hd hn (λ g a w hs=>?_) hK;obtain ⟨z,hz1,hz2⟩:=np C.good hi w;obtain ⟨q1,q2⟩:=rA hs _ ps hps
 obtain ⟨c',f1,f2,f3⟩:=uS (place:=λ (k:Nat)=>some (k*ie.size,ie.size)) ps (parts.toList.map λ p=>(p.1,a.eval p.2)) (ib i) cs z.cells q1 q2 (by grind [ib]) (λ k x v hx hv=>by
  simp only [ib,List.getElem?_map,ro,<- hz2,Array.getElem?_toList] at hx;obtain ⟨u,hu,rfl⟩:=hx;rw [hv] at hu; cases hu
  exact .p (.val _)) hf
 refine ⟨.agg c',?_,sd f2 f3⟩;have e1:(parts.map λ (i,x)=>(i,a.eval x)).toList=parts.toList.map λ p=>(p.1,a.eval p.2):=by simp_all
 simp only [execOp,ho,Instr.build,Sem.run_bind,hz1,Result.andThen_ok,run_underlying h1,run_sizeOf C.good hie,e1,f1,Sem.run_pure]
theorem io {t m e:Nat}{x y:Operand}{i ie:TI}{k:IntKind}{n:Int}{id q:Nat}(ho:o.op=.indexAddr t x y)(hd:o.dst=some d)(hn:Nat.blt d C.n=true)
  (hi:look C.tt t=some i) (U7:i.k=.array m e) (hie:look C.tt e=some ie) (hx:evo sl x=some (.ptr id q))
  (hy:evo sl y=some (.p (.val (.int k n)))) (hb:0<=n/\n<m)
  (hK:K ⟨(d,.ptr id (q+n.toNat*ie.size))::sl,ob⟩):bu C o K ⟨sl,ob⟩:=by
 obtain ⟨u,h1,h2⟩:=bU C.good hi;have h3:=tS (h2.trans U7);subst h3;refine ok_one hd hn (λ g a w hs=>?_) hK;have h5:=bN hs hx;generalize hv:a.eval x=v at h5
 cases h5 with
 | ptr how=>
  rename_i b;exact ⟨.pointer (some ⟨b,q+n.toNat*ie.size,none⟩),by simp [execOp,ho,hv,cm hs hy,Instr.indexAt,Instr.sureAddr,asIntOf,run_underlying h1,hb.1,hb.2,run_sizeOf C.good hie,add_lit],.ptr how⟩
theorem cI {t m e:Nat}{x y:Operand}{i ie:TI}{k:IntKind}{n:Int}{id:Nat}(ho:o.op=.indexAddr t x y)(hd:o.dst=some d)(hn:Nat.blt d C.n=true)
  (hi:look C.tt t=some i) (U7:i.k=.array m e) (hie:look C.tt e=some ie) (hs1:ie.size=1) (hx:evo sl x=some (.ptr id 0))
  (hy:evo sl y=some (.p (.val (.int k n)))) (hb:0<=n/\n<m)
  (hK:K ⟨(d,.ptr id n.toNat)::sl,ob⟩):bu C o K ⟨sl,ob⟩ :=
 io ho hd hn hi U7 hie hx hy hb (by grind)
end
theorem fL {c:Int}(h1:-9223372036854775808<=c)(h2:c<=9223372036854775807):inR c:=⟨h1,h2⟩
theorem f0 (l:Bk)(k:Nat):byt l (k:Int)=((l.getD k 0).toNat:Int):=rfl
theorem A4 {α:Type} [Inhabited α] (l:List α)(k:Nat):lat l (k:Int)=l.getD k default:=rfl
theorem qJ {α:Type}(l:List α)(i j:Nat):sub l (i:Int) (j:Int)=(l.take j).drop i:=rfl
theorem mw {α:Type}(l:List α)(i:Int):sub l i (l.length:Int)=l.drop i.toNat:=by
 show (l.take (l.length:Int).toNat).drop i.toNat=_;rw [Int.toNat_natCast,List.take_length]
theorem TW {α β:Type}(v:α)(k:α->Option β):jn (some (.inl v)) k=k v:=rfl
theorem S3 {α β:Type}(x:β)(k:α->Option β):jn (some (.inr x)) k=some x:=rfl
theorem QT {α β:Type}(v:α)(k:α->Option β):(some v).bind k=k v:=rfl
end Go.Ab
namespace Go.Ab
def Ev2 {α:Type}(f:Nat->Nat->Option α)(P:α->Prop):Prop:=∃ r,P r/\∃ N,∀ n m,N<=n->N<=m->f n m=some r
section
variable {α β γ:Type} {P:α->Prop} {Q:β->Prop}
theorem ac {r:α}(h:P r):Ev2 (λ _ _=>some r) P:=⟨r,h,0,λ _ _ _ _=>rfl⟩
theorem am {p:Prop} [Decidable p] {f:Nat->Nat->Option α}(hp:p)(h:Ev2 f P):Ev2 (λ n m=>ck p (f n m)) P:=by
 obtain ⟨r,h1,N,h2⟩:=h;exact ⟨r,h1,N,λ n m hn hm=>(cM hp).trans (h2 n m hn hm)⟩
theorem aH {p:Prop} [Decidable p] {f g:Nat->Nat->Option α}(h1:p->Ev2 f P)(h2:¬p->Ev2 g P):Ev2 (λ n m=>if p then f n m else g n m) P:=by
 by_cases h:p
 ·simpa only [if_pos h] using h1 h
 ·simpa only [if_neg h] using h2 h
theorem ap {p:Prop} [Decidable p] {f g:Nat->Nat->Option α}(hp:p)(h:Ev2 f P):Ev2 (λ n m=>if p then f n m else g n m) P:=aH (λ _=>h) (λ k=>absurd hp k)
theorem ar {p:Prop} [Decidable p] {f g:Nat->Nat->Option α}(hp:¬p)(h:Ev2 g P):Ev2 (λ n m=>if p then f n m else g n m) P:=aH (λ k=>absurd k hp) (λ _=>h)
theorem cH {f:Nat->Nat->Option α}{P':α->Prop}(h:Ev2 f P)(hp:∀ r,P r->P' r):Ev2 f P':=by
 obtain ⟨r,h1,h2⟩:=h;exact ⟨r,hp r h1,h2⟩
theorem QS {g:Nat->Nat->Option β}{k:Nat->Nat->β->Option α}(h:Ev2 g (λ x=>Ev2 (λ n m=>k n m x) P)):Ev2 (λ n m=>(g n m).bind (k n m)) P:=by
 obtain ⟨x,⟨r,h1,N,h2⟩,M,h3⟩:=h;exact ⟨r,h1,N+M,λ n m hn hm=>(congrArg (λ o=>Option.bind o (k n m)) (h3 n m O O)).trans (h2 n m O O)⟩
theorem aW {g:Nat->Nat->Option β}{k:Nat->Nat->β->Option α}(Q:β->Prop)(h:Ev2 g Q)(hk:∀ x,Q x->Ev2 (λ n m=>k n m x) P):Ev2 (λ n m=>(g n m).bind (k n m)) P :=
 QS (cH h hk)
theorem gh {g:Nat->Nat->Option (β⊕α)}{k:Nat->Nat->β->Option α}(h:Ev2 g (λ s=>match s with|.inl x=>Ev2 (λ n m=>k n m x) P|.inr y=>P y)):Ev2 (λ n m=>jn (g n m) (k n m)) P:=by
 obtain ⟨s,h1,M,h3⟩:=h
 cases s with
 | inl x=>
  obtain ⟨r,h1,N,h2⟩:=h1;exact ⟨r,h1,N+M,λ n m hn hm=>(congrArg (λ o=>jn o (k n m)) (h3 n m O O)).trans (h2 n m O O)⟩
 | inr y=>exact ⟨y,h1,M,λ n m hn hm=>(congrArg (λ o=>jn o (k n m)) (h3 n m hn hm)).trans Z⟩
theorem ez {g:Nat->Nat->Option (β⊕α)}{k:Nat->Nat->β->Option α}(x:β)(h:Ev2 g (·=.inl x))(hk:Ev2 (λ n m=>k n m x) P):Ev2 (λ n m=>jn (g n m) (k n m)) P :=
 gh (cH h λ r hr=>by subst hr; exact hk)
theorem kt {g:Nat->Nat->Option (β⊕α)}{k:Nat->Nat->β->Option α}(y:α)(h:Ev2 g (·=.inr y))(hy:P y):Ev2 (λ n m=>jn (g n m) (k n m)) P :=
 gh (cH h λ r hr=>by subst hr; exact hy)
theorem bD {f:Nat->Option α}(h:Ev2 (λ n _=>f (n+1)) P):Ev2 (λ n _=>f n) P:=by
 obtain ⟨r,h1,N,h2⟩:=h;refine ⟨r,h1,N+1,λ n m hn hm=>?_⟩;obtain ⟨n,rfl⟩:∃ k,n=k+1:=⟨n-1,by omega⟩
 exact h2 n n O O
theorem aM {f:Nat->Nat->Option α}(h:Ev2 (λ n m=>f n (m+1)) P):Ev2 f P:=by
 obtain ⟨r,h1,N,h2⟩:=h;refine ⟨r,h1,N+1,λ n m hn hm=>?_⟩;obtain ⟨m,rfl⟩:∃ k,m=k+1:=⟨m-1,by omega⟩
 exact h2 n m O O
theorem bc {f:Nat->Nat->Option α}(h:Ev2 f P):Ev2 (λ n _=>f n n) P:=by
 obtain ⟨r,h1,N,h2⟩:=h;exact ⟨r,h1,N,λ n _ hn _=>h2 n n hn hn⟩
theorem Se {f:Nat->Option α}(h:Ev2 (λ n _=>f n) P):∃ n r,f n=some r/\P r:=by
 obtain ⟨r,h1,N,h2⟩:=h;exact ⟨N,r,h2 N N (bt _) (bt _),h1⟩
theorem aA {o:Option α}{r:α}(h:o=some r)(hp:P r):Ev2 (λ _ _=>o) P:=⟨r,hp,0,λ _ _ _ _=>h⟩
theorem Uh {f:Nat->Nat->Option α}{r:α}(h:Ev2 f (·=r))(hp:P r):Ev2 f P:=cH h λ _ e=>e ▸ hp
end
theorem Sv {i:Int}{l:Nat}(h:0<=i/\i<(l:Int)):∃ k:Nat,i=k/\k<l:=⟨i.toNat,by omega,by omega⟩
theorem me {α:Type} [Inhabited α] (l:List α)(k:Nat)(h:k<l.length):lat l (k:Int)=l[k]:=by
 rw [A4,List.getD_eq_getElem?_getD,List.getElem?_eq_getElem h]; rfl
theorem mz {α:Type} [Inhabited α] {l:List α}{i:Int}(h:0<=i/\i<(l.length:Int)):lat l i∈l:=by
 obtain ⟨k,rfl,hk⟩:=Sv h;rw [me l k hk]; exact List.getElem_mem hk
variable {p:Prop}
theorem NL (h:p:=by
 refine ⟨⟨λ j x h=>?_,λ id cs h=>⟨cs,(NS h2 id cs h).trans h,bt _,λ i c d a b=>by grind [AV.sub_refl]⟩⟩,h3⟩
 grind [DY,AS.get,AV.sub_refl]):p:=h
theorem FF (h:p:=by
 subst e;simp only [AV.mapA] at h
 cases hl:AV.mapA.go (λ _=>none) cs with
 | none=>rw [hl] at h; cases h
 | some l=>rw [hl] at h; cases h; simp only [AV.dem]; exact congrArg _ (vl hl rfl)):p:=h
theorem qI (h:p:=by
 exact rU (k:=k) h hM):p:=h
theorem Kg (h:p:=by
 by_cases hp:p
 ·rw [decide_eq_true hp] at hT; exact mG (x6 hT) (h1 hp (TE hp h))
 ·rw [decide_eq_false hp] at hT; exact mG (x6 hT) (h2 hp (if_f hp h))):p:=h
theorem yd (h:p:=by exact rU (k:=k) h hM):p:=h
class UW (p:Prop) (q:outParam Prop):Prop where
 go:q->p
class UO (p:Prop) (b:outParam Bool) (q:outParam Prop):Prop where
 go:b=false->q->p
section
variable {K P:AS->Prop} {Q:Exit->AS->Prop} {s:AS} {id id':Nat}
instance:UW (uE K Q .ret s) (Q .ret s):=⟨lM⟩
instance:UW (uE K Q (.exit id) s) (Q (.exit id) s):=⟨jZ⟩
instance:UW (lY id Q .ret s) (Q .ret s):=⟨jX⟩
instance:UW (lY id Q .normal s) (Q .normal s):=⟨gN⟩
instance:UW (lY id Q (.exit id) s) (Q .normal s):=⟨iK⟩
instance:UO (lY id Q (.exit id') s) (Nat.beq id' id) (Q (.exit id') s):=⟨gu⟩
instance:UW (noGoto Q .ret s) (Q .ret s):=⟨noGoto_ret⟩
instance:UW (noGoto Q (.exit id) s) (Q (.exit id) s):=⟨noGoto_exit⟩
instance:UW (noGoto Q .normal s) (Q .normal s):=⟨noGoto_normal⟩
instance:UW (exQ id P Q (.exit id) s) (P s):=⟨pK⟩
instance:UO (exQ id P Q (.exit id') s) (Nat.beq id' id) (Q (.exit id') s):=⟨kc⟩
instance:UW (exQ id P Q .ret s) (Q .ret s):=⟨ol⟩
instance:UW (exQ id P Q .normal s) (Q .normal s):=⟨jy⟩
end
theorem oi {α:Type}{a b:α}(h:some a=some b):a=b:=Option.some.inj h
theorem dt {p:Prop} [Decidable p] (h:p):decide p=true:=decide_eq_true h
theorem df {p:Prop} [Decidable p] (h:¬p):decide p=false:=decide_eq_false h
theorem sr {x:AV}:x.sub x:=AV.sub_refl x
theorem er {s:List (Nat×AV)}{j:Nat}{x:AV}(h:look s j=some x):∃ y,look s j=some y/\y.sub x:=⟨x,h,sr⟩
end Go.Ab
namespace Go.Ab
def Le {α:Type}(o o':Option α):Prop:=∀ r,o=some r->o'=some r
section
variable {α β:Type}
theorem aT (o:Option α):Le o o:=λ _ h=>h
end
end Go.Ab
namespace Go.Ab
open Go.RowKit
end Go.Ab
namespace Go.Ab
/- The steps that occur most,their closed facts by themselves. -/
end Go.Ab
namespace Go.Ab
section
variable {C:Cx} {ops:Array Oper} {K:AS->Prop} {sl base:List (Nat×AV)} {ob:List (Nat×List AV)} {r:List Oper} {o:Oper} {d k:Nat} {rev:Rev}
def mvX:Op->Option Operand|.move x=>some x|.assign x=>some x|_=>none
def mvF (n:Nat)(o:Oper)(sl:List (Nat×AV)):Option (Nat×AV) :=
 match mvX o.op with
 | some x=>(match o.dst with
  | some d=>bif Nat.blt d n then (match evo sl x with|some y=>some (d,y)|none=>none) else none
  | none=>none)
 | none=>none
def gdF (ops:Array Oper)(o:Oper)(sl:List (Nat×AV)):Option (Bool×AV) :=
 match o.guard with
 | some (j,w)=>(match (ops.toList[j]?).bind (·.dst) with
  | some t=>(match look sl t with|some x=>some (w,x)|none=>none)
  | none=>none)
 | none=>none
theorem AR {w:Bool}{x:AV}(h:gdF ops o sl=some (w,x)):∃ j t,o.guard=some (j,w)/\(ops.toList[j]?).bind (·.dst)=some t/\look sl t=some x:=by
 grind [gdF]
theorem gy {w b:Bool}(hb:b=w)(h:gdF ops o sl=some (w,.p (.val (.bool b))))(h1:bu C o (iH C ops r K) ⟨sl,ob⟩):iH C ops (o::r) K ⟨sl,ob⟩:=by
 grind [AR,xl]
def dsF (n:Nat)(o:Oper):Option Nat:=match o.dst with
 | some d=>bif Nat.blt d n then some d else none
 | none=>none
theorem qT {n:Nat}(h:dsF n o=some d):o.dst=some d/\Nat.blt d n=true:=by
 grind [dsF]
def knK:Rev->Nat->Option Nat|[],_=>none|(k,i,_)::r,j=>bif Nat.beq i j then some k else knK r j
def knX (base:List (Nat×AV))(o:Oper)(rev:Rev)(i:Nat):Option AV :=
 match look base i with
 | some x=>some x
 | none=>(match knK rev i with
  | some k=>bif (o.after.toList.any λ e=>Nat.beq e.on k&&Region.binds .any e) then (match yx rev k with
    | some (j,x)=>bif Nat.beq j i then some x else none
    | none=>none) else none
  | none=>none)
def NP (base:List (Nat×AV))(o:Oper)(rev:Rev):List Nat->Option (List (Nat×AV))
 | []=>some []
 | i::r=>match knX base o rev i with
  | some x=>(match NP base o rev r with|some l=>some ((i,x)::l)|none=>none)
  | none=>none
theorem Oo {i:Nat}{x:AV}(h:knX base o rev i=some x):look base i=some x\/∃ k,(o.after.toList.any λ e=>Nat.beq e.on k&&Region.binds .any e)=true/\yx rev k=some (i,x):=by
 grind [knX,Nat.eq_of_beq_eq_true]
theorem Gr:∀ {l:List Nat} {kn:List (Nat×AV)},NP base o rev l=some kn->Ih base o rev kn
 | [],kn,h=>by cases h; trivial
 | i::l,kn,h=>by
  unfold NP at h
  cases hx:knX base o rev i with
  | none=>grind
  | some x=>
   rw [hx] at h;simp only at h
   cases hr:NP base o rev l with
   | none=>grind
   | some m=>rw [hr] at h; cases h; exact ⟨Oo hx,Gr hr⟩
def nwF (base:List (Nat×AV))(rev:Rev)(o:Oper):Option Nat:=match o.dst with
 | some d=>bif (rev.all λ p=>!(Nat.beq p.2.1 d)) then (match look base d with|none=>some d|some _=>none) else none
 | none=>none
theorem o0 (h:nwF base rev o=some d):o.dst=some d/\(rev.all λ p=>!(Nat.beq p.2.1 d))=true/\look base d=none:=by
 grind [nwF]
theorem dq {rest:List Oper}{kn:List (Nat×AV)}(x:AV)(l:List Nat)(hk:NP base o rev l=some kn)(hs:rx C ops ob o kn d x)(hn:nwF base rev o=some d)(h:DQ C ops base ob K rest (k+1) ((k,d,x)::rev)):DQ C ops base ob K (o::rest) k rev :=
 zT x kn (Gr hk) hs (o0 hn).1 (o0 hn).2.1 (o0 hn).2.2 h
theorem kY {kn:List (Nat×AV)}(hs:∀ i x,look kn i=some x->look sl i=some x){x:Operand}{y:AV}(h:evo kn x=some y):evo sl x=some y:=by
 cases x with
 | tmp t=>exact hs _ _ h
 | const v=>exact h
 | func f=>exact h
 | global g=>exact h
end
abbrev fa:=@sU
abbrev l1:=@sy
abbrev st:=@qw
abbrev cs:=@ko
abbrev cc:=@bV
abbrev sq:=@qR
abbrev sk:=@xn
abbrev gl:=@dZ
abbrev lb:=@Nat.le_of_ble_eq_true
end Go.Ab
namespace Go.Ab
inductive Fr where
 | sq (y:Code)
 | bk (id:Nat)
 | ng
 | jo (P:AS->Prop)
 | je (id:Nat) (P:AS->Prop)
inductive Ct where
 | cd (c:Code)
 | op (ops:Array Oper) (r:List Oper)
 | ex (e:Exit)
structure Cf where
 c:Ct
 k:List Fr
 s:AS
def dn (C:Cx)(Q:Exit->AS->Prop):List Fr->Exit->AS->Prop|[]=>λ e s=>∃ t,cN C s t/\Q e t|.sq y::k=>uE (awp C y (dn C Q k)) (dn C Q k)|.bk id::k=>lY id (dn C Q k)|.ng::k=>noGoto (dn C Q k)|.jo P::k=>uE (λ s=>∃ t,cN C s t/\P t) (dn C Q k)|.je id P::k=>exQ id (λ s=>∃ t,cN C s t/\P t) (dn C Q k)
def M (C:Cx)(Q:Exit->AS->Prop):Cf->Prop|⟨.cd c,k,s⟩=>awp C c (dn C Q k) s|⟨.op ops r,k,s⟩=>iH C ops r (dn C Q k .normal) s|⟨.ex e,k,s⟩=>dn C Q k e s
def pop:List Fr->Exit->AS->Option Cf
 | [],e,s=>some ⟨.ex e,[],s⟩
 | .sq y::k,.normal,s=>some ⟨.cd y,k,s⟩
 | .sq _::k,.exit i,s=>pop k (.exit i) s
 | .sq _::k,.ret,s=>pop k .ret s
 | .bk _::k,.normal,s=>pop k .normal s
 | .bk id::k,.exit i,s=>(match Nat.beq i id with|true=>pop k .normal s|false=>pop k (.exit i) s)
 | .bk _::k,.ret,s=>pop k .ret s
 | .ng::k,.normal,s=>pop k .normal s
 | .ng::k,.exit i,s=>pop k (.exit i) s
 | .ng::k,.ret,s=>pop k .ret s
 | .jo P::k,.normal,s=>some ⟨.ex .normal,.jo P::k,s⟩
 | .jo _::k,.exit i,s=>pop k (.exit i) s
 | .jo _::k,.ret,s=>pop k .ret s
 | .je _ _::k,.normal,s=>pop k .normal s
 | .je id P::k,.exit i,s=>(match Nat.beq i id with|true=>some ⟨.ex (.exit i),.je id P::k,s⟩|false=>pop k (.exit i) s)
 | .je _ _::k,.ret,s=>pop k .ret s
 | _,_,_=>none
section
variable {C:Cx} {Q:Exit->AS->Prop} {ops:Array Oper} {K:AS->Prop} {sl:List (Nat×AV)} {ob:List (Nat×List AV)} {r:List Oper} {o:Oper} {d:Nat} {s s':AS} {k:List Fr}
theorem rU:∀ {k:List Fr} {e:Exit} {c:Cf},pop k e s=some c->M C Q c->dn C Q k e s
 | [],e,c,h,hM=>by simp only [pop,bx] at h; subst h; exact hM
 | .sq y::k,e,c,h,hM=>by
  cases e <;> simp only [pop,bx,reduceCtorEq] at h
  ·subst h; exact hM
  ·exact qI
  ·exact qI
 | .bk id::k,e,c,h,hM=>by
  cases e <;> simp only [pop,reduceCtorEq] at h
  ·exact qI
  ·rename_i i;split at h
   ·rename_i hb;rw [cl hb];exact iK yd
   ·rename_i hb; exact gu hb yd
  ·exact qI
 | .ng::k,e,c,h,hM=>by
  cases e <;> simp only [pop,reduceCtorEq] at h
  ·exact qI
  ·exact qI
  ·exact qI
 | .jo P::k,e,c,h,hM=>by
  cases e <;> simp only [pop,bx,reduceCtorEq] at h
  ·subst h; exact hM
  ·exact qI
  ·exact qI
 | .je id P::k,e,c,h,hM=>by
  cases e <;> simp only [pop,reduceCtorEq] at h
  ·exact jy yd
  ·rename_i i;split at h
   ·rename_i hb
    cases h; exact hM
   ·rename_i hb; exact kc hb yd
  ·exact ol yd
def C4 (C:Cx)(o:Oper):AS->AV->Option AS
 | ⟨sl,ob⟩,y=>match o.dst with
  | some d=>(match Nat.blt d C.n with|true=>some ⟨(d,y)::sl,ob⟩|false=>none)
  | none=>none
theorem zO {y:AV}(h:C4 C o ⟨sl,ob⟩ y=some s'):∃ d,o.dst=some d/\Nat.blt d C.n=true/\s'=⟨(d,y)::sl,ob⟩:=by
 grind [C4]
def ikE (a b:IntKind):Bool:=Nat.beq a.ctorIdx b.ctorIdx
theorem Ja {a b:IntKind}(h:ikE a b=true):a=b:=by cases a <;> cases b <;> first|rfl|cases h
def pkP (sl:List (Nat×AV))(x y:Operand):Option AV->Option AV|some (.p (.val (.bool true)))=>evo sl x|some (.p (.val (.bool false)))=>evo sl y|_=>none
def bnP (C:Cx)(op:BinOp)(t:TypeId):Option AV->Option AV->Option AV
 | some (.p (.val (.int k a))),some (.p (.val (.int k' b)))=>(match ikE k' k with
  | true=>(match O2 op a b with
   | some c=>some (.p (.val (.bool c)))
   | none=>(match Qh k op a b with
    | some c=>some (.p (.val (.int k c)))
    | none=>(match ikE k .i64 with
     | true=>none
     | false=>(match arI op a b with
      | some c=>some (.p (.val (.int k (k.wrap c))))
      | none=>none))))
  | false=>none)
 | some (.p (.val (.bool a))),some (.p (.val (.bool b)))=>(match look C.tt t with
  | some i=>(match i.k with
   | .bool=>(match RZ op a b with|some c=>some (.p (.val (.bool c)))|none=>none)
   | _=>none)
  | none=>none)
 | _,_=>none
def faP (C:Cx)(t f:Nat)(X:Option AV):Option AV:=match look C.tt t with
 | some i=>(match i.k with
  | .struct fs=>(match fs[f]? with
   | some (off,ft)=>(match look C.tt ft with
    | some j=>(match Nat.beq j.size 0 with
     | false=>(match X with
      | some (.ptr id k)=>some (.ptr id (k+off))
      | some (.rptr cs)=>some (.rptr (cs.drop off))
      | _=>none)
     | true=>none)
    | none=>none)
   | none=>none)
  | _=>none)
 | none=>none
def ldP (C:Cx)(ob:List (Nat×List AV))(t:Nat)(X:Option AV):Option AV:=match look C.tt t with
 | some i=>(match X with
  | some (.ptr id k)=>(match look ob id with
   | some cs=>(match i.k.isAgg with
    | false=>cs[k]?
    | true=>(match Nat.ble (k+i.size) cs.length with
     | true=>(match pf ((cs.drop k).take i.size) with
      | .p y=>some (.p y)
      | .agg l=>some (.agg l)
      | _=>none)
     | false=>none))
   | none=>none)
  | some (.rptr cs)=>(match i.k.isAgg with
   | false=>(match cs.head? with|some y=>some (.p y)|none=>none)
   | true=>(match Nat.ble i.size cs.length with
    | true=>some (.p (.agg (cs.take i.size)))
    | false=>none))
  | _=>none)
 | none=>none
def nrm {α:Type}:List α->Option (List α)
 | []=>some []
 | x::r=>(match nrm r with|some l=>some (x::l)|none=>none)
theorem vm {α:Type}:∀ {l l':List α},nrm l=some l'->l'=l
 | [],l',h=>by cases h; rfl
 | x::r,l',h=>by
  unfold nrm at h;split at h
  ·rename_i m hm; cases h; rw [vm hm]
  ·cases h
def stP (C:Cx)(o:Oper)(sl:List (Nat×AV))(ob:List (Nat×List AV))(t:Nat)(x v:Operand):Option AS:=match o.dst with
 | none=>(match look C.tt t with
  | some i=>(match evo sl x with
   | some (.ptr id k)=>(match evo sl v with
    | some y=>(match y.cellsA with
     | some xs=>(match Nat.beq xs.length i.size with
      | true=>(match look ob id with
       | some cs=>(match Nat.ble (k+xs.length) cs.length with
        | true=>(match nrm (qu cs k xs) with
         | some ds=>some ⟨sl,(id,ds)::ob⟩
         | none=>none)
        | false=>none)
       | none=>none)
      | false=>none)
     | none=>none)
    | none=>none)
   | _=>none)
  | none=>none)
 | some _=>none
def frc:AV->Option AV|.undef=>some .undef|.p x=>some (.p x)|.agg cs=>some (.agg cs)|.vec a b c e=>some (.vec a b c e)|.arr a b c e=>some (.arr a b c e)|.ptr a b=>some (.ptr a b)|.bptr a b c=>some (.bptr a b c)|.rptr cs=>some (.rptr cs)|.tuple vs=>some (.tuple vs)|.func f cs=>some (.func f cs)|.mp a b=>some (.mp a b)|.mpr a b c d e=>some (.mpr a b c d e)|.stk a b c=>some (.stk a b c)|.sem ts R=>some (.sem ts R)|.it a b c=>some (.it a b c)|.vecp a b c e=>some (.vecp a b c e)|.elp a b=>some (.elp a b)
theorem zQ {x y:AV}(h:frc x=some y):y=x:=by cases x <;> (cases h; rfl)
def dmS (D:Nat->Bool):List (Nat×AV)->Option (List (Nat×AV))
 | []=>some []
 | (i,x)::r=>(match frc (x.dem D) with
  | some y=>(match dmS D r with|some l=>some ((i,y)::l)|none=>none)
  | none=>none)
theorem sZ {D:Nat->Bool}:∀ {l l':List (Nat×AV)},dmS D l=some l'->l'=l.map λ p=>(p.1,p.2.dem D)
 | [],l',h=>by cases h; rfl
 | (i,x)::r,l',h=>by
  unfold dmS at h;split at h
  ·rename_i y hy;split at h
   ·rename_i m hm; cases h; rw [zQ hy,sZ hm]; rfl
   ·cases h
  ·cases h
def dmC (D:Nat->Bool):List AV->Option (List AV)
 | []=>some []
 | x::r=>(match frc (x.dem D) with
  | some y=>(match dmC D r with|some l=>some (y::l)|none=>none)
  | none=>none)
theorem Ep {D:Nat->Bool}:∀ {l l':List AV},dmC D l=some l'->l'=pJ D l
 | [],l',h=>by cases h; rfl
 | x::r,l',h=>by
  unfold dmC at h;split at h
  ·rename_i y hy;split at h
   ·rename_i m hm; cases h; rw [zQ hy,Ep hm]; rfl
   ·cases h
  ·cases h
def dmO (D:Nat->Bool):List (Nat×List AV)->Option (List (Nat×List AV))
 | []=>some []
 | (i,cs)::r=>(match D i with
  | true=>dmO D r
  | false=>(match dmC D cs with
   | some ds=>(match dmO D r with|some l=>some ((i,ds)::l)|none=>none)
   | none=>none))
theorem tB {D:Nat->Bool}:∀ {l l':List (Nat×List AV)},dmO D l=some l'->l'=(l.filter λ p=>!D p.1).map λ p=>(p.1,pJ D p.2)
 | [],l',h=>by cases h; rfl
 | (i,cs)::r,l',h=>by
  unfold dmO at h;split at h
  ·rename_i hD; rw [tB h]; grind
  ·rename_i hD;split at h
   ·rename_i ds hds;split at h
    ·rename_i m hm; cases h; rw [Ep hds,tB hm]; grind
    ·cases h
   ·cases h
def nwP (C:Cx)(o:Oper)(sl0:List (Nat×AV))(ob0:List (Nat×List AV))(cs:List AV):Option AS:=match o.dst with
 | some d=>(match Nat.blt d C.n with
  | true=>(match dmS (λ i=>Nat.beq i d) sl0 with
   | some sl=>(match dmC (λ i=>Nat.beq i d) cs with
    | some ds=>(match dmO (λ i=>Nat.beq i d) ob0 with
     | some ob=>some ⟨(d,.ptr d 0)::sl,(d,ds)::ob⟩
     | none=>none)
    | none=>none)
   | none=>none)
  | false=>none)
 | none=>none
theorem J6 {cs:List AV}(h:nwP C o sl ob cs=some s'):∃ d,o.dst=some d/\Nat.blt d C.n=true/\s'=⟨(d,.ptr d 0)::(cW (λ i=>Nat.beq i d) ⟨sl,ob⟩).sl,(d,pJ (λ i=>Nat.beq i d) cs)::(cW (λ i=>Nat.beq i d) ⟨sl,ob⟩).ob⟩:=by
 unfold nwP at h;split at h
 ·rename_i d hd;split at h
  ·rename_i hn;split at h
   ·rename_i a ha;split at h
    ·rename_i b hb;split at h
     ·rename_i c hc
      cases h
      exact ⟨d,hd,hn,by rw [sZ ha,Ep hb,tB hc]; rfl⟩
     ·cases h
    ·cases h
   ·cases h
  ·cases h
 ·cases h
def ncP:Option AV->Option AV|some (.ptr id k)=>some (.ptr id k)|_=>none
def xtP (k:Nat):Option AV->Option AV|some (.tuple l)=>l[k]?|_=>none
def ntP:Option AV->Option AV|some (.p (.val (.bool b)))=>some (.p (.val (.bool (!b))))|_=>none
def flP (C:Cx)(t f:Nat)(X:Option AV):Option AV:=match look C.tt t with
 | some i=>(match i.k with
  | .struct fs=>(match fs[f]? with
   | some (off,ft)=>(match look C.tt ft with
    | some j=>(match X with
     | some (.p (.agg cs))=>(match j.k.isAgg with
      | false=>(match cs[off]? with|some c=>some (.p c)|none=>none)
      | true=>(match Nat.ble (off+j.size) cs.length with
       | true=>(match nrm ((cs.drop off).take j.size) with
        | some ds=>some (.p (.agg ds))
        | none=>none)
       | false=>none))
     | _=>none)
    | none=>none)
   | none=>none)
  | _=>none)
 | none=>none
def cvP (C:Cx)(st dt:Nat)(X:Option AV):Option AV:=match look C.tt st with
 | some i=>(match i.k with
  | .int k'=>(match look C.tt dt with
   | some j=>(match j.k with
    | .int k=>(match X with
     | some (.p (.val (.int k2 a)))=>(match ikE k2 k' with
      | true=>(match ikE k .i64 with
       | true=>none
       | false=>some (.p (.val (.int k (k.wrap a)))))
      | false=>none)
     | _=>none)
    | _=>none)
   | none=>none)
  | _=>none)
 | none=>none
def agP (cs:List AV):Option AV:=match nrm cs with
 | some ds=>(match pf ds with
  | .p y=>some (.p y)
  | .agg l=>some (.agg l)
  | _=>none)
 | none=>none
def buP (C:Cx)(t:Nat)(X:Option (List (Nat×AV))):Option AV:=match look C.tt t with
 | some i=>(match i.k with
  | .struct fs=>(match sH C.tt fs with
   | some pl=>(match X with
    | some ps=>(match vY (λ (i:Nat)=>pl[i]?) (ib i) ps with
     | some cs=>agP cs
     | none=>none)
    | none=>none)
   | none=>none)
  | .array _ e=>(match look C.tt e with
   | some ie=>(match X with
    | some ps=>(match vY (λ (k:Nat)=>some (k*ie.size,ie.size)) (ib i) ps with
     | some cs=>agP cs
     | none=>none)
    | none=>none)
   | none=>none)
  | _=>none)
 | none=>none
def laP (C:Cx)(c:Call)(sl:List (Nat×AV)):Option AV:=match c with
 | ⟨.builtin .len,⟨[x]⟩,⟨[t]⟩⟩=>(match look C.tt t with
  | some i=>(match i.k with
   | .slice _=>(match evo sl x with
    | some (.arr _ _ _ m)=>some (.p (.val (.int .i64 (m:Int))))
    | _=>none)
   | _=>none)
  | none=>none)
 | _=>none
def alP (C:Cx)(o:Oper)(sl:List (Nat×AV))(ob:List (Nat×List AV))(t:Nat):Option AS:=match look C.tt t with
 | some i=>(match AV.cellsA (.agg (ib i)) with
  | some cs=>(match nrm cs with|some ds=>nwP C o sl ob ds|none=>none)
  | none=>none)
 | none=>none
def bxP (C:Cx)(o:Oper)(sl:List (Nat×AV))(ob:List (Nat×List AV))(v:Operand):Option AS:=match evo sl v with
 | some x=>(match x.cellsA with
  | some cs=>(match nrm cs with|some ds=>nwP C o sl ob ds|none=>none)
  | none=>none)
 | none=>none
def opV (C:Cx)(o:Oper)(sl:List (Nat×AV))(ob:List (Nat×List AV)):Option AV:=match o.op with
 | .move x=>evo sl x
 | .assign x=>evo sl x
 | .pick c x y=>pkP sl x y (evo sl c)
 | .binOp op t x y _=>bnP C op t (evo sl x) (evo sl y)
 | .unOp .not _ x=>ntP (evo sl x)
 | .fieldAddr t x f=>faP C t f (evo sl x)
 | .load t x=>ldP C ob t (evo sl x)
 | .nilCheck x=>ncP (evo sl x)
 | .extract x k=>xtP k (evo sl x)
 | .field t x f=>flP C t f (evo sl x)
 | .convert st dt x=>cvP C st dt (evo sl x)
 | .build t parts=>buP C t (gw sl parts.toList)
 | .call c=>laP C c sl
 | _=>none
def opF (C:Cx)(o:Oper):AS->Option AS
 | ⟨sl,ob⟩=>match o.op with
 | .store t x v=>stP C o sl ob t x v
 | .box _ v=>bxP C o sl ob v
 | .alloc t=>alP C o sl ob t
 | .move x=>(match evo sl x with
  | some y=>C4 C o ⟨sl,ob⟩ y
  | none=>C4 C o ⟨sl,ob⟩ .undef)
 | .assign x=>(match evo sl x with
  | some y=>C4 C o ⟨sl,ob⟩ y
  | none=>C4 C o ⟨sl,ob⟩ .undef)
 | _=>(match opV C o sl ob with
  | some y=>C4 C o ⟨sl,ob⟩ y
  | none=>none)
theorem Ss {c x y:Operand}{z:AV}(ho:o.op=.pick c x y)(h:pkP sl x y (evo sl c)=some z)(hd:o.dst=some d)(hn:Nat.blt d C.n=true)(hK:K ⟨(d,z)::sl,ob⟩):bu C o K ⟨sl,ob⟩:=by
 generalize hc:evo sl c=v at h;unfold pkP at h
 grind [ou,qe]
theorem RY {op:BinOp}{t t':TypeId}{x y:Operand}{z:AV}(ho:o.op=.binOp op t x y t')(h:bnP C op t (evo sl x) (evo sl y)=some z)(h1:o.dst=some d)(h2:Nat.blt d C.n=true)(hK:K ⟨(d,z)::sl,ob⟩):bu C o K ⟨sl,ob⟩:=by
 generalize hx:evo sl x=X at h;generalize hy:evo sl y=Y0z at h;unfold bnP at h
 grind [Ja,TO,S4,NG,Qk]
theorem Si {t f:Nat}{x:Operand}{z:AV}(ho:o.op=.fieldAddr t x f)(h:faP C t f (evo sl x)=some z)(h1:o.dst=some d)(h2:Nat.blt d C.n=true)(hK:K ⟨(d,z)::sl,ob⟩):bu C o K ⟨sl,ob⟩:=by
 generalize hx:evo sl x=X at h;unfold faP at h;split at h
 ·rename_i i hi;split at h
  ·grind [sU,yM]
  ·cases h
 ·cases h
theorem S7 {t:Nat}{x:Operand}{z:AV}(ho:o.op=.load t x)(h:ldP C ob t (evo sl x)=some z)(h1:o.dst=some d)(h2:Nat.blt d C.n=true)(hK:K ⟨(d,z)::sl,ob⟩):bu C o K ⟨sl,ob⟩:=by
 generalize hx:evo sl x=X at h;unfold ldP at h;split at h
 ·grind [sy,vB,HT,HW]
 ·cases h
theorem So {t:Nat}{x v:Operand}(ho:o.op=.store t x v)(h:stP C o sl ob t x v=some s')(hK:K s'):bu C o K ⟨sl,ob⟩:=by
 unfold stP at h;split at h
 ·rename_i hd;split at h
  ·rename_i i hi;split at h
   ·rename_i id k hx;split at h
    ·grind [vm,qw,Nat.eq_of_beq_eq_true,Nat.le_of_ble_eq_true]
    ·cases h
   ·cases h
  ·cases h
 ·cases h
theorem TB {t:Nat}{v:Operand}(ho:o.op=.box t v)(h:bxP C o sl ob v=some s')(hK:K s'):bu C o K ⟨sl,ob⟩:=by
 unfold bxP at h
 grind [J6,vm,EG]
theorem TL {t:Nat}(ho:o.op=.alloc t)(h:alP C o sl ob t=some s')(hK:K s'):bu C o K ⟨sl,ob⟩:=by
 unfold alP at h
 grind [J6,vm,AV.cellsA,ny]
theorem TC {x:Operand}{z:AV}(ho:o.op=.nilCheck x)(h:ncP (evo sl x)=some z)(h1:o.dst=some d)(h2:Nat.blt d C.n=true)(hK:K ⟨(d,z)::sl,ob⟩):bu C o K ⟨sl,ob⟩:=by
 generalize hx:evo sl x=X at h;unfold ncP at h
 grind [A5]
theorem TX {x:Operand}{n:Nat}{z:AV}(ho:o.op=.extract x n)(h:xtP n (evo sl x)=some z)(h1:o.dst=some d)(h2:Nat.blt d C.n=true)(hK:K ⟨(d,z)::sl,ob⟩):bu C o K ⟨sl,ob⟩:=by
 generalize hx:evo sl x=X at h;unfold xtP at h
 grind [Ew]
theorem SA {t:TypeId}{x:Operand}{z:AV}(ho:o.op=.unOp .not t x)(h:ntP (evo sl x)=some z)(h1:o.dst=some d)(h2:Nat.blt d C.n=true)(hK:K ⟨(d,z)::sl,ob⟩):bu C o K ⟨sl,ob⟩:=by
 generalize hx:evo sl x=X at h;unfold ntP at h
 grind [To]
theorem TT {t f:Nat}{x:Operand}{z:AV}(ho:o.op=.field t x f)(h:flP C t f (evo sl x)=some z)(h1:o.dst=some d)(h2:Nat.blt d C.n=true)(hK:K ⟨(d,z)::sl,ob⟩):bu C o K ⟨sl,ob⟩:=by
 generalize hx:evo sl x=X at h;unfold flP at h;split at h
 ·rename_i i hi;split at h
  ·rename_i fs hk;split at h
   ·grind [Hv,vm,HU]
   ·cases h
  ·cases h
 ·cases h
theorem RU {st dt:Nat}{x:Operand}{z:AV}(ho:o.op=.convert st dt x)(h:cvP C st dt (evo sl x)=some z)(h1:o.dst=some d)(h2:Nat.blt d C.n=true)(hK:K ⟨(d,z)::sl,ob⟩):bu C o K ⟨sl,ob⟩:=by
 generalize hx:evo sl x=X at h;unfold cvP at h;split at h
 ·rename_i i hi;split at h
  ·grind [Ja,LS]
  ·cases h
 ·cases h
theorem Oq {cs:List AV}{z:AV}(h:agP cs=some z):some (pf cs)=some z:=by
 grind [agP,vm]
theorem RP {t:Nat}{parts:Array (Nat×Operand)}{z:AV}(ho:o.op=.build t parts)(h:buP C t (gw sl parts.toList)=some z)(h1:o.dst=some d)(h2:Nat.blt d C.n=true)(hK:K ⟨(d,z)::sl,ob⟩):bu C o K ⟨sl,ob⟩:=by
 generalize hps:gw sl parts.toList=X at h;unfold buP at h;split at h
 ·rename_i i hi;split at h
  ·grind [rV,Oq]
  ·grind [BD,Oq]
  ·cases h
 ·cases h
theorem TH {c:Call}{z:AV}(ho:o.op=.call c)(h:laP C c sl=some z)(h1:o.dst=some d)(h2:Nat.blt d C.n=true)(hK:K ⟨(d,z)::sl,ob⟩):bu C o K ⟨sl,ob⟩:=by
 unfold laP at h
 grind [QP]
theorem xz {y:AV}(h:opV C o sl ob=some y)(h1:o.dst=some d)(h2:Nat.blt d C.n=true)(hK:K ⟨(d,y)::sl,ob⟩):bu C o K ⟨sl,ob⟩:=by
 grind [opV,wC,oM,Ss,RY,SA,Si,S7,TC,TX,TT,RU,RP,TH]
theorem FC (h:opF C o ⟨sl,ob⟩=some s')(hK:K s'):bu C o K ⟨sl,ob⟩:=by
 grind [opF,So,TB,TL,zO,wC,Dl,oM,yD,xz]
def isU:Value->Bool|.tuple a=>Nat.beq a.size 0|_=>false
theorem Ml {v:Value}(h:isU v=true):v=Go.undef:=by
 unfold isU at h;split at h
 ·rename_i a;have:=cl h;have:=Array.eq_empty_of_size_eq_zero this;subst this; rfl
 ·cases h
def GY (C:Cx)(o:Oper)(s:AS):Option AS:=C4 C o s (.p (.val Go.undef))
def guF (C:Cx)(o:Oper)(s:AS):Option (Bool×AV)->Option AS
 | some (true,.p (.val (.bool true)))=>opF C o s
 | some (true,.p (.val (.bool false)))=>GY C o s
 | some (false,.p (.val (.bool true)))=>GY C o s
 | some (false,.p (.val (.bool false)))=>opF C o s
 | some (_,.p (.val v))=>(match isU v with|true=>GY C o s|false=>none)
 | _=>none
def oF (C:Cx)(ops:Array Oper)(o:Oper):AS->Option AS
 | ⟨sl,ob⟩=>match o.guard with
  | none=>opF C o ⟨sl,ob⟩
  | some _=>guF C o ⟨sl,ob⟩ (gdF ops o sl)
theorem Ub (h:oF C ops o ⟨sl,ob⟩=some s')(hK:iH C ops r K s'):iH C ops (o::r) K ⟨sl,ob⟩:=by
 unfold oF at h;dsimp only at h;split at h
 ·grind [ni,FC]
 ·rename_i p hg
  have pass:∀ {w:Bool} {b:Bool},gdF ops o sl=some (w,.p (.val (.bool b)))->b=(!w)->GY C o ⟨sl,ob⟩=some s'->iH C ops (o::r) K ⟨sl,ob⟩:=by
   intro w b hgd hb hp;obtain ⟨d,h1,h2,rfl⟩:=zO hp
   grind [AR,yH]
  generalize hgd:gdF ops o sl=G0z at h;unfold guF at h;split at h
  ·grind [gy,FC]
  ·grind
  ·grind
  ·grind [gy,FC]
  ·rename_i v hno1 hno2 hno3 hno4;split at h
   ·rename_i hu;have:=Ml hu; subst this;obtain ⟨d,h1,h2,rfl⟩:=zO h
    grind [AR,wj]
   ·cases h
  ·cases h
def cdE (s:AS)(x:Operand):Option AV:=match s with|⟨sl,_⟩=>evo sl x
def cdF (C:Cx)(k:List Fr)(s:AS):Code->Option Cf
 | .seq x y=>some ⟨.cd x,.sq y::k,s⟩
 | .block id x=>some ⟨.cd x,.bk id::k,s⟩
 | .scope x=>some ⟨.cd x,.ng::k,s⟩
 | .skip=>pop k .normal s
 | .label _=>pop k .normal s
 | .exit id=>pop k (.exit id) s
 | .ret=>pop k .ret s
 | .region _ ops draw=>(match draw with|false=>some ⟨.op ops ops.toList,k,s⟩|true=>none)
 | .cond c x y=>(match cdE s c with
  | some (.p (.val (.bool true)))=>some ⟨.cd x,k,s⟩
  | some (.p (.val (.bool false)))=>some ⟨.cd y,k,s⟩
  | _=>none)
 | _=>none
def stp (C:Cx):Cf->Option Cf
 | ⟨.ex e,k,s⟩=>pop k e s
 | ⟨.op _ [],k,s⟩=>pop k .normal s
 | ⟨.op ops (o::r),k,s⟩=>(match oF C ops o s with|some s'=>some ⟨.op ops r,k,s'⟩|none=>none)
 | ⟨.cd c,k,s⟩=>cdF C k s c
theorem Sb {c:Code}{c':Cf}(h:cdF C k s c=some c')(hM:M C Q c'):awp C c (dn C Q k) s:=by
 unfold cdF at h;split at h
 ·cases h; exact qR hM
 ·cases h; exact IM hM
 ·cases h; exact H0 hM
 ·exact xn (rU h hM)
 ·exact IF (rU h hM)
 ·exact M5 (rU h hM)
 ·exact AG (rU h hM)
 ·split at h
  ·cases h; exact tX hM
  ·cases h
 ·have hs:∀ c,cdE s c=evo s.sl c:=λ c=>by cases s; rfl
  split at h
  ·rename_i hc; cases h; exact LV (DK ((hs _).symm.trans hc)) rfl hM
  ·rename_i hc; cases h; exact HX (DK ((hs _).symm.trans hc)) rfl hM
  ·cases h
 ·cases h
theorem D3 {c c':Cf}(h:stp C c=some c')(hM:M C Q c'):M C Q c:=by
 unfold stp at h;split at h
 ·exact rU h hM
 ·exact rN (rU h hM)
 ·split at h
  ·rename_i s0 hs; cases h; exact Ub hs hM
  ·cases h
 ·exact Sb h hM
def run (C:Cx):Nat->Cf->Option Cf
 | 0,c=>some c
 | n+1,c=>(match stp C c with|some c'=>run C n c'|none=>none)
theorem nx:∀ (n:Nat) {c c':Cf},run C n c=some c'->M C Q c'->M C Q c
 | 0,c,c',h,hM=>by cases h; exact hM
 | n+1,c,c',h,hM=>by
  unfold run at h;split at h
  ·rename_i c1 h1; exact D3 h1 (nx n h hM)
  ·cases h
theorem rY:∀ {k:List Fr} {e:Exit} {s t:AS},cN C s t->dn C Q k e t->dn C Q k e s
 | [],e,s,t,hg,⟨u,h1,h2⟩=>⟨u,aJ hg h1,h2⟩
 | .sq y::k,e,s,t,hg,h=>by
  cases e with
  | normal=>exact uY hg h
  | _=>exact rY (k:=k) hg h
 | .bk id::k,e,s,t,hg,h=>by
  cases e with
  | exit i=>
   simp only [dn,lY] at h ⊢;split
   ·rename_i e; rw [if_pos e] at h; exact rY (k:=k) hg h
   ·rename_i e; rw [if_neg e] at h; exact rY (k:=k) hg h
  | _=>exact rY (k:=k) hg h
 | .ng::k,e,s,t,hg,h=>by
  cases e with
  | goto l=>exact h
  | _=>exact rY (k:=k) hg h
 | .jo P::k,e,s,t,hg,h=>by
  cases e with
  | normal=>obtain ⟨u,h1,h2⟩:=h; exact ⟨u,aJ hg h1,h2⟩
  | _=>exact rY (k:=k) hg h
 | .je id P::k,e,s,t,hg,h=>by
  cases e with
  | exit i=>
   simp only [dn,exQ] at h ⊢;split
   ·grind [aJ]
   ·rename_i e; rw [if_neg e] at h; exact rY (k:=k) hg h
  | _=>exact rY (k:=k) hg h
theorem mG {c:Ct}{t:AS}(hg:cN C s t)(h:M C Q ⟨c,k,t⟩):M C Q ⟨c,k,s⟩:=by
 cases c with
 | cd c=>exact uY hg h
 | op ops r=>exact Fh hg h
 | ex e=>exact rY hg h
theorem kX {c:Code}{σ:Type}(A:σ->Prop)(mk:σ->AS)(h2:∀ v,A v->M C Q ⟨.ex .normal,k,mk v⟩)(h1:M C Q ⟨.cd c,.jo (λ t=>∃ v,A v/\t=mk v)::k,s⟩):M C Q ⟨.cd c,k,s⟩ :=
 M9 _ (λ s' ⟨_,hg,v,hv,e⟩=>rY hg (e ▸ h2 v hv)) h1
theorem kEx (id:Nat){c:Code}{σ:Type}(A:σ->Prop)(mk:σ->AS)(h2:∀ v,A v->M C Q ⟨.ex (.exit id),k,mk v⟩)(h1:M C Q ⟨.cd c,.je id (λ t=>∃ v,A v/\t=mk v)::k,s⟩):M C Q ⟨.cd c,k,s⟩ :=
 KD id _ (λ s' ⟨_,hg,v,hv,e⟩=>rY hg (e ▸ h2 v hv)) h1
theorem eX {σ:Type}{A:σ->Prop}{mk:σ->AS}(v:σ)(hv:A v)(hg:cN C s (mk v)):M C Q ⟨.ex .normal,.jo (λ t=>∃ v,A v/\t=mk v)::k,s⟩:=⟨mk v,hg,v,hv,rfl⟩
theorem eXi {σ:Type}{A:σ->Prop}{mk:σ->AS}{id:Nat}(v:σ)(hv:A v)(hg:cN C s (mk v)):M C Q ⟨.ex (.exit id),.je id (λ t=>∃ v,A v/\t=mk v)::k,s⟩:=by
 show dn C Q (.je id (λ t=>∃ v,A v/\t=mk v)::k) (.exit id) s;simp only [dn,exQ,if_true]; grind
theorem lG {c:Code}{σ O0z:Type}(mk:σ->AS)(lp:Nat->σ->Option O0z)(hz:∀ q,lp 0 q=none){o:O0z}{n:Nat}(q0:σ)(h0:lp n q0=some o)(hle:cN C s (mk q0))
  (round:∀ m q,lp (m+1) q=some o->M C Q ⟨.cd c,.jo (λ t=>∃ q',lp m q'=some o/\t=mk q')::k,mk q⟩):M C Q ⟨.cd (.loop c),k,s⟩:=by
 refine Ic mk lp hz q0 h0 hle λ m q hq=>ru (λ e s' h=>?_) (round m q hq)
 cases e with
 | normal=>obtain ⟨u,hg,q',h1,rfl⟩:=h; exact ⟨q',h1,hg⟩
 | _=>exact h
def lks (sl:List (Nat×AV)):List Nat->Option (List AV)
 | []=>some []
 | t::r=>(match look sl t with
  | some x=>(match lks sl r with|some l=>some (x::l)|none=>none)
  | none=>none)
def stB (b:Bool)(sl:List (Nat×AV)):List Nat->List (Nat×AV)|[]=>sl|t::r=>(t,.p (.val (.bool b)))::stB b sl r
theorem JQ {b:Bool}:∀ {T:List Nat},lks sl T=some (T.map λ _=>.p (.val (.bool b)))->∀ j x,look (stB b sl T) j=some x->look sl j=some x
 | [],_,j,x,h=>h
 | t::r,hT,j,x,h=>by
  unfold lks at hT;split at hT
  ·rename_i y hy;split at hT
   ·rename_i l hl;simp only [n7,bx,List.cons.injEq] at hT;simp only [stB,aZ] at h;split at h
    ·grind
    ·exact JQ (hl.trans (congrArg some hT.2)) j x h
   ·cases hT
  ·cases hT
theorem x6 {b:Bool}{T:List Nat}(hT:lks sl T=some (T.map λ _=>.p (.val (.bool b)))):cN C ⟨sl,ob⟩ ⟨stB b sl T,ob⟩ :=
 dZ ⟨λ j x hx=>by
  grind [JQ,AS.get,AV.sub_refl],λ id cs h=>⟨cs,h,bt _,λ i c d hc hd=>by grind [AV.sub_refl]⟩⟩
theorem fD {c:Ct}{p:Prop} [Decidable p] {α:Type}{a b:Option α}{v:α}(T:List Nat)(h:(if p then a else b)=some v)(hT:lks sl T=some (T.map λ _=>.p (.val (.bool (decide p)))))
  (h1:p->a=some v->M C Q ⟨c,k,⟨stB true sl T,ob⟩⟩) (h2:¬p->b=some v->M C Q ⟨c,k,⟨stB false sl T,ob⟩⟩):M C Q ⟨c,k,⟨sl,ob⟩⟩:=by
 exact Kg
theorem fN {c:Ct}{p:Prop} [Decidable p] {α:Type}{a b:Option α}{v:α}(T:List Nat)(h:(if p then a else b)=some v)(hT:lks sl T=some (T.map λ _=>.p (.val (.bool (!decide p)))))
  (h1:p->a=some v->M C Q ⟨c,k,⟨stB false sl T,ob⟩⟩) (h2:¬p->b=some v->M C Q ⟨c,k,⟨stB true sl T,ob⟩⟩):M C Q ⟨c,k,⟨sl,ob⟩⟩:=by
 exact Kg
theorem fB {c:Ct}{p:Bool}{α:Type}{a b:Option α}{v:α}(T:List Nat)(h:(if p=true then a else b)=some v)(hT:lks sl T=some (T.map λ _=>.p (.val (.bool p))))
  (h1:p=true->a=some v->M C Q ⟨c,k,⟨stB true sl T,ob⟩⟩) (h2:p=false->b=some v->M C Q ⟨c,k,⟨stB false sl T,ob⟩⟩):M C Q ⟨c,k,⟨sl,ob⟩⟩:=by
 cases p
 ·exact mG (x6 hT) (h2 Z (UD Z h))
 ·exact mG (x6 hT) (h1 Z (TE Z h))
theorem lT {c:Ct}{q b:Bool}(T:List Nat)(hb:q=b)(hT:lks sl T=some (T.map λ _=>.p (.val (.bool q))))(h:M C Q ⟨c,k,⟨stB b sl T,ob⟩⟩):M C Q ⟨c,k,⟨sl,ob⟩⟩:=by
 subst hb; exact mG (x6 hT) h
def gF (ops:Array Oper)(o:Oper)(sl:List (Nat×AV)):Bool:=match o.guard with
 | none=>true
 | some _=>(match gdF ops o sl with
  | some (true,.p (.val (.bool true)))=>true
  | some (false,.p (.val (.bool false)))=>true
  | _=>false)
theorem mO (hg:gF ops o sl=true)(h:bu C o (λ s'=>M C Q ⟨.op ops r,k,s'⟩) ⟨sl,ob⟩):M C Q ⟨.op ops (o::r),k,⟨sl,ob⟩⟩:=by
 unfold gF at hg;split at hg
 ·rename_i hn; exact ni hn h
 ·generalize hgd:gdF ops o sl=G0z at hg;split at hg
  ·exact gy Z hgd h
  ·exact gy Z hgd h
  ·cases hg
theorem bd {α β:Type}{g:Prop}{p:Option α}{f:α->Option β}{v:β}(h:p.bind f=some v)(H:∀ x,p=some x->f x=some v->g):g:=by
 obtain ⟨x,h1,h2⟩:=MV h
 grind
theorem cc' {α:Type}{g:Prop}{p:Prop} [Decidable p] {a:Option α}{v:α}(h:ck p a=some v)(H:p->a=some v->g):g:=by
 grind [kZ]
def biF (C:Cx)(ops:Array Oper)(o:Oper)(sl:List (Nat×AV)):Option (Nat×BinOp×AV×AV):=match gF ops o sl with
 | true=>(match dsF C.n o with
  | some d=>(match o.op with
   | .binOp op _ x y _=>(match evo sl x with
    | some X=>(match evo sl y with
     | some Y0z=>some (d,op,X,Y0z)
     | none=>none)
    | none=>none)
   | _=>none)
  | none=>none)
 | false=>none
theorem EJ {op:BinOp}{X Y0z:AV}(h:biF C ops o sl=some (d,op,X,Y0z)):gF ops o sl=true/\o.dst=some d/\Nat.blt d C.n=true/\∃ t x y t',o.op=.binOp op t x y t'/\evo sl x=some X/\evo sl y=some Y0z:=by
 unfold biF at h;split at h
 ·grind [qT]
 ·cases h
theorem oA {α:Type}{a:Option α}{v:α}{op:BinOp}{x y c:Int}(h:ck (inR c) a=some v)(hb:biF C ops o sl=some (d,op,.p (.val (.int .i64 x)),.p (.val (.int .i64 y))))(hc:arI op x y=some c)
  (H:inR c->a=some v->M C Q ⟨.op ops r,k,⟨(d,.p (eI c))::sl,ob⟩⟩):M C Q ⟨.op ops (o::r),k,⟨sl,ob⟩⟩:=by
 obtain ⟨hg,hd,hn,t,X,Y0z,t',ho,hx,hy⟩:=EJ hb;obtain ⟨h1,h2⟩:=kZ h;exact mO hg (gJ ho hd hn hx hy hc h1 (H h1 h2))
theorem oS {op:BinOp}{x y:Bk}{c:Bool}(hb:biF C ops o sl=some (d,op,.p (.val (.string (str x))),.p (.val (.string (str y)))))(hc:PF op x y=some c)
  (H:M C Q ⟨.op ops r,k,⟨(d,.p (eB c))::sl,ob⟩⟩):M C Q ⟨.op ops (o::r),k,⟨sl,ob⟩⟩:=by
 obtain ⟨hg,hd,hn,t,X,Y0z,t',ho,hx,hy⟩:=EJ hb;exact mO hg (ko ho hd hn hx hy hc H)
theorem oC {α:Type}{a:Option α}{v:α}{x y:Bk}(h:ck (x.length+y.length<=9223372036854775807) a=some v)(hb:biF C ops o sl=some (d,.add,.p (.val (.string (str x))),.p (.val (.string (str y)))))
  (H:x.length+y.length<=9223372036854775807->a=some v->M C Q ⟨.op ops r,k,⟨(d,.p (eS (x++y)))::sl,ob⟩⟩):M C Q ⟨.op ops (o::r),k,⟨sl,ob⟩⟩:=by
 obtain ⟨hg,hd,hn,t,X,Y0z,t',ho,hx,hy⟩:=EJ hb;obtain ⟨h1,h2⟩:=kZ h;exact mO hg (bV ho hd hn hx hy h1 (H h1 h2))
def lnF (C:Cx)(ops:Array Oper)(o:Oper)(sl:List (Nat×AV)):Option (Nat×Bool×AV):=match gF ops o sl with
 | true=>(match dsF C.n o with
  | some d=>(match o.op with
   | .call ⟨.builtin .len,⟨[x]⟩,⟨[t]⟩⟩=>(match look C.tt t with
    | some i=>(match evo sl x with
     | some X=>(match i.k with
      | .string=>some (d,true,X)
      | .slice _=>some (d,false,X)
      | _=>none)
     | none=>none)
    | none=>none)
   | _=>none)
  | none=>none)
 | false=>none
theorem oLs {x:Bk}(hb:lnF C ops o sl=some (d,true,.p (.val (.string (str x)))))(H:M C Q ⟨.op ops r,k,⟨(d,.p (eI (x.length:Int)))::sl,ob⟩⟩):M C Q ⟨.op ops (o::r),k,⟨sl,ob⟩⟩:=by
 unfold lnF at hb;split at hb
 ·rename_i hg;split at hb
  ·rename_i e hd;split at hb
   ·rename_i z t ho;split at hb
    ·rename_i i hi;split at hb
     ·rename_i X hx;split at hb
      ·rename_i hk; cases hb; exact mO hg (uN ho (qT hd).1 (qT hd).2 hi hk hx H)
      ·cases hb
      ·cases hb
     ·cases hb
    ·cases hb
   ·cases hb
  ·cases hb
 ·cases hb
theorem oLl {α:Type}{f:α->PV}{l:List α}{X:AV}(hb:lnF C ops o sl=some (d,false,X))(hX:X.elems? = some (l.map f))(H:M C Q ⟨.op ops r,k,⟨(d,.p (eI (l.length:Int)))::sl,ob⟩⟩):M C Q ⟨.op ops (o::r),k,⟨sl,ob⟩⟩:=by
 unfold lnF at hb;split at hb
 ·rename_i hg;split at hb
  ·rename_i e hd;split at hb
   ·grind [mO,pN,qT]
   ·cases hb
  ·cases hb
 ·cases hb
def ixF (C:Cx)(ops:Array Oper)(o:Oper)(sl:List (Nat×AV)):Option (Nat×AV×AV):=match gF ops o sl with
 | true=>(match dsF C.n o with
  | some d=>(match o.op with
   | .index t x y=>(match look C.tt t with
    | some i=>(match i.k with
     | .string=>(match evo sl x with
      | some X=>(match evo sl y with|some Y0z=>some (d,X,Y0z)|none=>none)
      | none=>none)
     | _=>none)
    | none=>none)
   | _=>none)
  | none=>none)
 | false=>none
theorem oI {α:Type}{a:Option α}{v:α}{x:Bk}{i:IntKind}{j:Int}(h:ck ((0:Int)<=j/\j<(x.length:Int)) a=some v)(hb:ixF C ops o sl=some (d,.p (.val (.string (str x))),.p (.val (.int i j))))
  (H:(0:Int)<=j/\j<(x.length:Int)->a=some v->M C Q ⟨.op ops r,k,⟨(d,.p (eK .u8 (byt x j)))::sl,ob⟩⟩):M C Q ⟨.op ops (o::r),k,⟨sl,ob⟩⟩:=by
 obtain ⟨h1,h2⟩:=kZ h;unfold ixF at hb;split at hb
 ·rename_i hg;split at hb
  ·rename_i e hd;split at hb
   ·grind [mO,iA,qT]
   ·cases hb
  ·cases hb
 ·cases hb
def slF (C:Cx)(ops:Array Oper)(o:Oper)(sl:List (Nat×AV)):Option (Nat×AV×Option Operand×Option Operand):=match gF ops o sl with
 | true=>(match dsF C.n o with
  | some d=>(match o.op with
   | .slice t x lo hi none=>(match look C.tt t with
    | some i=>(match i.k with
     | .string=>(match evo sl x with
      | some X=>some (d,X,lo,hi)
      | none=>none)
     | _=>none)
    | none=>none)
   | _=>none)
  | none=>none)
 | false=>none
theorem oP {α:Type}{a:Option α}{v:α}{x:Bk}{i j:Int}{lo hi:Option Operand}(h:ck ((0:Int)<=i/\i<=j/\j<=(x.length:Int)) a=some v)(hb:slF C ops o sl=some (d,.p (.val (.string (str x))),lo,hi))(hlo:loI sl lo=some i)(hhi:hiI sl (x.length:Int) hi=some j)
  (H:(0:Int)<=i/\i<=j/\j<=(x.length:Int)->a=some v->M C Q ⟨.op ops r,k,⟨(d,.p (eS (sub x i j)))::sl,ob⟩⟩):M C Q ⟨.op ops (o::r),k,⟨sl,ob⟩⟩:=by
 obtain ⟨h1,h2⟩:=kZ h;unfold slF at hb;split at hb
 ·rename_i hg;split at hb
  ·grind [mO,gV,qT]
  ·cases hb
 ·cases hb
def atF (C:Cx)(ops:Array Oper)(o:Oper)(sl:List (Nat×AV)):Option (Nat×Nat×AV×AV):=match gF ops o sl with
 | true=>(match dsF C.n o with
  | some d=>(match o.op with
   | .indexAddr t x y=>(match look C.tt t with
    | some i=>(match i.k with
     | .slice e=>(match look C.tt e with
      | some ie=>(match evo sl x with
       | some X=>(match evo sl y with|some Y0z=>some (d,ie.size,X,Y0z)|none=>none)
       | none=>none)
      | none=>none)
     | _=>none)
    | none=>none)
   | _=>none)
  | none=>none)
 | false=>none
theorem oE {α β:Type} [Inhabited α] {a:Option β}{v:β}{f:α->PV}{l:List α}{cs:α->List PV}{X:AV}{sz:Nat}{i:IntKind}{j:Int}(h:ck ((0:Int)<=j/\j<(l.length:Int)) a=some v)(U9:∀ x,(f x).cells=cs x)(hb:atF C ops o sl=some (d,sz,X,.p (.val (.int i j))))(hX:X.elems? = some (l.map f))(U0:∀ x,(cs x).length=sz)
  (H:(0:Int)<=j/\j<(l.length:Int)->a=some v->M C Q ⟨.op ops r,k,⟨(d,.rptr (cs (lat l j)))::sl,ob⟩⟩):M C Q ⟨.op ops (o::r),k,⟨sl,ob⟩⟩:=by
 obtain ⟨h1,h2⟩:=kZ h;unfold atF at hb;split at hb
 ·rename_i hg;split at hb
  ·rename_i e hd;split at hb
   ·rename_i t X Y0z ho;split at hb
    ·rename_i i hi;split at hb
     ·rename_i hk;split at hb
      ·rename_i ie hie;split at hb
       ·rename_i hx;split at hb
        ·rename_i hy; cases hb; exact mO hg (dh cs ho (qT hd).1 (qT hd).2 hi hk hie hx hX hy h1 U9 U0 (H h1 h2))
        ·cases hb
       ·cases hb
      ·cases hb
     ·cases hb
    ·cases hb
   ·cases hb
  ·cases hb
 ·cases hb
def clF (C:Cx)(ops:Array Oper)(o:Oper)(sl:List (Nat×AV)):Option (Nat×FuncId×List AV):=match gF ops o sl with
 | true=>(match dsF C.n o with
  | some d=>(match o.op with
   | .call ⟨.value (.func f),args,_⟩=>(match kM sl args.toList with
    | some l=>some (d,f,l)
    | none=>none)
   | _=>none)
  | none=>none)
 | false=>none
theorem oK {f:FuncId}{l:List AV}{q:List PV}{x x':AV}(hc:bA C.P f q (·=x))(hb:clF C ops o sl=some (d,f,l))(hq:Co l q)(henter:∀ vs w,(callFunc f vs).run C.P w=.ok (.enter f vs) w)(hr:x.settle=some x')
  (H:M C Q ⟨.op ops r,k,⟨(d,x')::sl,ob⟩⟩):M C Q ⟨.op ops (o::r),k,⟨sl,ob⟩⟩:=by
 unfold clF at hb
 grind [mO,bQ,qT]
def tO:Operand->List Nat->List Nat|.tmp t,l=>t::l|_,l=>l
def tOs:List Operand->List Nat|[]=>[]|x::r=>tO x (tOs r)
def tms (o:Oper):List Nat:=match o.op with
 | .move x=>tO x []
 | .assign x=>tO x []
 | .pick c x y=>tO c (tO x (tO y []))
 | .binOp _ _ x y _=>tO x (tO y [])
 | .unOp _ _ x=>tO x []
 | .fieldAddr _ x _=>tO x []
 | .load _ x=>tO x []
 | .nilCheck x=>tO x []
 | .extract x _=>tO x []
 | .field _ x _=>tO x []
 | .convert _ _ x=>tO x []
 | .build _ parts=>tOs (parts.toList.map (·.2))
 | .call c=>tOs c.args.toList
 | _=>[]
def gdT (ops:Array Oper)(o:Oper)(l:List Nat):List Nat:=match o.guard with
 | some (j,_)=>(match (ops.toList[j]?).bind (·.dst) with
  | some t=>t::l
  | none=>l)
 | none=>l
def knL (base:List (Nat×AV))(o:Oper)(rev:Rev):List Nat->List (Nat×AV)
 | []=>[]
 | i::r=>(match knX base o rev i with
  | some x=>(i,x)::knL base o rev r
  | none=>knL base o rev r)
theorem Bc {base:List (Nat×AV)}{rev:Rev}:∀ {l:List Nat},Ih base o rev (knL base o rev l)
 | []=>trivial
 | i::r=>by
  unfold knL;split
  ·rename_i x hx; exact ⟨Oo hx,Bc⟩
  ·exact Bc
theorem pU {kn:List (Nat×AV)}(hs:∀ i x,look kn i=some x->look sl i=some x)(x:Operand):evo kn x=none\/evo kn x=evo sl x:=by
 cases h:evo kn x with
 | none=>grind
 | some y=>grind [kY]
theorem yR {kn:List (Nat×AV)}(hs:∀ i x,look kn i=some x->look sl i=some x):∀ {l:List (Nat×Operand)} {ps:List (Nat×AV)},gw kn l=some ps->gw sl l=some ps
 | [],ps,h=>h
 | (i,x)::r,ps,h=>by
  unfold gw at h ⊢;split at h
  ·rename_i y l hy hl; cases h; rw [kY hs hy,yR hs hl]
  ·cases h
theorem Kn {kn:List (Nat×AV)}{y:AV}(hs:∀ i x,look kn i=some x->look sl i=some x)(h:opV C o kn ob=some y):opV C o sl ob=some y:=by
 unfold opV at h ⊢;split at h
 ·exact kY hs h
 ·exact kY hs h
 ·rename_i c x y _;rcases pU hs c with e|e
  ·rw [e] at h; cases h
  ·rw [<- e];generalize evo kn c=z at h;unfold pkP at h ⊢
   grind [kY]
 ·grind [pU,bnP]
 ·rename_i x _; rcases pU hs x with e|e
  ·rw [e] at h; cases h
  grind
 ·rename_i t x f _; rcases pU hs x with e|e
  ·rw [e] at h; unfold faP at h; (repeat' split at h) <;> first|grind|cases h
  grind
 ·grind [pU,ldP]
 ·rename_i x _; rcases pU hs x with e|e
  ·rw [e] at h; cases h
  grind
 ·rename_i x n _; rcases pU hs x with e|e
  ·rw [e] at h; cases h
  grind
 ·rename_i t x f _; rcases pU hs x with e|e
  ·rw [e] at h; unfold flP at h; grind
  grind
 ·rename_i s t x _; rcases pU hs x with e|e
  ·rw [e] at h; unfold cvP at h; grind
  grind
 ·rename_i t parts _
  cases e:gw kn parts.toList with
  | none=>rw [e] at h; unfold buP at h; grind
  | some ps=>grind [yR]
 ·rename_i c _;unfold laP at h ⊢
  grind [pU]
 ·cases h
def oV (C:Cx)(ops:Array Oper)(o:Oper)(sl:List (Nat×AV))(ob:List (Nat×List AV)):Option AV:=match o.guard with
 | none=>opV C o sl ob
 | some _=>(match gdF ops o sl with
  | some (true,.p (.val (.bool true)))=>opV C o sl ob
  | some (true,.p (.val (.bool false)))=>some (.p (.val Go.undef))
  | some (false,.p (.val (.bool true)))=>some (.p (.val Go.undef))
  | some (false,.p (.val (.bool false)))=>opV C o sl ob
  | some (_,.p (.val v))=>(match isU v with|true=>some (.p (.val Go.undef))|false=>none)
  | _=>none)
def drF (C:Cx)(ops:Array Oper)(base:List (Nat×AV))(ob:List (Nat×List AV))(o:Oper)(rev:Rev):Option (Nat×AV):=match nwF base rev o with
 | some d=>(match Nat.blt d C.n with
  | true=>(match oV C ops o (knL base o rev (gdT ops o (tms o))) ob with
   | some y=>some (d,y)
   | none=>none)
  | false=>none)
 | none=>none
theorem OR {kn:List (Nat×AV)}{y:AV}(h:oV C ops o kn ob=some y)(hd:o.dst=some d)(hn:Nat.blt d C.n=true):rx C ops ob o kn d y:=by
 intro sl hs K hK;unfold oV at h;split at h
 ·grind [al,xz,Kn]
 grind [AR,cO,xz,Kn,Lj,Ml,Cz]
def drw (C:Cx)(ops:Array Oper)(base:List (Nat×AV))(ob:List (Nat×List AV)):Nat->List Oper->Nat->Rev->Option (List Oper×Nat×Rev)
 | 0,l,i,rev=>some (l,i,rev)
 | n+1,o::l,i,rev=>(match drF C ops base ob o rev with
  | some (d,y)=>drw C ops base ob n l (i+1) ((i,d,y)::rev)
  | none=>none)
 | _+1,[],_,_=>none
theorem dR {base:List (Nat×AV)}:∀ (n:Nat) {l l':List Oper} {i i':Nat} {rev rev':Rev},drw C ops base ob n l i rev=some (l',i',rev')->DQ C ops base ob K l' i' rev'->DQ C ops base ob K l i rev
 | 0,l,l',i,i',rev,rev',h,hK=>by cases h; exact hK
 | n+1,[],l',i,i',rev,rev',h,hK=>by cases h
 | n+1,o::l,l',i,i',rev,rev',h,hK=>by
  unfold drw at h;split at h
  ·rename_i d y hd;unfold drF at hd;split at hd
   ·rename_i e he;split at hd
    ·rename_i hn;split at hd
     ·rename_i z hz
      cases hd
      exact zT y _ Bc (OR hz (o0 he).1 hn) (o0 he).1 (o0 he).2.1 (o0 he).2.2 (dR n h hK)
     ·cases hd
    ·cases hd
   ·cases hd
  ·cases h
theorem mD (base:List (Nat×AV)){id:Nat}(hm:C.P.follows .mixedOrders=true)(hb:fu sl base)(hord:(ops.toList.zipIdx.all λ p=>p.1.after.toList.all λ e=>!(Region.binds .any e)||Nat.blt e.on p.2)=true)
  (h:DQ C ops base ob (λ s'=>M C Q ⟨.ex .normal,k,s'⟩) ops.toList 0 []):M C Q ⟨.cd (.region id ops true),k,⟨sl,ob⟩⟩:=HY base hm hb hord h
def P0:Rev->List (Nat×AV)->Option (List (Nat×AV))
 | [],b=>some b
 | (_,p)::r,b=>(match P0 r b with|some l=>some (p::l)|none=>none)
theorem GR:∀ {rev:Rev} {b l:List (Nat×AV)},P0 rev b=some l->l=rC rev++b
 | [],b,l,h=>by cases h; rfl
 | (i,p)::r,b,l,h=>by
  unfold P0 at h;split at h
  ·rename_i m hm; cases h; rw [GR hm]; rfl
  ·cases h
theorem dE {base l:List (Nat×AV)}{i:Nat}{rev:Rev}(h:P0 rev base=some l)(hM:M C Q ⟨.ex .normal,k,⟨l,ob⟩⟩):DQ C ops base ob (λ s'=>M C Q ⟨.ex .normal,k,s'⟩) [] i rev :=
 Tl (by grind [GR])
theorem dL {base:List (Nat×AV)}{l:List Oper}{i:Nat}{rev:Rev}{q b:Bool}(hb:q=b)(h:drF C ops base ob o rev=some (d,.p (.val (.bool q))))(hK:DQ C ops base ob K l (i+1) ((i,d,.p (.val (.bool b)))::rev)):DQ C ops base ob K (o::l) i rev:=by
 subst hb;refine dR 1 (l':=l) (i':=i+1) (rev':=(i,d,.p (.val (.bool q)))::rev) ?_ hK
 grind [drw]
theorem mS (S:fy){id:Nat}(hm:C.P.follows .mixedOrders=true)(Pn:S.imp.length=S.m)(hob:S.obj 0=ob)(hb:fu sl (S.bas 0))
  (hbas:∀ j,j<S.m->fu (trL (S.D j) (S.bas j)) (S.bas (j+1))) (hnd:nodupB S.imp=true) (hin:S.imp.all (λ i=>Nat.blt i ops.size)=true) (hch:chainB ops S.imp=true)
  (hord:(ops.toList.zipIdx.all λ p=>p.1.after.toList.all λ e=>!(Region.binds .any e)||Nat.blt e.on p.2)=true) (h:DS C ops S (λ rev=>M C Q ⟨.ex .normal,k,⟨d4 rev S.m++S.bas S.m,S.obj S.m⟩⟩) ops.toList 0 []):M C Q ⟨.cd (.region id ops true),k,⟨sl,ob⟩⟩ :=
 Hy S hm Pn hob hb hbas hnd hin hch hord h
def lkO (ob:List (Nat×List AV)):List Nat->Option (List (List AV))
 | []=>some []
 | t::r=>(match look ob t with
  | some x=>(match lkO ob r with|some l=>some (x::l)|none=>none)
  | none=>none)
theorem DY {sl:List (Nat×AV)}:∀ {q:List (Nat×AV)},lks sl (q.map (·.1))=some (q.map (·.2))->∀ j x,look q j=some x->look sl j=some x
 | [],_,j,x,h=>by cases h
 | (i,y)::r,hT,j,x,h=>by
  simp only [n7] at hT;unfold lks at hT;split at hT
  ·rename_i z hz;split at hT
   ·rename_i l hl;simp only [bx,List.cons.injEq] at hT;rw [aZ] at h;split at h
    ·grind
    ·exact DY (hl.trans (congrArg some hT.2)) j x h
   ·cases hT
  ·cases hT
theorem Li {ob:List (Nat×List AV)}:∀ {q:List (Nat×List AV)},lkO ob (q.map (·.1))=some (q.map (·.2))->∀ j x,look q j=some x->look ob j=some x
 | [],_,j,x,h=>by cases h
 | (i,y)::r,hT,j,x,h=>by
  simp only [n7] at hT;unfold lkO at hT;split at hT
  ·rename_i z hz;split at hT
   ·rename_i l hl;simp only [bx,List.cons.injEq] at hT;rw [aZ] at h;split at h
    ·grind
    ·exact Li (hl.trans (congrArg some hT.2)) j x h
   ·cases hT
  ·cases hT
def lkE (a b:List (Nat×List AV)):List (Nat×List AV)->Prop|[]=>True|(i,_)::r=>look b i=look a i/\lkE a b r
theorem NS {a b:List (Nat×List AV)}:∀ {l:List (Nat×List AV)},lkE a b l->∀ i x,look l i=some x->look b i=look a i
 | [],_,i,x,h=>by cases h
 | (j,y)::r,⟨h1,h2⟩,i,x,h=>by
  rw [aZ] at h;by_cases e:j=i
  ·grind
  ·rw [if_neg e] at h; exact NS h2 i x h
theorem NY {C:Cx}{ops:Array Oper}{S1 S2:fy}{k:Nat}{r1 r2:gf}{imp:List Nat}(h1:lks (d4 r2 S2.m++S2.bas S2.m) ((d4 r1 S1.m++S1.bas S1.m).map (·.1))=some ((d4 r1 S1.m++S1.bas S1.m).map (·.2)))
  (h2:lkE (S1.obj S1.m) (S2.obj S2.m) (S1.obj S1.m)) (h3:vu imp r1 r2) :
  DS C ops S2 (λ rev2=>(⟨d4 rev2 S2.m++S2.bas S2.m,S2.obj S2.m⟩:AS).le ⟨d4 r1 S1.m++S1.bas S1.m,S1.obj S1.m⟩/\vu imp r1 rev2) [] k r2:=by
 exact NL
theorem mSS {C:Cx}{Q:Exit->AS->Prop}{k:List Fr}{ops:Array Oper}{sl:List (Nat×AV)}{ob:List (Nat×List AV)}(S1 S2:fy){id k1 k2:Nat}{r:List Nat}(hm:C.P.follows .mixedOrders=true)
  (hi1:S1.imp=k1::k2::r) (hi2:S2.imp=k2::k1::r) (hlen1:S1.imp.length=S1.m) (hlen2:S2.imp.length=S2.m) (hob1:S1.obj 0=ob) (hob2:S2.obj 0=ob) (hb:fu sl (S1.bas 0)) (hb2:S2.bas 0=S1.bas 0)
  (hbas1:∀ j,j<S1.m->fu (trL (S1.D j) (S1.bas j)) (S1.bas (j+1))) (hbas2:∀ j,j<S2.m->fu (trL (S2.D j) (S2.bas j)) (S2.bas (j+1)))
  (hnd:nodupB (k1::k2::r)=true) (hin:(k1::k2::r).all (λ i=>Nat.blt i ops.size)=true) (hch1:chainB ops (k1::r)=true) (hch2:chainB ops (k2::r)=true)
  (hord:(ops.toList.zipIdx.all λ p=>p.1.after.toList.all λ e=>!(Region.binds .any e)||Nat.blt e.on p.2)=true)
  (h:DS C ops S1 (λ rev1=>M C Q ⟨.ex .normal,k,⟨d4 rev1 S1.m++S1.bas S1.m,S1.obj S1.m⟩⟩/\DS C ops S2 (λ rev2=>(⟨d4 rev2 S2.m++S2.bas S2.m,S2.obj S2.m⟩:AS).le ⟨d4 rev1 S1.m++S1.bas S1.m,S1.obj S1.m⟩/\vu (k1::k2::r) rev1 rev2) ops.toList 0 []) ops.toList 0 []) :
  M C Q ⟨.cd (.region id ops true),k,⟨sl,ob⟩⟩ :=
 EI S1 S2 hm hi1 hi2 hlen1 hlen2 hob1 hob2 hb hb2 hbas1 hbas2 hnd hin hch1 hch2 hord h
theorem gE {s t:AS}(h1:lks s.sl (t.sl.map (·.1))=some (t.sl.map (·.2)))(h2:lkO s.ob (t.ob.map (·.1))=some (t.ob.map (·.2))):cN C s t :=
 dZ ⟨λ j x hx=>by
  grind [DY,AS.get,AV.sub_refl],λ id cs h=>⟨cs,Li h2 id cs h,bt _,λ i c d hc hd=>by grind [AV.sub_refl]⟩⟩
theorem mP {β:Type}{v0:β}{tt:List (Nat×TI)}{fn:Func}{c:Code}(mk:β->AV)(h:M C (λ e s=>∃ v,v=v0/\zJ tt fn (λ x=>x.sub (mk v)) e s) ⟨.cd c,[],s⟩):awp C c (zJ tt fn (λ x=>x.sub (mk v0))) s :=
 ru (λ e s h=>by obtain ⟨t,h1,v,rfl,h2⟩:=h; grind) h |> u9
theorem mQ {β:Type}{v v0:β}{tt:List (Nat×TI)}{fn:Func}{mk:β->AV}{l:List AV}(e:v=v0)(h:po tt fn.results.toList s=some l)(hR:(tg l).sub (mk v)):M C (λ e s=>∃ v,v=v0/\zJ tt fn (λ x=>x.sub (mk v)) e s) ⟨.ex .ret,[],s⟩ :=
 ⟨s,aQ s,v,e,Qn h hR⟩
theorem mQn {β:Type}{v v0:β}{tt:List (Nat×TI)}{fn:Func}{mk:β->AV}{l:List AV}(e:v=v0)(h:po tt fn.results.toList s=some l)(hR:(tg l).sub (mk v)):M C (λ e s=>∃ v,v=v0/\zJ tt fn (λ x=>x.sub (mk v)) e s) ⟨.ex .normal,[],s⟩ :=
 ⟨s,aQ s,v,e,Pm h hR⟩
theorem mPo {β:Type}{v0:β}{tt:List (Nat×TI)}{fn:Func}{ts ids:List Nat}{c:Code}(mk:β->AV)(mo:β->List (Nat×List AV))(h:M C (λ e s=>∃ v,v=v0/\w6 C tt fn ts ids (mk v) (mo v) e s) ⟨.cd c,[],s⟩):awp C c (w6 C tt fn ts ids (mk v0) (mo v0)) s :=
 ru (λ e s h=>by obtain ⟨t,h1,v,rfl,h2⟩:=h; grind) h |> u9
theorem mQo {β:Type}{v v0:β}{tt:List (Nat×TI)}{fn:Func}{ts ids:List Nat}{mk:β->AV}{mo:β->List (Nat×List AV)}{r1:AV}{Ve obs':List (Nat×List AV)}{t:AS}{l:List AV}(e:v=v0)(hg:cN C s t)(h1:po tt fn.results.toList t=some l)(h2:(tg l).mapA (pD ts)=some r1)
  (h3:jm t.ob ids=some Ve) (h4:iT (pD ts) Ve=some obs') (h5:r1.sub (mk v)) (h6:leO obs' (mo v)):M C (λ e s=>∃ v,v=v0/\w6 C tt fn ts ids (mk v) (mo v) e s) ⟨.ex .ret,[],s⟩ :=
 ⟨s,aQ s,v,e,Ac hg h1 h2 h3 h4 h5 h6⟩
theorem Jd {β:Type}{v v0:β}{tt:List (Nat×TI)}{fn:Func}{ts ids:List Nat}{mk:β->AV}{mo:β->List (Nat×List AV)}{r1:AV}{Ve obs':List (Nat×List AV)}{t:AS}{l:List AV}(e:v=v0)(hg:cN C s t)(h1:po tt fn.results.toList t=some l)(h2:(tg l).mapA (pD ts)=some r1)
  (h3:jm t.ob ids=some Ve) (h4:iT (pD ts) Ve=some obs') (h5:r1.sub (mk v)) (h6:leO obs' (mo v)):M C (λ e s=>∃ v,v=v0/\w6 C tt fn ts ids (mk v) (mo v) e s) ⟨.ex .normal,[],s⟩ :=
 ⟨s,aQ s,v,e,QO hg h1 h2 h3 h4 h5 h6⟩
theorem kN {c:Code}{σ:Type}(w:σ)(mk:σ->AS)(h2:M C Q ⟨.ex .normal,k,mk w⟩)(h1:M C Q ⟨.cd c,.jo (λ t=>∃ v,w=v/\t=mk v)::k,s⟩):M C Q ⟨.cd c,k,s⟩ :=
 kX (λ v=>w=v) mk (λ _ e=>e ▸ h2) h1
theorem kE (id:Nat){c:Code}{σ:Type}(w:σ)(mk:σ->AS)(h2:M C Q ⟨.ex (.exit id),k,mk w⟩)(h1:M C Q ⟨.cd c,.je id (λ t=>∃ v,w=v/\t=mk v)::k,s⟩):M C Q ⟨.cd c,k,s⟩ :=
 kEx id (λ v=>w=v) mk (λ _ e=>e ▸ h2) h1
end
end Go.Ab
namespace Go.Ab
/- What holds no identity is not touched by the marks of a box or a new object. -/
mutual
theorem Qx {D:Nat->Bool}:∀ {x y:AV},AV.mapA (λ _=>none) x=some y->y=x->x.dem D=x
 | .undef,_,_,_=>rfl
 | .p _,_,_,_=>rfl
 | .vec ..,y,h,e=>by grind [AV.mapA]
 | .arr ..,_,h,_=>by grind [AV.mapA]
 | .ptr ..,_,h,_=>by grind [AV.mapA]
 | .bptr ..,_,h,_=>by grind [AV.mapA]
 | .mp ..,_,h,_=>by grind [AV.mapA]
 | .mpr ..,_,h,_=>by grind [AV.mapA]
 | .stk ..,_,h,_=>by grind [AV.mapA]
 | .sem ts R,y,h,e=>by
  cases ts with
  | nil=>rfl
  | cons t ts=>grind [AV.mapA,JZ]
 | .it ..,_,h,_=>by grind [AV.mapA]
 | .vecp ..,_,h,_=>by grind [AV.mapA]
 | .elp ..,_,h,_=>by grind [AV.mapA]
 | .rptr _,_,_,_=>rfl
 | .agg cs,y,h,e=>by
  exact FF
 | .tuple cs,y,h,e=>by
  exact FF
 | .func f cs,y,h,e=>by
  exact FF
theorem vl {D:Nat->Bool}:∀ {l l':List AV},AV.mapA.go (λ _=>none) l=some l'->l'=l->pJ D l=l
 | [],_,_,_=>rfl
 | x::r,l',h,e=>by
  subst e;simp only [AV.mapA.go] at h;split at h
  ·rename_i y z hy hz
   cases h
   simp only [pJ,Qx hy rfl,vl hz rfl]
  ·cases h
end
theorem uB {C:List AV}(K:AV.mapA.go (λ _=>none) C=some C)(D:Nat->Bool):pJ D C=C:=vl K Z
theorem gFn {C:Cx}{sl:List (Nat×AV)}{ob:List (Nat×List AV)}{f:Fn}{cs:List AV}(j:Nat)(cs':List AV)(h:look sl j=some (.func f cs))(hc:cs=cs'):cN C ⟨sl,ob⟩ ⟨(j,.func f cs')::sl,ob⟩ :=
 qL j h (hc ▸ AV.sub_refl _)
open Go.Proofs Go.RowKit Go
variable {p:Prop}
theorem KN (h:p:=by
 simp only [List.getElem?_cons_zero,bx] at hx; subst hx;refine ⟨p,rfl,?_⟩;rcases hp with rfl|rfl
 ·exact .bptrn how h Z
 ·exact .bptr how h Z):p:=h
theorem xt (h:p:=by
 rw [Lib.cell_of_heap this]; rfl):p:=h
structure aC where
 If:Bk
def ct (b:aC):Option aC:=some b
def db (b:aC):Option (Bk×aC):=ck (b.If.length<=9223372036854775807)<|some (b.If,b)
theorem RA:∃ j,Tryz.prog.info? 70=some j/\j.size=2:=by
 have h:(Tryz.prog.info? 70).map (·.size)=some 2:=by kernel_rfl
 simp_all
set_option maxRecDepth 100000 in
theorem xu (b:Nat)(w:World)(h0:w.cell? ⟨b,0,none⟩=some (.pointer (some ⟨b,0,none⟩))) :
  Calls Tryz.prog 81 #[.pointer (some ⟨b,0,none⟩)] w λ e w'=>e=.returned (.tuple #[])/\w'=w:=by
 obtain ⟨j,hj,_⟩:=RA
 go_enter Tryz.func81,Tryz.ntmps81
 go_wp2
 rw [Lib.run_neq_ptr_same w _ Tryz.underlying67 hj]
 go_wp2
 go_end0
 grind
set_option maxRecDepth 100000 in
theorem wi (b:Nat)(w:World)(h0:w.cell? ⟨b,0,none⟩=some (.pointer none))(hsh:w.shape? b=some (70,2))(hfz:w.frozen? ⟨b,0,none⟩=false) :
  Calls Tryz.prog 81 #[.pointer (some ⟨b,0,none⟩)] w λ e w'=>e=.returned (.tuple #[])/\w'=w.setCell ⟨b,0,none⟩ (.pointer (some ⟨b,0,none⟩)):=by
 obtain ⟨j,hj,hjs⟩:=RA
 go_enter Tryz.func81,Tryz.ntmps81
 go_wp2
 rw [Lib.run_to_unsafe w ⟨b,0,none⟩ Tryz.underlying67 Tryz.underlying153 hj (by grind) hsh (Nat.zero_lt_succ 1)];simp only [Result.andThen];rw [Oper.upon_value]
 go_wp2
 rw [run_callFunc_extern Tryz.func111 (by kernel_rfl) (by kernel_rfl) (by kernel_rfl) (e:=Extern.AbiNoEscape.same) (by kernel_rfl)];rw [Lib.run_noEscape];simp only [Result.andThen];rw [Oper.upon_value]
 go_wp2
 rw [Lib.run_from_unsafe w ⟨b,0,none⟩ Tryz.underlying153 Tryz.underlying67 hj hsh (by kernel_rfl)];simp only [Result.andThen];rw [Oper.upon_value]
 go_wp2
 go_end0
 grind
structure F5 (b:Nat)(w w':World):Prop where
 os:w'.os=w.os
 out:w'.output=w.output
 tape:w'.tape=w.tape
 size:w'.heap.size=w.heap.size
 other:∀ k,k≠b->w'.heap[k]? = w.heap[k]?
def back (i:Nat):Option Nat:=if i=900000 then some 2000000 else if i=1000000 then some 1000000 else none
def ghB (g:Gh):Gh:=⟨g.st,λ i=>if i=2000000 then g.ow 900000 else if M1<=i/\i<2*M1 then g.ow i else none⟩
theorem Ah {g:Gh}{i b:Nat}(h:(ghB g).ow i=some b):(i=2000000/\g.ow 900000=some b)\/(M1<=i/\i<2*M1/\g.ow i=some b):=by
 grind [ghB]
theorem Dm {g:Gh}:∀ i j b,back i=some j->g.ow i=some b->(ghB g).ow j=some b:=by
 intro i j b h hb;unfold back at h;split at h
 ·grind [ghB]
 ·split at h
  ·cases h; subst_vars
   simp only [ghB];rw [if_neg (by decide),if_pos (by decide)]; exact hb
  ·cases h
theorem Gb {w w':World}{g:Gh}{b:Nat}(hok:Ok0 w g.st)(hown:∀ i b,g.ow i=some b->b<w.heap.size/\i<2*M1)
  (hinj:∀ i j b,g.ow i=some b->g.ow j=some b->i=j) (hnst:∀ i b,M1<=i->g.ow i=some b->∀ o,¬ g.st b o)
  (hb:g.ow 1000000=some b) (h:F5 b w w')
  (hsh:∀ (c:Array Value) (e:TypeId),w.heap[b]? = some (.cells c e (0,0))->∃ c':Array Value,w'.heap[b]? = some (.cells c' e (0,0))/\c'.size=c.size):pV w g w' (ghB g):=by
 have hbs:∀ o,¬ g.st b o:=hnst _ b (bt _) hb
 have U4:Ev w g.st w' g.st:=λ k o hk=>⟨hk,by
  have:k≠b:=λ e=>hbs o (e ▸ hk)
  simp only [World.cell?,h.other k this]⟩
 refine ⟨h.os,h.out,h.tape,by rw [h.size]; grind,λ k hk hno=>h.other k (λ e=>hno 1000000 (e ▸ hb)),λ i k hi=>?_,λ i j k hi hj=>?_,λ k o hk=>by rw [h.size]; exact hok.lt k o hk,λ k hk _ o=>Iff.rfl,λ i h1 h2=>?_,λ i k c e h1 h2 h3=>?_,λ i k hi hk o=>hnst i k hi hk o,U4⟩
 ·rcases Ah hi with ⟨_,h1⟩|⟨_,_,h1⟩
  ·exact ⟨by rw [h.size]; grind,.inr ⟨_,h1⟩⟩
  ·exact ⟨by rw [h.size]; grind,.inr ⟨_,h1⟩⟩
 ·rcases Ah hi with ⟨e1,h1⟩|⟨a1,a2,h1⟩ <;> rcases Ah hj with ⟨e2,h2⟩|⟨b1,b2,h2⟩
  ·omega
  ·grind [M1]
  ·grind [M1]
  grind
 ·grind [ghB,M1]
 ·by_cases e1:k=b
  ·grind
  ·exact ⟨c,(h.other k e1).trans h3,Z⟩
theorem Uq {w w':World}{g:Gh}{b:Nat}(hbs:∀ o,¬ g.st b o)(h:F5 b w w')(hc:∃ c e,w.heap[b]? = some (.cells c e (0,0)))
  (hsh:∀ (c:Array Value) (e:TypeId),w.heap[b]? = some (.cells c e (0,0))->∃ c':Array Value,w'.heap[b]? = some (.cells c' e (0,0))/\c'.size=c.size):EvO (λ _=>false) w g w' g:=by
 refine ⟨λ k o hk=>⟨hk,?_⟩,λ _ _ _ h=>h,λ id k c e _ _ hk=>?_,λ _ _ _ _ _ h=>h,λ id k es k' _ _ hk=>(h.other k (λ e=>by grind)).trans hk,λ _ _=>rfl,λ id k o _ _ ho=>h.other k (λ e=>hbs o (e ▸ ho))⟩
 ·have:k≠b:=λ e=>hbs o (e ▸ hk);simp only [World.cell?,h.other k this]
 ·by_cases e1:k=b
  ·grind
  ·exact ⟨c,(h.other k e1).trans hk,Z⟩
theorem NF {w:World}{g:Gh}{es:List PV}{vs:Array Value}{T ty:Nat}(U0:vs.size=1)
  (hargs:∀ (i:Nat) c v,[AV.ptr 1000000 0][i]? = some c->vs[i]? = some v->ARep w g c v)
  (hobs:∀ id cs,look [(1000000,[AV.bptr T 2 1000000,AV.vec 900000 1 ty es])] id=some cs->jJ w g id cs) :
  ∃ b p q,g.ow 1000000=some b/\vs=#[.pointer (some ⟨b,0,none⟩)]/\w.heap[b]? = some (.cells #[p,q] T (0,0))/\(∀ o,¬ g.st b o) /\
   (p=.pointer none\/p=.pointer (some ⟨b,0,none⟩))/\ARep w g (.vec 900000 1 ty es) q:=by
 obtain ⟨b,c,e,h1,h2,h3,h4,h5⟩:=hobs 1000000 _ rfl;obtain ⟨p,hp,hpr⟩:=h5 0 _ rfl;obtain ⟨q,hq,hqr⟩:=h5 1 _ rfl;have hv0:vs[0]? = some vs[0]:=Array.getElem?_eq_getElem O;have ha:=hargs 0 _ _ rfl hv0
 have hvs:vs=#[vs[0]]:=by
  grind
 have hc:∀ c1:Array Value,c1=c->c1.size=2->c=#[p,q]:=by
  grind
 have hav:vs[0]=.pointer (some ⟨b,0,none⟩):=by
  generalize vs[0]=v at ha
  cases ha with
  | ptr how=>grind
 refine ⟨b,p,q,h1,by grind,?_,h4,?_,hqr⟩
 ·cases hpr with
  | bptrn how hb U9=>grind
  | bptr how hb U9=>grind
 ·cases hpr with
  | bptrn how hb U9=>grind
  | bptr how hb U9=>grind
theorem ob_B {w':World}{g:Gh}{es:List PV}{T ty b:Nat}{p q:Value}(hb:g.ow 1000000=some b)(h4:∀ o,¬ g.st b o)(h:w'.heap[b]? = some (.cells #[p,q] T (0,0)))
  (hp:p=.pointer none\/p=.pointer (some ⟨b,0,none⟩)) (hq:ARep w' g (.vec 900000 1 ty es) q):jJ w' (ghB g) 1000000 [.bptr T 2 1000000,.vec 2000000 1 ty es]:=by
 have how:(ghB g).ow 1000000=some b:=Dm 1000000 1000000 b Z hb;refine ⟨b,#[p,q],T,how,h,by simp,h4,λ i x hx=>?_⟩
 match i,hx with
 | 0,hx=>
  exact KN
 | 1,hx=>
  simp only [List.getElem?_cons_succ,List.getElem?_cons_zero,bx] at hx; subst hx;exact ⟨q,rfl,nD (m:=back) (g:=g) (g':=ghB g) rfl Dm hq rfl⟩
 | n+2,hx=>simp at hx
theorem ge (b_0:aC)(r:aC)(h0:ct b_0=some r):cj Tryz.prog 81 [.ptr 1000000 0] [(1000000,[.bptr 70 2 1000000,.vec 900000 1 (5+1) (b_0.If.map eU)])]
  (λ x y=>x=.tuple []/\y=[(1000000,[.bptr 70 2 1000000,.vec 2000000 1 (5+1) (r.If.map eU)])]):=by
 cases h0
 intro w g vs hok hown hinj hnst U0 hargs hobs;obtain ⟨b,p,q,hb,rfl,hheap,hbs,hp,hq⟩:=NF U0 hargs hobs;have hc0:w.cell? ⟨b,0,none⟩=some p:=by grind [World.cell?]
 rcases hp with rfl|rfl
 ·refine (wi b w hc0 (by grind [World.shape?]) (by grind [World.frozen?])).mono ?_;rintro e w' ⟨rfl,rfl⟩;have hO:F5 b w (w.setCell ⟨b,0,none⟩ (.pointer (some ⟨b,0,none⟩))):=⟨rfl,rfl,rfl,by simp,λ k hk=>Below.heap_setCell _ _ _ _ hk⟩
  have hheap':(w.setCell ⟨b,0,none⟩ (.pointer (some ⟨b,0,none⟩))).heap[b]? = some (.cells #[.pointer (some ⟨b,0,none⟩),q] 70 (0,0)):=by
   grind [World.setCell]
  have hsh:∀ (c:Array Value) (e:TypeId),w.heap[b]? = some (.cells c e (0,0))->∃ c':Array Value,(w.setCell ⟨b,0,none⟩ (.pointer (some ⟨b,0,none⟩))).heap[b]? = some (.cells c' e (0,0))/\c'.size=c.size:=λ c e h=>by
   grind
  refine ⟨_,_,_,ghB g,Z,⟨Z,Z⟩,.tuple Z G,λ x hx=>?_,Gb hok hown hinj hnst hb hO hsh⟩;simp only [List.mem_singleton] at hx; subst hx;exact ob_B hb hbs hheap' (.inr Z) (hq.mono (Uq hbs hO ⟨_,_,hheap⟩ hsh))
 ·refine (xu b w hc0).mono ?_;rintro e w' ⟨rfl,rfl⟩;have hO:F5 b w' w':=⟨rfl,rfl,rfl,rfl,λ k hk=>rfl⟩
  refine ⟨_,_,_,ghB g,Z,⟨Z,Z⟩,.tuple Z G,λ x hx=>?_,Gb hok hown hinj hnst hb hO (λ c e h=>⟨c,h,Z⟩)⟩
  grind [ob_B]
theorem A0:Tryz.prog.follows .mixedOrders=true:=by kernel_rfl
theorem tM (w:World):Below w.heap.size w w.drew:=Below.drew (Below.refl _ w)
set_option maxRecDepth 100000 in
theorem FJ (b:Nat)(p:Value)(w:World)(hbk:w.heap[b]? = some (.cells #[p,.slice none 0 0] 70 (0,0))) :
  Calls Tryz.prog 30 #[.pointer (some ⟨b,0,none⟩)] w λ e w'=>e=.returned (.string ⟨#[]⟩)/\Below w.heap.size w w':=by
 have mixed:=A0;have hUS:∀ (W:World) (q:Option Addr),(Builtin.unsafeString_ #[110,3] 9 #[.pointer q,.int .i64 0]).run Tryz.prog W=.ok (.string .empty) W:=λ W q=>Lib.run_unsafeString_none W _ _ _ q
 have c1:w.drew.cell? ⟨b,1,none⟩=some (.slice none 0 0):=by
  have:w.drew.heap[b]? = some (.cells #[p,.slice none 0 0] 70 (0,0)):=hbk;exact xt
 have hSD:(Builtin.unsafeSliceData_ #[68] 110 #[.slice none 0 0]).run Tryz.prog w.drew=.ok (.pointer none) w.drew:=rfl
 go_enter Tryz.func30,Tryz.ntmps30
 go_wp2
 go_region_o
 all_goals (go_wp2; go_ret; exact ⟨Z,tM w⟩)
set_option maxRecDepth 100000 in
theorem BL (b g cap:Nat)(p:Value)(w:World)(hc0:cap≠0)(hbk:w.heap[b]? = some (.cells #[p,.slice (some ⟨g,0,none⟩) 0 cap] 70 (0,0))) :
  Calls Tryz.prog 30 #[.pointer (some ⟨b,0,none⟩)] w λ e w'=>e=.returned (.string ⟨#[]⟩)/\Below w.heap.size w w':=by
 have mixed:=A0;have hUS:∀ (W:World) (q:Option Addr),(Builtin.unsafeString_ #[110,3] 9 #[.pointer q,.int .i64 0]).run Tryz.prog W=.ok (.string .empty) W:=λ W q=>Lib.run_unsafeString_none W _ _ _ q
 have c1:w.drew.cell? ⟨b,1,none⟩=some (.slice (some ⟨g,0,none⟩) 0 cap):=by
  have:w.drew.heap[b]? = some (.cells #[p,.slice (some ⟨g,0,none⟩) 0 cap] 70 (0,0)):=hbk;exact xt
 have hSD:(Builtin.unsafeSliceData_ #[68] 110 #[.slice (some ⟨g,0,none⟩) 0 cap]).run Tryz.prog w.drew=.ok (.pointer (some ⟨g,0,none⟩)) w.drew:=Lib.run_unsafeSliceData_row _ _ _ _ _ _ hc0
 clear hc0
 go_enter Tryz.func30,Tryz.ntmps30
 go_wp2
 go_region_o
 all_goals (go_wp2; go_ret; exact ⟨Z,tM w⟩)
set_option maxRecDepth 100000 in
theorem yC (b g:Nat)(p:Value)(cur:Array Value)(w:World)(hbk:w.heap[b]? = some (.cells #[p,.slice (some ⟨g,0,none⟩) 0 0] 70 (0,0)))(hg:w.heap[g]? = some (.cells cur 5 (0,0))) :
  Calls Tryz.prog 30 #[.pointer (some ⟨b,0,none⟩)] w λ e w'=>e=.returned (.string ⟨#[]⟩)/\Below w.heap.size w w':=by
 have mixed:=A0;have hUS:∀ (W:World) (q:Option Addr),(Builtin.unsafeString_ #[110,3] 9 #[.pointer q,.int .i64 0]).run Tryz.prog W=.ok (.string .empty) W:=λ W q=>Lib.run_unsafeString_none W _ _ _ q
 have hlt:b<w.heap.size:=by
  grind
 have c1:w.drew.cell? ⟨b,1,none⟩=some (.slice (some ⟨g,0,none⟩) 0 0):=by
  have:w.drew.heap[b]? = some (.cells #[p,.slice (some ⟨g,0,none⟩) 0 0] 70 (0,0)):=hbk;exact xt
 have hSD:(Builtin.unsafeSliceData_ #[68] 110 #[.slice (some ⟨g,0,none⟩) 0 0]).run Tryz.prog w.drew=.ok (.pointer (some ⟨w.drew.heap.size,0,none⟩)) (w.drew.alloc (.view ⟨g,0,none⟩ 5)) :=
  Lib.run_unsafeSliceData_zero w.drew _ _ 5 Tryz.underlying110 ⟨g,0,none⟩ 0 (5,cur.size) (by have hg':w.drew.heap[g]? = some (.cells cur 5 (0,0)):=hg; simp [World.shape?,hg'])
 have c2:(w.drew.alloc (.view ⟨g,0,none⟩ 5)).cell? ⟨b,1,none⟩=some (.slice (some ⟨g,0,none⟩) 0 0):=by
  have:(w.drew.alloc (.view ⟨g,0,none⟩ 5)).heap[b]? = _:=(Lib.alloc_old w.drew _ b hlt).trans hbk;exact xt
 have c3:(w.alloc (.view ⟨g,0,none⟩ 5)).drew.cell? ⟨b,1,none⟩=some (.slice (some ⟨g,0,none⟩) 0 0):=c2;have c0:w.cell? ⟨b,1,none⟩=some (.slice (some ⟨g,0,none⟩) 0 0):=c1
 go_enter Tryz.func30,Tryz.ntmps30
 go_wp2
 go_region_o
 all_goals (go_wp2; go_ret; exact ⟨Z,(tM w).alloc (bt _) _⟩)
set_option maxRecDepth 100000 in
theorem EZ (b g cap:Nat)(p:Value)(cur:Array Value)(l:List UInt8)(w:World)(h0:l≠[])(hbk:w.heap[b]? = some (.cells #[p,.slice (some ⟨g,0,none⟩) l.length cap] 70 (0,0)))(hg:w.heap[g]? = some (.cells cur 5 (0,0)))
  (hnc:l.length<=cap) (U9:cur.size=cap) (hcm:l.length<=9223372036854775807) (U6:∀ (j:Nat) x,l[j]? = some x->w.cell? ⟨g,j,none⟩=some (.int .u8 x.toNat)) :
  Calls Tryz.prog 30 #[.pointer (some ⟨b,0,none⟩)] w λ e w'=>e=.returned (.string ⟨l.toArray⟩)/\w'=(w.drew.freeze ⟨g,0,none⟩ l.length):=by
 have mixed:=A0;have hl0:l.length≠0:=by grind
 have c1:w.drew.cell? ⟨b,1,none⟩=some (.slice (some ⟨g,0,none⟩) l.length cap):=by
  have:w.drew.heap[b]? = some (.cells #[p,.slice (some ⟨g,0,none⟩) l.length cap] 70 (0,0)):=hbk;exact xt
 have hSD:(Builtin.unsafeSliceData_ #[68] 110 #[.slice (some ⟨g,0,none⟩) l.length cap]).run Tryz.prog w.drew=.ok (.pointer (some ⟨g,0,none⟩)) w.drew:=Lib.run_unsafeSliceData_row _ _ _ _ _ _ O
 have hUS:(Builtin.unsafeString_ #[110,3] 9 #[.pointer (some ⟨g,0,none⟩),.int .i64 l.length]).run Tryz.prog w.drew=.ok (.string ⟨l.toArray⟩) (w.drew.freeze ⟨g,0,none⟩ l.length):=by
  refine Lib.run_unsafeString_row w.drew 110 3 9 5 Tryz.underlying110 (by kernel_rfl) g cur.size (by have hg':w.drew.heap[g]? = some (.cells cur 5 (0,0)):=hg; simp [World.shape?,hg']) l h0 O hcm ?_
  grind [add_lit,World.cell?_drew]
 clear U6 U9 hcm hnc h0 hl0
 go_enter Tryz.func30,Tryz.ntmps30
 go_wp2
 go_region_o
 all_goals (go_wp2; go_ret; simp_all)
theorem zW (w:World)(g n k:Nat)(h:k≠g):(w.freeze ⟨g,0,none⟩ n).heap[k]? = w.heap[k]?:=by
 grind [World.freeze]
theorem Ce (w:World)(g n:Nat)(a:Addr):(w.freeze ⟨g,0,none⟩ n).cell? a=w.cell? a:=by
 grind [World.freeze,World.cell?]
theorem Cm (w:World)(g n:Nat):(w.freeze ⟨g,0,none⟩ n).heap.size=w.heap.size:=by
 grind [World.freeze]
theorem Cg (w:World)(g n:Nat):(w.freeze ⟨g,0,none⟩ n).os=w.os/\(w.freeze ⟨g,0,none⟩ n).output=w.output/\(w.freeze ⟨g,0,none⟩ n).tape=w.tape:=by
 grind [World.freeze]
def ghS (g:Gh):Gh:=⟨g.st,λ i=>if M1<=i/\i<2*M1 then g.ow i else none⟩
theorem zH {g:Gh}{i b:Nat}(h:(ghS g).ow i=some b):M1<=i/\i<2*M1/\g.ow i=some b:=by
 grind [ghS]
theorem FW {w w':World}{g:Gh}{q:Nat}(hok:Ok0 w g.st)(hown:∀ i b,g.ow i=some b->b<w.heap.size/\i<2*M1)
  (hinj:∀ i j b,g.ow i=some b->g.ow j=some b->i=j) (hnst:∀ i b,M1<=i->g.ow i=some b->∀ o,¬ g.st b o)
  (hq:g.ow 900000=some q\/w.heap.size<=q) (os:w'.os=w.os) (out:w'.output=w.output) (tape:w'.tape=w.tape) (size:w.heap.size<=w'.heap.size)
  (other:∀ k,k<w.heap.size->k≠q->w'.heap[k]? = w.heap[k]?) (cell:∀ b o,b<w.heap.size->w'.cell? ⟨b,o,none⟩=w.cell? ⟨b,o,none⟩):pV w g w' (ghS g):=by
 have U4:Ev w g.st w' g.st:=λ k o hk=>⟨hk,cell k o (hok.lt k o hk)⟩
 refine ⟨os,out,tape,size,λ k hk hno=>other k hk (λ e=>?_),λ i k hi=>?_,λ i j k hi hj=>?_,λ k o hk=>Nat.lt_of_lt_of_le (hok.lt k o hk) size,λ k hk _ o=>Iff.rfl,λ i h1 h2=>?_,λ i k c e h1 h2 h3=>?_,λ i k hi hk o=>hnst i k hi hk o,U4⟩
 ·grind
 ·obtain ⟨_,_,h1⟩:=zH hi
  grind
 ·exact hinj _ _ _ (zH hi).2.2 (zH hj).2.2
 ·grind [ghS]
 grind [M1]
theorem ob_S {w':World}{g:Gh}{es:List PV}{T b:Nat}{p q:Value}(hb:g.ow 1000000=some b)(h4:∀ o,¬ g.st b o)(h:w'.heap[b]? = some (.cells #[p,q] T (0,0)))
  (hp:p=.pointer none\/p=.pointer (some ⟨b,0,none⟩)) (hq:PRep w' g.st (.slice es) q):jJ w' (ghS g) 1000000 [.bptr T 2 1000000,.p (.slice es)]:=by
 have how:(ghS g).ow 1000000=some b:=by simp only [ghS]; rw [if_pos (by decide)]; exact hb
 refine ⟨b,#[p,q],T,how,h,by simp,h4,λ i x hx=>?_⟩
 match i,hx with
 | 0,hx=>
  exact KN
 | 1,hx=>
  simp only [List.getElem?_cons_succ,List.getElem?_cons_zero,bx] at hx; subst hx;exact ⟨q,rfl,.p hq⟩
 | n+2,hx=>simp at hx
theorem fv (b_0:aC)(r:Bk×aC)(h0:db b_0=some r):cj Tryz.prog 30 [.ptr 1000000 0] [(1000000,[.bptr 70 2 1000000,.vec 900000 1 (5+1) (b_0.If.map eU)])]
  (λ x y=>x=.p (eS r.1)/\y=[(1000000,[.bptr 70 2 1000000,.p (eL eU r.2.If)])]):=by
 obtain ⟨hmax,h0⟩:=kZ h0
 cases h0
 intro w g vs hok hown hinj hnst U0 hargs hobs;obtain ⟨b,p,q,hb,rfl,hheap,hbs,hp,hq⟩:=NF U0 hargs hobs;have hbl:b<w.heap.size:=(hown _ _ hb).1;obtain ⟨l,hl⟩:∃ l,l=b_0.If:=⟨_,rfl⟩
 rw [<- hl] at hq ⊢
 -- a builder that holds nothing
 have none_:∀ q0,l=[]->q=q0->(Calls Tryz.prog 30 #[.pointer (some ⟨b,0,none⟩)] w λ e w'=>e=.returned (.string ⟨#[]⟩)/\Below w.heap.size w w')->PRep w g.st (.slice []) q0 ->
   Calls Tryz.prog 30 #[.pointer (some ⟨b,0,none⟩)] w λ e w'=>∃ v r obs' g',e=.returned v/\(r=.p (eS l)/\obs'=[(1000000,[.bptr 70 2 1000000,.p (eL eU l)])])/\ARep w' g' r v/\(∀ p∈obs',jJ w' g' p.1 p.2)/\pV w g w' g':=by
  rintro q0 rfl rfl hc hr;refine hc.mono ?_;rintro e w' ⟨rfl,hB⟩;have U6:∀ b o,b<w.heap.size->w'.cell? ⟨b,o,none⟩=w.cell? ⟨b,o,none⟩:=λ b o h=>hB.cell (p:=⟨b,o,none⟩) h;refine ⟨_,_,_,ghS g,rfl,⟨rfl,rfl⟩,.p (.val _),λ x hx=>?_,FW (q:=w.heap.size) hok hown hinj hnst (.inr (bt _)) hB.os hB.output hB.tape hB.size (λ k hk _=>hB.block k hk) U6⟩;simp only [List.mem_singleton] at hx; subst hx;exact ob_S hb hbs ((hB.block b hbl).trans hheap) hp (hr.mono (w':=w') (st':=g.st) (λ k o hk=>⟨hk,U6 k o (hok.lt k o hk)⟩))
 generalize hes:l.map eU=es at hq
 cases hq with
 | vecn=>
  have e:l=[]:=by simpa using hes
  exact none_ _ e Z (FJ b p w hheap) .nils
 | vec how hb2 U9 hsz2 Va hr hty=>
  rename_i g2 off2 cap c e2
  have he2:e2=5/\off2=0:=by
   grind
  obtain ⟨rfl,rfl⟩:=he2;rw [Nat.zero_add] at U9;simp only [Nat.zero_add] at Va;have hgl:g2<w.heap.size:=(hown _ _ how).1;subst hes;simp only [List.length_map] at hheap;by_cases hl0:l=[]
  ·grind [yC,BL]
  ·have hcap:l.length<=cap:=by
    grind [rG]
   have U6:∀ (j:Nat) x,l[j]? = some x->w.cell? ⟨g2,j,none⟩=some (.int .u8 x.toNat):=by
    intro j x hx;have hinv:=O7 hsz2 hb2 hr;obtain ⟨_,u,hu,hru⟩:=hinv j (eU x) 0 (eU x) (by simp [hx]) rfl
    cases hru
    grind [World.cell?]
   refine (EZ b g2 cap p c l w hl0 (by grind) hb2 hcap (by grind) ?_ U6).mono ?_
   ·grind
   rintro e w' ⟨rfl,rfl⟩;have hother:∀ k,k≠g2->(w.drew.freeze ⟨g2,0,none⟩ l.length).heap[k]? = w.heap[k]?:=λ k hk=>zW w.drew g2 _ k hk;have hcell2:∀ b o,(w.drew.freeze ⟨g2,0,none⟩ l.length).cell? ⟨b,o,none⟩=w.cell? ⟨b,o,none⟩:=λ b o=>Ce w.drew g2 _ _;obtain ⟨r1,r2,r3⟩:=Cg w.drew g2 l.length;refine ⟨_,_,_,ghS g,rfl,⟨rfl,rfl⟩,.p (.val _),λ x hx=>?_,FW (q:=g2) hok hown hinj hnst (.inl how) r1 r2 r3 (by simp [Cm]) (λ k _ hk=>hother k hk) (λ b o _=>hcell2 b o)⟩;simp only [List.mem_singleton] at hx; subst hx;have Vs:b≠g2:=λ e=>by grind
   exact ob_S hb hbs ((hother b Vs).trans O) hp (by simpa using hr.mono (w':=w.drew.freeze ⟨g2,0,none⟩ l.length) (st':=g.st) (λ k o hk=>⟨hk,hcell2 k o⟩))
end Go.Ab
end
section
namespace Go.Ab.RB
open Go.Proofs Go.Ab
variable {p:Prop}
theorem wR (h:p:=by
  exact nx 2 Z (eX _ (oi h1).symm (gE Z Z))):p:=h
theorem AD (h:p:=by
  exact nx 5 Z (eX _ (oi h1).symm (gE Z Z))):p:=h
attribute [local irreducible] awp iH bu bA cj AV.sub M cN
def dD (Sn:List UInt8)(Vf:Int):Option (List UInt8) :=if IntKind.wrap .u32 (Vf)<=2047 then ck ((0:Int)<=6)<|ck ((0:Int)<=iOr .u8 192 (IntKind.wrap .u8 (jb .i32 Vf 6))/\iOr .u8 192 (IntKind.wrap .u8 (jb .i32 Vf 6))<256)<|ck ((0:Int)<=iOr .u8 128 (cV .u8 (IntKind.wrap .u8 (Vf)) 63)/\iOr .u8 128 (cV .u8 (IntKind.wrap .u8 (Vf)) 63)<256)<|ck ((Sn.length+[u8 (iOr .u8 192 (IntKind.wrap .u8 (jb .i32 Vf 6))),u8 (iOr .u8 128 (cV .u8 (IntKind.wrap .u8 (Vf)) 63))].length)*1<=140737488355328)<|some (Sn++[u8 (iOr .u8 192 (IntKind.wrap .u8 (jb .i32 Vf 6))),u8 (iOr .u8 128 (cV .u8 (IntKind.wrap .u8 (Vf)) 63))])else(if IntKind.wrap .u32 (Vf)<55296 then some true else if 57343<IntKind.wrap .u32 (Vf) then some (decide (IntKind.wrap .u32 (Vf)<=65535))else some false : Option Bool).bind λ t8=>if t8=true then ck ((0:Int)<=12)<|ck ((0:Int)<=6)<|ck ((0:Int)<=iOr .u8 224 (IntKind.wrap .u8 (jb .i32 Vf 12))/\iOr .u8 224 (IntKind.wrap .u8 (jb .i32 Vf 12))<256)<|ck ((0:Int)<=iOr .u8 128 (cV .u8 (IntKind.wrap .u8 (jb .i32 Vf 6)) 63)/\iOr .u8 128 (cV .u8 (IntKind.wrap .u8 (jb .i32 Vf 6)) 63)<256)<|ck ((0:Int)<=iOr .u8 128 (cV .u8 (IntKind.wrap .u8 (Vf)) 63)/\iOr .u8 128 (cV .u8 (IntKind.wrap .u8 (Vf)) 63)<256)<|ck ((Sn.length+[u8 (iOr .u8 224 (IntKind.wrap .u8 (jb .i32 Vf 12))),u8 (iOr .u8 128 (cV .u8 (IntKind.wrap .u8 (jb .i32 Vf 6)) 63)),u8 (iOr .u8 128 (cV .u8 (IntKind.wrap .u8 (Vf)) 63))].length)*1<=140737488355328)<|some (Sn++[u8 (iOr .u8 224 (IntKind.wrap .u8 (jb .i32 Vf 12))),u8 (iOr .u8 128 (cV .u8 (IntKind.wrap .u8 (jb .i32 Vf 6)) 63)),u8 (iOr .u8 128 (cV .u8 (IntKind.wrap .u8 (Vf)) 63))])else(if 65535<IntKind.wrap .u32 (Vf) then some (decide (IntKind.wrap .u32 (Vf)<=1114111))else some false : Option Bool).bind λ t17=>if t17=true then ck ((0:Int)<=18)<|ck ((0:Int)<=12)<|ck ((0:Int)<=6)<|ck ((0:Int)<=iOr .u8 240 (IntKind.wrap .u8 (jb .i32 Vf 18))/\iOr .u8 240 (IntKind.wrap .u8 (jb .i32 Vf 18))<256)<|ck ((0:Int)<=iOr .u8 128 (cV .u8 (IntKind.wrap .u8 (jb .i32 Vf 12)) 63)/\iOr .u8 128 (cV .u8 (IntKind.wrap .u8 (jb .i32 Vf 12)) 63)<256)<|ck ((0:Int)<=iOr .u8 128 (cV .u8 (IntKind.wrap .u8 (jb .i32 Vf 6)) 63)/\iOr .u8 128 (cV .u8 (IntKind.wrap .u8 (jb .i32 Vf 6)) 63)<256)<|ck ((0:Int)<=iOr .u8 128 (cV .u8 (IntKind.wrap .u8 (Vf)) 63)/\iOr .u8 128 (cV .u8 (IntKind.wrap .u8 (Vf)) 63)<256)<|ck ((Sn.length+[u8 (iOr .u8 240 (IntKind.wrap .u8 (jb .i32 Vf 18))),u8 (iOr .u8 128 (cV .u8 (IntKind.wrap .u8 (jb .i32 Vf 12)) 63)),u8 (iOr .u8 128 (cV .u8 (IntKind.wrap .u8 (jb .i32 Vf 6)) 63)),u8 (iOr .u8 128 (cV .u8 (IntKind.wrap .u8 (Vf)) 63))].length)*1<=140737488355328)<|some (Sn++[u8 (iOr .u8 240 (IntKind.wrap .u8 (jb .i32 Vf 18))),u8 (iOr .u8 128 (cV .u8 (IntKind.wrap .u8 (jb .i32 Vf 12)) 63)),u8 (iOr .u8 128 (cV .u8 (IntKind.wrap .u8 (jb .i32 Vf 6)) 63)),u8 (iOr .u8 128 (cV .u8 (IntKind.wrap .u8 (Vf)) 63))])else ck ((Sn.length+[(239:UInt8),(191:UInt8),(189:UInt8)].length)*1<=140737488355328)<|some (Sn++[(239:UInt8),(191:UInt8),(189:UInt8)])
theorem kW (Sn:List UInt8)(Vf:Int)(r:(List UInt8))(h0:dD Sn Vf=some r):cj Tryz.prog 197 [.vec 900000 1 (5+1) (Sn.map eU),.p (eK .i32 Vf)] [] (λ x y=>x=.vec 2000000 1 (5+1) (r.map eU)/\y=[]):=by
 unfold dD at h0;refine qV good [800000] [] Tryz.func197 Z Z Z Z Z λ w0 F=>mPo (λ v:(List UInt8)=>.vec 2000000 1 (5+1) (v.map eU)) (λ v=>[]) ?_;refine nx 17 Z (fD [11,13] h0 Z (λ c1 h0=>?_) λ c1 h0=>?_)
 ·refine nx 5 Z (cc' h0 λ WZ h0=>?_);refine mO Z (rc Z Z Z Z Z Z WZ ?_);refine nx 6 Z (cc' h0 λ XP h0=>?_);refine cc' h0 λ Xt h0=>mO Z (bn eU [u8 (iOr .u8 192 (IntKind.wrap .u8 (jb .i32 Vf 6))),u8 (iOr .u8 128 (cV .u8 (IntKind.wrap .u8 (Vf)) 63))] Z Z Z Z Z Z Z Z Z Z Z Z Z (congr (congrArg List.cons (rZ XP)) (congr (congrArg List.cons (rZ Xt)) Z)) ?_);refine cc' h0 λ X4 h0=>mO Z (fY eU Sn [u8 (iOr .u8 192 (IntKind.wrap .u8 (jb .i32 Vf 6))),u8 (iOr .u8 128 (cV .u8 (IntKind.wrap .u8 (Vf)) 63))] Z Z Z Z Z Z Z Z Z Z Z Z Z Y Z Z Z Z X4 ?_);exact nx 3 Z (mQo (oi h0) (aJ (aS 24 800000 Z Z Z Z Z) (aQ _)) Z Z Z Z (sr) trivial)
 refine nx 2 Z (bd h0 λ ZN h1 h0=>?_);refine kN ZN (λ Yo=>⟨[(0,.vec 900000 1 (5+1) (Sn.map eU)),(1,.p (eK .i32 Vf)),(5,.p (eK .u32 (IntKind.wrap .u32 (Vf)))),(25,.p (eB Yo))],[]⟩) ?_ ?_
 ·refine nx 1 Z (fB [25] h0 Z (λ c9 h0=>?_) λ c9 h0=>?_)
  ·refine nx 5 Z (cc' h0 λ Wb h0=>?_);refine mO Z (rc Z Z Z Z Z Z Wb ?_);refine nx 3 Z (cc' h0 λ WP h0=>?_);refine mO Z (rc Z Z Z Z Z Z WP ?_);refine nx 7 Z (cc' h0 λ XH h0=>?_);refine cc' h0 λ W8 h0=>cc' h0 λ W9 h0=>mO Z (bn eU [u8 (iOr .u8 224 (IntKind.wrap .u8 (jb .i32 Vf 12))),u8 (iOr .u8 128 (cV .u8 (IntKind.wrap .u8 (jb .i32 Vf 6)) 63)),u8 (iOr .u8 128 (cV .u8 (IntKind.wrap .u8 (Vf)) 63))] Z Z Z Z Z Z Z Z Z Z Z Z Z (congr (congrArg List.cons (rZ XH)) (congr (congrArg List.cons (rZ W8)) (congr (congrArg List.cons (rZ W9)) Z))) ?_);refine cc' h0 λ Ww h0=>mO Z (fY eU Sn [u8 (iOr .u8 224 (IntKind.wrap .u8 (jb .i32 Vf 12))),u8 (iOr .u8 128 (cV .u8 (IntKind.wrap .u8 (jb .i32 Vf 6)) 63)),u8 (iOr .u8 128 (cV .u8 (IntKind.wrap .u8 (Vf)) 63))] Z Z Z Z Z Z Z Z Z Z Z Z Z Y Z Z Z Z Ww ?_);exact nx 3 Z (mQo (oi h0) (aJ (aS 49 800000 Z Z Z Z Z) (aQ _)) Z Z Z Z (sr) trivial)
  refine nx 2 Z (bd h0 λ XO h1 h0=>?_);refine kN XO (λ ZT=>⟨[(0,.vec 900000 1 (5+1) (Sn.map eU)),(1,.p (eK .i32 Vf)),(50,.p (eB ZT))],[]⟩) ?_ ?_
  ·refine nx 1 Z (fB [50] h0 Z (λ c18 h0=>?_) λ c18 h0=>?_)
   ·refine nx 5 Z (cc' h0 λ Wv h0=>?_);refine mO Z (rc Z Z Z Z Z Z Wv ?_);refine nx 3 Z (cc' h0 λ WY h0=>?_);refine mO Z (rc Z Z Z Z Z Z WY ?_);refine nx 4 Z (cc' h0 λ WF h0=>?_);refine mO Z (rc Z Z Z Z Z Z WF ?_);refine nx 7 Z (cc' h0 λ WC h0=>?_);refine cc' h0 λ Xu h0=>cc' h0 λ W7 h0=>cc' h0 λ WE h0=>mO Z (bn eU [u8 (iOr .u8 240 (IntKind.wrap .u8 (jb .i32 Vf 18))),u8 (iOr .u8 128 (cV .u8 (IntKind.wrap .u8 (jb .i32 Vf 12)) 63)),u8 (iOr .u8 128 (cV .u8 (IntKind.wrap .u8 (jb .i32 Vf 6)) 63)),u8 (iOr .u8 128 (cV .u8 (IntKind.wrap .u8 (Vf)) 63))] Z Z Z Z Z Z Z Z Z Z Z Z Z (congr (congrArg List.cons (rZ WC)) (congr (congrArg List.cons (rZ Xu)) (congr (congrArg List.cons (rZ W7)) (congr (congrArg List.cons (rZ WE)) Z)))) ?_);refine cc' h0 λ YQ h0=>mO Z (fY eU Sn [u8 (iOr .u8 240 (IntKind.wrap .u8 (jb .i32 Vf 18))),u8 (iOr .u8 128 (cV .u8 (IntKind.wrap .u8 (jb .i32 Vf 12)) 63)),u8 (iOr .u8 128 (cV .u8 (IntKind.wrap .u8 (jb .i32 Vf 6)) 63)),u8 (iOr .u8 128 (cV .u8 (IntKind.wrap .u8 (Vf)) 63))] Z Z Z Z Z Z Z Z Z Z Z Z Z Y Z Z Z Z YQ ?_);exact nx 3 Z (mQo (oi h0) (aJ (aS 77 800000 Z Z Z Z Z) (aQ _)) Z Z Z Z (sr) trivial)
   refine nx 4 Z (mO Z (bn eU [(239:UInt8),(191:UInt8),(189:UInt8)] Z Z Z Z Z Z Z Z Z Z Z Z Z Z ?_));refine cc' h0 λ Zv h0=>mO Z (fY eU Sn [(239:UInt8),(191:UInt8),(189:UInt8)] Z Z Z Z Z Z Z Z Z Z Z Z Z Y Z Z Z Z Zv ?_);exact nx 3 Z (mQo (oi h0) (aJ (aS 10 800000 Z Z Z Z Z) (aQ _)) Z Z Z Z (sr) trivial)
  refine nx 4 Z (fD [52,53] h1 Z (λ c16 h1=>?_) λ c16 h1=>?_)
  ·exact AD
  exact AD
 refine nx 6 Z (fD [25,27] h1 Z (λ c6 h1=>?_) λ c6 h1=>?_)
 ·exact wR
 refine nx 5 Z (fD [29,30] h1 Z (λ c7 h1=>?_) λ c7 h1=>?_)
 ·exact AD
 exact AD
def ew (Sn:List UInt8)(Vf:Int):Option (List UInt8) :=if IntKind.wrap .u32 (Vf)<=127 then ck ((0:Int)<=IntKind.wrap .u8 (Vf)/\IntKind.wrap .u8 (Vf)<256)<|ck ((Sn.length+[u8 (IntKind.wrap .u8 (Vf))].length)*1<=140737488355328)<|some (Sn++[u8 (IntKind.wrap .u8 (Vf))])else(dD Sn Vf).bind λ r4=>some r4
theorem pj (Sn:List UInt8)(Vf:Int)(r:(List UInt8))(h0:ew Sn Vf=some r):cj Tryz.prog 176 [.vec 900000 1 (5+1) (Sn.map eU),.p (eK .i32 Vf)] [] (λ x y=>x=.vec 2000000 1 (5+1) (r.map eU)/\y=[]):=by
 unfold ew at h0;refine qV good [800000] [] Tryz.func176 Z Z Z Z Z λ w0 F=>mPo (λ v:(List UInt8)=>.vec 2000000 1 (5+1) (v.map eU)) (λ v=>[]) ?_;refine nx 11 Z (fD [7] h0 Z (λ c1 h0=>?_) λ c1 h0=>?_)
 ·refine nx 6 Z (cc' h0 λ WZ h0=>?_);refine mO Z (bn eU [u8 (IntKind.wrap .u8 (Vf))] Z Z Z Z Z Z Z Z Z Z Z Z Z (congr (congrArg List.cons (rZ WZ)) Z) ?_);refine cc' h0 λ Xt h0=>mO Z (fY eU Sn [u8 (IntKind.wrap .u8 (Vf))] Z Z Z Z Z Z Z Z Z Z Z Z Z Y Z Z Z Z Xt ?_);exact nx 3 Z (mQo (oi h0) (aJ (aS 12 800000 Z Z Z Z Z) (aQ _)) Z Z Z Z (sr) trivial)
 refine nx 6 Z (bd h0 λ r4 e5 h0=>?_);refine mO Z (bq [] [900000] 101000 101001 (kW Sn Vf _ e5) Z Z Z Z Z ⟨sr,sr,trivial⟩ Z Z trivial Z Z Z Z Z Z Z Z Tryz.call197 Z Z ?_);exact nx 3 Z (mQo (oi h0) (aJ (aS 101000 800000 Z Z Z Z Z) (aQ _)) Z Z Z Z (sr) trivial)
def aR (b_0:aC)(s_1:Bk):Option (Int×Bool×aC) :=(ct (aC.mk b_0.If)).bind λ r1=>ck ((r1.If.length+s_1.length)*1<=140737488355328)<|some ((s_1.length:Int),false,(aC.mk (r1.If++s_1)))
theorem bj (b_0:aC)(s_1:Bk)(r:Int×Bool×aC)(h0:aR b_0 s_1=some r):cj Tryz.prog 54 [.ptr 1000000 0,.p (eS s_1)] [(1000000,[.bptr 70 2 1000000,.vec 900000 1 (5+1) (b_0.If.map eU)])] (λ x y=>x=.tuple [.p (eI r.1),.p (eE r.2.1)]/\y=[(1000000,[.bptr 70 2 1000000,.vec 2000000 1 (5+1) (r.2.2.If.map eU)])]):=by
 unfold aR at h0;refine qV good [800000] [1000000] Tryz.func54 Z Z Z Z Z λ w0 F=>mPo (λ v:Int×Bool×aC=>.tuple [.p (eI v.1),.p (eE v.2.1)]) (λ v=>[(1000000,[.bptr 70 2 1000000,.vec 2000000 1 (5+1) (v.2.2.If.map eU)])]) ?_;refine nx 8 Z (bd h0 λ r1 e2 h0=>?_);refine mO Z (bq [1000000] [900000] 101000 101001 (ge (aC.mk b_0.If) _ e2) Z Z Z Z Z ⟨sr,trivial⟩ Z Z ⟨⟨_,Z,⟨sr,sr,trivial⟩⟩,trivial⟩ Z Z Z Z Z Z Z Z Tryz.call81 Z Z ?_);refine nx 9 Z (cc' h0 λ Xt h0=>?_);refine mO Z (LY r1.If s_1 Z Z Z Z Z Z Z Z Z Z Z Z Z Z Z Xt ?_);refine nx 7 Z (oLs Z ?_);exact nx 4 Z (mQo (oi h0) (aJ (aS 14 800000 Z Z Z Z Z) (aQ _)) Z Z Z Z (fI ⟨sr,sr,trivial⟩) ⟨⟨_,Z,⟨sr,sr,trivial⟩⟩,trivial⟩)
def bE (b_0:aC)(c_1:Int):Option (Bool×aC) :=(ct (aC.mk b_0.If)).bind λ r1=>ck ((0:Int)<=c_1/\c_1<256)<|ck ((r1.If.length+[u8 c_1].length)*1<=140737488355328)<|some (false,(aC.mk (r1.If++[u8 c_1])))
theorem cb (b_0:aC)(c_1:Int)(r:Bool×aC)(h0:bE b_0 c_1=some r):cj Tryz.prog 52 [.ptr 1000000 0,.p (eK .u8 c_1)] [(1000000,[.bptr 70 2 1000000,.vec 900000 1 (5+1) (b_0.If.map eU)])] (λ x y=>x=.p (eE r.1)/\y=[(1000000,[.bptr 70 2 1000000,.vec 2000000 1 (5+1) (r.2.If.map eU)])]):=by
 unfold bE at h0;refine qV good [800000] [1000000] Tryz.func52 Z Z Z Z Z λ w0 F=>mPo (λ v:Bool×aC=>.p (eE v.1)) (λ v=>[(1000000,[.bptr 70 2 1000000,.vec 2000000 1 (5+1) (v.2.If.map eU)])]) ?_;refine nx 7 Z (bd h0 λ r1 e2 h0=>?_);refine mO Z (bq [1000000] [900000] 101000 101001 (ge (aC.mk b_0.If) _ e2) Z Z Z Z Z ⟨sr,trivial⟩ Z Z ⟨⟨_,Z,⟨sr,sr,trivial⟩⟩,trivial⟩ Z Z Z Z Z Z Z Z Tryz.call81 Z Z ?_);refine nx 9 Z (cc' h0 λ Xt h0=>?_);refine mO Z (bn eU [u8 c_1] Z Z Z Z Z Z Z Z Z Z Z Z Z (congr (congrArg List.cons (rZ Xt)) Z) ?_);refine cc' h0 λ XP h0=>mO Z (fY eU r1.If [u8 c_1] Z Z Z Z Z Z Z Z Z Z Z Z Z Y Z Z Z Z XP ?_);exact nx 9 Z (mQo (oi h0) (aJ (aS 14 800000 Z Z Z Z Z) (aQ _)) Z Z Z Z (sr) ⟨⟨_,Z,⟨sr,sr,trivial⟩⟩,trivial⟩)
def dY (b_0:aC)(Vf:Int):Option (Int×Bool×aC) :=(ct (aC.mk b_0.If)).bind λ r1=>(ew r1.If Vf).bind λ r3=>ck (inR ((r3.length:Int)-(r1.If.length:Int)))<|some ((r3.length:Int)-(r1.If.length:Int),false,(aC.mk r3))
theorem oa (b_0:aC)(Vf:Int)(r:Int×Bool×aC)(h0:dY b_0 Vf=some r):cj Tryz.prog 153 [.ptr 1000000 0,.p (eK .i32 Vf)] [(1000000,[.bptr 70 2 1000000,.vec 900000 1 (5+1) (b_0.If.map eU)])] (λ x y=>x=.tuple [.p (eI r.1),.p (eE r.2.1)]/\y=[(1000000,[.bptr 70 2 1000000,.vec 2000000 1 (5+1) (r.2.2.If.map eU)])]):=by
 unfold dY at h0;refine qV good [800000] [1000000] Tryz.func153 Z Z Z Z Z λ w0 F=>mPo (λ v:Int×Bool×aC=>.tuple [.p (eI v.1),.p (eE v.2.1)]) (λ v=>[(1000000,[.bptr 70 2 1000000,.vec 2000000 1 (5+1) (v.2.2.If.map eU)])]) ?_;refine nx 8 Z (bd h0 λ r1 e2 h0=>?_);refine mO Z (bq [1000000] [900000] 101000 101001 (ge (aC.mk b_0.If) _ e2) Z Z Z Z Z ⟨sr,trivial⟩ Z Z ⟨⟨_,Z,⟨sr,sr,trivial⟩⟩,trivial⟩ Z Z Z Z Z Z Z Z Tryz.call81 Z Z ?_);refine nx 7 Z (oLl (f:=eU) Z Z ?_);refine nx 10 Z (bd h0 λ r3 e4 h0=>?_);refine mO Z (bq [] [101000] 102000 102001 (pj r1.If Vf _ e4) Z Z Z Z Z ⟨sr,sr,trivial⟩ Z Z trivial Z Z Z Z Z Z Z Z Tryz.call176 Z Z ?_);refine nx 10 Z (oLl (f:=eU) Z Z ?_);refine nx 1 Z (oA h0 Z Z λ X4 h0=>?_);refine nx 3 Z (mG (gE (t:=⟨[(4,.p (eI ((r3.length:Int)-(r1.If.length:Int)))),(5,.p (eE false))],[(1000000,[.bptr 70 2 1000000,.vec 102000 1 (5+1) (r3.map eU)])]⟩) Z Z) ?_);exact nx 1 Z (mQo (oi h0) (aJ (aS 102000 800000 Z Z Z Z Z) (aQ _)) Z Z Z Z (fI ⟨sr,sr,trivial⟩) ⟨⟨_,Z,⟨sr,sr,trivial⟩⟩,trivial⟩)
def kx (b_0:aC):Option (Int×aC) :=some ((b_0.If.length:Int),(aC.mk b_0.If))
theorem qM (b_0:aC)(r:Int×aC)(h0:kx b_0=some r):cj Tryz.prog 154 [.ptr 1000000 0] [(1000000,[.bptr 70 2 1000000,.vec 900000 1 (5+1) (b_0.If.map eU)])] (λ x y=>x=.p (eI r.1)/\y=[(1000000,[.bptr 70 2 1000000,.vec 2000000 1 (5+1) (r.2.If.map eU)])]):=by
 unfold kx at h0;refine qV good [800000] [1000000] Tryz.func154 Z Z Z Z Z λ w0 F=>mPo (λ v:Int×aC=>.p (eI v.1)) (λ v=>[(1000000,[.bptr 70 2 1000000,.vec 2000000 1 (5+1) (v.2.If.map eU)])]) ?_;refine nx 10 Z (oLl (f:=eU) Z Z ?_);exact nx 3 Z (mQo (oi h0) (aJ (aS 900000 800000 Z Z Z Z Z) (aQ _)) Z Z Z Z (sr) ⟨⟨_,Z,⟨sr,sr,trivial⟩⟩,trivial⟩)
end Go.Ab.RB
end
section
namespace Go.Ab
open Go.RowKit
variable {p:Prop}
theorem A7 (h:p:=by rw [uG,hl]; rfl):p:=h
theorem bA.of_calls {P:Program}{f:FuncId}{l:List Value}{r:AV}
  (h:∀ (w:World) (st:Nat->Nat->Prop),Ok0 w st->Calls P f l.toArray w λ e w'=>∃ v,e=.returned v/\Below w.heap.size w w'/\∀ g',ARep w' g' r v):bA P f (l.map PV.val) (·=r):=by
 intro w st vs hok U0 hargs
 have e:vs=l.toArray:=by
  apply Array.ext
  ·simpa using U0
  ·intro i h1 h2;have hi:i<l.length:=by simpa using h2
   have:=hargs i (.val l[i]) vs[i] (by simp [hi]) (Array.getElem?_eq_getElem h1);generalize hv:vs[i]=v at this
   cases this
   simp
 subst e;refine (h w st hok).mono ?_;rintro e w' ⟨v,rfl,hB,hr⟩;refine ⟨v,r,⟨st,λ _=>none⟩,rfl,rfl,hr _,⟨hB.os,hB.output,hB.tape,hB.size,λ b hb=>hB.block b hb,?_,?_,λ b o hb=>Nat.lt_of_lt_of_le (hok.lt b o hb) hB.size,λ b _ o=>Iff.rfl⟩⟩
 ·intro i b hi; cases hi
 ·intro i j b hi; cases hi
theorem rK {w:World}{st:Nat->Nat->Prop}(h:mN w st){g j:Nat}{l:List GC}{k:IntKind}{n:Int}(hl:look sM g=some l)(hj:l[j]? = some (.int k n)):w.cell? ⟨g,j,none⟩=some (.int k n):=by
 obtain ⟨_,v,h2,h3⟩:=(h g (l.map GC.pv) A7).1 j (.val (.int k n)) (by rw [List.getElem?_map,hj]; rfl)
 cases h3
 exact h2
theorem zl {w:World}{st:Nat->Nat->Prop}(h:mN w st){g:Nat}{k:IntKind}(hl:look sM g=some [.some k]):∃ m,w.cell? ⟨g,0,none⟩=some (.int k m):=by
 obtain ⟨_,v,h2,h3⟩:=(h g [.aint k] A7).1 0 (.aint k) rfl
 cases h3 with
 | aint _ m=>exact ⟨m,h2⟩
theorem Cr {w:World}{st:Nat->Nat->Prop}(h:mN w st){g j:Nat}{l:List GC}(hl:look sM g=some l)(hj:l[j]? = some .ifc):∃ t v,w.cell? ⟨g,j,none⟩=some (.iface t v):=by
 obtain ⟨_,v,h2,h3⟩:=(h g (l.map GC.pv) A7).1 j .ifc (by rw [List.getElem?_map,hj]; rfl)
 cases h3 with
 | ifc t v=>exact ⟨t,v,h2⟩
theorem Ln {P:Program}{w:World}{st:Nat->Nat->Prop}(h:mN w st){g:Nat}{l:List GC}{nm:String}{k:IntKind}{zs:List Int}(hl:look sM g=some l)(hn:P.globalNamed nm=some g)(hz:l=zs.map (GC.int k))(Vs:zs≠[]):Lib.TabIs P w nm k zs:=by
 obtain ⟨h0,h1,h2⟩:=h g (l.map GC.pv) A7;have hc:∀ (j:Nat) z,zs[j]? = some z->w.cell? ⟨g,j,none⟩=some (.int k z):=λ j z hj=>rK h hl (by rw [hz,List.getElem?_map,hj]; rfl);unfold Lib.TabIs World.var?;rw [hn];simp only [rg];have Pn:(l.map GC.pv).length=zs.length:=by rw [hz]; simp
 rw [Pn] at h2
 obtain ⟨z0,hz0⟩:∃ z0,zs[0]? = some z0:=by
  cases zs with
  | nil=>exact absurd Z Vs
  | cons z r=>exact ⟨z,Z⟩
 have hc0:=hc 0 z0 hz0;simp only [World.cell?] at hc hc0 h2
 cases hh:w.heap[g]? with
 | none=>rw [hh] at hc0; cases hc0
 | some o=>
  rw [hh] at hc hc0 h2
  cases o with
  | cells c e fz=>
   simp only [Option.isSome_none,Bool.false_eq_true,if_false] at hc hc0 h2;refine congrArg some ?_;apply Array.ext_getElem?;intro j;by_cases hj:j<zs.length
   ·rw [hc j zs[j] (List.getElem?_eq_getElem hj)];simp [hj]
   ·have h3:c.size<=zs.length:=by
     rcases Nat.lt_or_ge zs.length c.size with h'|h'
     ·rw [Array.getElem?_eq_getElem h'] at h2; cases h2
     ·exact h'
    rw [Array.getElem?_eq_none O,Array.getElem?_eq_none jW]
  | _=>simp at hc0
theorem eZ (s:Bk):(str s).data.toList=s:=by simp [str]
theorem w8 (w:World):Below w.heap.size w w:=Below.refl _ w
end Go.Ab
end
section
set_option maxRecDepth 8000
namespace Go.Proofs
theorem cKR {α:Type}{a b:α}(h:a=b:=by kernel_rfl):some a=some b:=congrArg some h
open Go.Shelf
def Tryz.lays119_ren:Go.Shelf.Ren:=⟨λ|119=>196|n=>n,λ|21=>21|4=>4|n=>n,λ|n=>n⟩
theorem Tryz.lays119:Go.Proofs.Lays.n119 Tryz.prog Tryz.lays119_ren:=⟨by kernel_rfl,Tryz.func196.trans cKR,Tryz.underlying4,Tryz.isAgg4,Tryz.sizeOf4,Tryz.zeroValue4,Tryz.underlying21,Tryz.isAgg21,Tryz.sizeOf21,Tryz.zeroValue21⟩
theorem Tryz.utf8_ValidRune (r:Int)(w:World) :
  Calls Tryz.prog 196 #[.int .i32 r] w λ e w'=>e=.returned (.bool (Lib.validRune r))/\w'=w:=Any.utf8_ValidRune Tryz.lays119 r w
def Tryz.lays137_ren:Go.Shelf.Ren:=⟨λ|137=>93|217=>119|266=>147|n=>n,λ|9=>9|5=>5|3=>3|n=>n,λ|n=>n⟩
theorem Tryz.lays137:Go.Proofs.Lays.n137 Tryz.prog Tryz.lays137_ren:=⟨by kernel_rfl,Tryz.func93.trans cKR,Tryz.func119.trans cKR,Tryz.func147.trans cKR,Tryz.underlying3,Tryz.isAgg3,Tryz.sizeOf3,Tryz.zeroValue3,Tryz.underlying5,Tryz.isAgg5,Tryz.sizeOf5,Tryz.zeroValue5,Tryz.underlying9,Tryz.isAgg9,Tryz.sizeOf9,Tryz.zeroValue9⟩
open Go.RowKit in
theorem Tryz.strings_IndexByte (s:ByteArray)(c:Int)(w:World) :
  Calls Tryz.prog 93 #[.string s,.int .u8 c] w λ e w'=>e=.returned (.int .i64 (Lib.indexByte s.data.toList c.toNat.toUInt8))/\w'=w:=Any.strings_IndexByte Tryz.lays137 s c w
def Tryz.lays99_ren:Go.Shelf.Ren:=⟨λ|99=>120|206=>148|n=>n,λ|9=>9|4=>4|3=>3|n=>n,λ|n=>n⟩
theorem Tryz.lays99:Go.Proofs.Lays.n99 Tryz.prog Tryz.lays99_ren:=⟨by kernel_rfl,Tryz.func120.trans cKR,Tryz.func148.trans cKR,Tryz.underlying3,Tryz.isAgg3,Tryz.sizeOf3,Tryz.zeroValue3,Tryz.underlying4,Tryz.isAgg4,Tryz.sizeOf4,Tryz.zeroValue4,Tryz.underlying9,Tryz.isAgg9,Tryz.sizeOf9,Tryz.zeroValue9⟩
open Go.RowKit Go.Lib in
theorem Tryz.strings_HasPrefix (s p:ByteArray)(w:World) :
  Calls Tryz.prog 120 #[.string s,.string p] w λ e w'=>e=.returned (.bool (Lib.hasPrefix s.data.toList p.data.toList))/\w'=w:=Any.strings_HasPrefix Tryz.lays99 s p w
def Tryz.laysM171_ren:Go.Shelf.Ren:=⟨λ|171=>79|243=>109|246=>113|283=>137|284=>138|285=>139|286=>140|129=>158|317=>157|318=>159|319=>160|320=>161|337=>182|338=>183|n=>n,λ|3=>3|9=>9|2=>2|4=>4|171=>174|0=>0|53=>175|37=>68|5=>5|173=>178|212=>190|51=>191|20=>20|213=>192|46=>171|232=>211|233=>212|n=>n,λ|17=>1|18=>4|19=>5|n=>n⟩
theorem Tryz.laysM171:Go.Proofs.LaysM.n171 Tryz.prog Tryz.laysM171_ren:={mixed:=by kernel_rfl,f129:=Tryz.func158.trans cKR,f171:=Tryz.func79.trans cKR,f243:=Tryz.func109.trans cKR,f246:=Tryz.func113.trans cKR,f283:=Tryz.func137.trans cKR,f284:=Tryz.func138.trans cKR,f285:=Tryz.func139.trans cKR,f286:=Tryz.func140.trans cKR,f317:=Tryz.func157.trans cKR,f318:=Tryz.func159.trans cKR,f319:=Tryz.func160.trans cKR,f320:=Tryz.func161.trans cKR,f337:=Tryz.func182.trans cKR,f338:=Tryz.func183.trans cKR,t0:=Tryz.underlying0,a0:=Tryz.isAgg0,z0:=Tryz.sizeOf0,v0:=Tryz.zeroValue0,t2:=Tryz.underlying2,a2:=Tryz.isAgg2,z2:=Tryz.sizeOf2,v2:=Tryz.zeroValue2,t3:=Tryz.underlying3,a3:=Tryz.isAgg3,z3:=Tryz.sizeOf3,v3:=Tryz.zeroValue3,t4:=Tryz.underlying4,a4:=Tryz.isAgg4,z4:=Tryz.sizeOf4,v4:=Tryz.zeroValue4,t5:=Tryz.underlying5,a5:=Tryz.isAgg5,z5:=Tryz.sizeOf5,v5:=Tryz.zeroValue5,t9:=Tryz.underlying9,a9:=Tryz.isAgg9,z9:=Tryz.sizeOf9,v9:=Tryz.zeroValue9,t20:=Tryz.underlying20,a20:=Tryz.isAgg20,z20:=Tryz.sizeOf20,v20:=Tryz.zeroValue20,t37:=Tryz.underlying68,a37:=Tryz.isAgg68,z37:=Tryz.sizeOf68,v37:=Tryz.zeroValue68,t46:=Tryz.underlying171,a46:=Tryz.isAgg171,z46:=Tryz.sizeOf171,v46:=Tryz.zeroValue171,t51:=Tryz.underlying191,a51:=Tryz.isAgg191,z51:=Tryz.sizeOf191,v51:=Tryz.zeroValue191,t53:=Tryz.underlying175,a53:=Tryz.isAgg175,z53:=Tryz.sizeOf175,v53:=Tryz.zeroValue175,t171:=Tryz.underlying174,a171:=Tryz.isAgg174,z171:=Tryz.sizeOf174,v171:=Tryz.zeroValue174,t173:=Tryz.underlying178,a173:=Tryz.isAgg178,z173:=Tryz.sizeOf178,v173:=Tryz.zeroValue178,t212:=Tryz.underlying190,a212:=Tryz.isAgg190,z212:=Tryz.sizeOf190,v212:=Tryz.zeroValue190,t213:=Tryz.underlying192,a213:=Tryz.isAgg192,z213:=Tryz.sizeOf192,t232:=Tryz.underlying211,a232:=Tryz.isAgg211,z232:=Tryz.sizeOf211,v232:=Tryz.zeroValue211,t233:=Tryz.underlying212,a233:=Tryz.isAgg212,z233:=Tryz.sizeOf212,v233:=Tryz.zeroValue212,g17:=by kernel_rfl,g18:=by kernel_rfl,g19:=by kernel_rfl,i0:=by kernel_rfl,i2:=by kernel_rfl,i3:=by kernel_rfl,i4:=by kernel_rfl,i5:=by kernel_rfl,i9:=by kernel_rfl,i20:=by kernel_rfl,i37:=by kernel_rfl,i46:=by kernel_rfl,i51:=by kernel_rfl,i53:=by kernel_rfl,i171:=by kernel_rfl,i173:=by kernel_rfl,i212:=by kernel_rfl,i232:=by kernel_rfl,i233:=by kernel_rfl,m17:=by kernel_rfl,m18:=by kernel_rfl,m19:=by kernel_rfl}
open Go.RowKit Go.Sort Go.Lib in
theorem Tryz.strconv_Itoa (n:Int)(h0:-9223372036854775808<=n)(h1:n<=9223372036854775807)(w:World)(htab:Lib.TabIs Tryz.prog w "internal/strconv.uint64pow10" .u64 Lib.pow10Tab) :
  Calls Tryz.prog 79 #[.int .i64 n] w λ e w'=>e=.returned (.string ⟨(Lib.itoa n).toArray⟩)/\∃ k os,w'=grow (w.drewN k) os:=Any.strconv_Itoa Tryz.laysM171 n h0 h1 w htab
def Tryz.laysC174_ren:Go.Shelf.Ren:=⟨λ|174=>199|247=>207|245=>208|287=>215|279=>216|280=>217|281=>218|282=>219|321=>224|322=>225|316=>226|171=>79|205=>227|243=>109|246=>113|283=>137|284=>138|285=>139|286=>140|129=>158|317=>157|318=>159|319=>160|320=>161|337=>182|338=>183|n=>n,λ|9=>9|3=>3|2=>2|75=>102|85=>213|4=>4|167=>225|5=>5|53=>175|175=>226|46=>171|168=>228|37=>68|0=>0|210=>234|21=>21|127=>110|145=>239|143=>237|171=>174|173=>178|212=>190|51=>191|20=>20|213=>192|232=>211|233=>212|80=>72|n=>n,λ|15=>6|16=>7|17=>1|18=>4|19=>5|n=>n⟩
theorem Tryz.laysC174:Go.Proofs.LaysC.n174 Tryz.prog Tryz.laysC174_ren:={mixed:=by kernel_rfl,f129:=Tryz.func158.trans cKR,f171:=Tryz.func79.trans cKR,f174:=Tryz.func199.trans cKR,f205:=Tryz.func227.trans cKR,f243:=Tryz.func109.trans cKR,f245:=Tryz.func208.trans cKR,f246:=Tryz.func113.trans cKR,f247:=Tryz.func207.trans cKR,f279:=Tryz.func216.trans cKR,f280:=Tryz.func217.trans cKR,f281:=Tryz.func218.trans cKR,f282:=Tryz.func219.trans cKR,f283:=Tryz.func137.trans cKR,f284:=Tryz.func138.trans cKR,f285:=Tryz.func139.trans cKR,f286:=Tryz.func140.trans cKR,f287:=Tryz.func215.trans cKR,f316:=Tryz.func226.trans cKR,f317:=Tryz.func157.trans cKR,f318:=Tryz.func159.trans cKR,f319:=Tryz.func160.trans cKR,f320:=Tryz.func161.trans cKR,f321:=Tryz.func224.trans cKR,f322:=Tryz.func225.trans cKR,f337:=Tryz.func182.trans cKR,f338:=Tryz.func183.trans cKR,t0:=Tryz.underlying0,a0:=Tryz.isAgg0,z0:=Tryz.sizeOf0,v0:=Tryz.zeroValue0,t2:=Tryz.underlying2,a2:=Tryz.isAgg2,z2:=Tryz.sizeOf2,v2:=Tryz.zeroValue2,t3:=Tryz.underlying3,a3:=Tryz.isAgg3,z3:=Tryz.sizeOf3,v3:=Tryz.zeroValue3,t4:=Tryz.underlying4,a4:=Tryz.isAgg4,z4:=Tryz.sizeOf4,v4:=Tryz.zeroValue4,t5:=Tryz.underlying5,a5:=Tryz.isAgg5,z5:=Tryz.sizeOf5,v5:=Tryz.zeroValue5,t9:=Tryz.underlying9,a9:=Tryz.isAgg9,z9:=Tryz.sizeOf9,v9:=Tryz.zeroValue9,t20:=Tryz.underlying20,a20:=Tryz.isAgg20,z20:=Tryz.sizeOf20,v20:=Tryz.zeroValue20,t21:=Tryz.underlying21,a21:=Tryz.isAgg21,z21:=Tryz.sizeOf21,v21:=Tryz.zeroValue21,t37:=Tryz.underlying68,a37:=Tryz.isAgg68,z37:=Tryz.sizeOf68,v37:=Tryz.zeroValue68,t46:=Tryz.underlying171,a46:=Tryz.isAgg171,z46:=Tryz.sizeOf171,v46:=Tryz.zeroValue171,t51:=Tryz.underlying191,a51:=Tryz.isAgg191,z51:=Tryz.sizeOf191,v51:=Tryz.zeroValue191,t53:=Tryz.underlying175,a53:=Tryz.isAgg175,z53:=Tryz.sizeOf175,v53:=Tryz.zeroValue175,t75:=Tryz.underlying102,a75:=Tryz.isAgg102,z75:=Tryz.sizeOf102,v75:=Tryz.zeroValue102,t85:=Tryz.underlying213,a85:=Tryz.isAgg213,z85:=Tryz.sizeOf213,v85:=Tryz.zeroValue213,t127:=Tryz.underlying110,a127:=Tryz.isAgg110,z127:=Tryz.sizeOf110,v127:=Tryz.zeroValue110,t143:=Tryz.underlying237,a143:=Tryz.isAgg237,z143:=Tryz.sizeOf237,v143:=Tryz.zeroValue237,t145:=Tryz.underlying239,a145:=Tryz.isAgg239,z145:=Tryz.sizeOf239,v145:=Tryz.zeroValue239,t167:=Tryz.underlying225,a167:=Tryz.isAgg225,z167:=Tryz.sizeOf225,v167:=Tryz.zeroValue225,t168:=Tryz.underlying228,a168:=Tryz.isAgg228,z168:=Tryz.sizeOf228,v168:=Tryz.zeroValue228,t171:=Tryz.underlying174,a171:=Tryz.isAgg174,z171:=Tryz.sizeOf174,v171:=Tryz.zeroValue174,t173:=Tryz.underlying178,a173:=Tryz.isAgg178,z173:=Tryz.sizeOf178,v173:=Tryz.zeroValue178,t175:=Tryz.underlying226,a175:=Tryz.isAgg226,z175:=Tryz.sizeOf226,v175:=Tryz.zeroValue226,t210:=Tryz.underlying234,a210:=Tryz.isAgg234,z210:=Tryz.sizeOf234,v210:=Tryz.zeroValue234,t212:=Tryz.underlying190,a212:=Tryz.isAgg190,z212:=Tryz.sizeOf190,v212:=Tryz.zeroValue190,t213:=Tryz.underlying192,a213:=Tryz.isAgg192,z213:=Tryz.sizeOf192,t232:=Tryz.underlying211,a232:=Tryz.isAgg211,z232:=Tryz.sizeOf211,v232:=Tryz.zeroValue211,t233:=Tryz.underlying212,a233:=Tryz.isAgg212,z233:=Tryz.sizeOf212,v233:=Tryz.zeroValue212,g15:=by kernel_rfl,g16:=by kernel_rfl,g17:=by kernel_rfl,g18:=by kernel_rfl,g19:=by kernel_rfl,t80:=Tryz.underlying72,a80:=Tryz.isAgg72,z80:=Tryz.sizeOf72,v80:=Tryz.zeroValue72,i0:=by kernel_rfl,i2:=by kernel_rfl,i3:=by kernel_rfl,i4:=by kernel_rfl,i5:=by kernel_rfl,i9:=by kernel_rfl,i20:=by kernel_rfl,i21:=by kernel_rfl,i37:=by kernel_rfl,i46:=by kernel_rfl,i51:=by kernel_rfl,i53:=by kernel_rfl,i75:=by kernel_rfl,i80:=by kernel_rfl,i85:=by kernel_rfl,i127:=by kernel_rfl,i143:=by kernel_rfl,i145:=by kernel_rfl,i167:=by kernel_rfl,i168:=by kernel_rfl,i171:=by kernel_rfl,i173:=by kernel_rfl,i175:=by kernel_rfl,i210:=by kernel_rfl,i212:=by kernel_rfl,i232:=by kernel_rfl,i233:=by kernel_rfl,m15:=by kernel_rfl,m16:=by kernel_rfl,m17:=by kernel_rfl,m18:=by kernel_rfl,m19:=by kernel_rfl,c0:=by kernel_rfl,c2:=by kernel_rfl,c3:=by kernel_rfl,c4:=by kernel_rfl,c5:=by kernel_rfl,c9:=by kernel_rfl,c20:=by kernel_rfl,c21:=by kernel_rfl,c37:=by kernel_rfl,c46:=by kernel_rfl,c51:=by kernel_rfl,c53:=by kernel_rfl,c75:=by kernel_rfl,c80:=by kernel_rfl,c85:=by kernel_rfl,c127:=by kernel_rfl,c143:=by kernel_rfl,c145:=by kernel_rfl,c167:=by kernel_rfl,c168:=by kernel_rfl,c171:=by kernel_rfl,c173:=by kernel_rfl,c175:=by kernel_rfl,c210:=by kernel_rfl,c212:=by kernel_rfl,c213:=by kernel_rfl,c232:=by kernel_rfl,c233:=by kernel_rfl}
open Go.RowKit in
theorem Tryz.strconv_ParseInt_10_at64_ok (s:ByteArray)(hmax:s.size<=9223372036854775806)(v:Int)(h:Lib.parseIntB 64 s.data.toList=.ok v)(w:World) :
  Calls Tryz.prog 199 #[.string s,.int .i64 10,.int .i64 64] w λ e w'=>e=.returned (.tuple #[.int .i64 v,.nilIface])/\(w'=w\/∃ t,w'=Lib.bytesWorld w 5 t):=Any.strconv_ParseInt_10_at64_ok Tryz.laysC174 s hmax v h w
open Go.RowKit in
theorem Tryz.strconv_ParseInt_10_at64_range (s:ByteArray)(hlim:s.size<=281474976710656)(h:Lib.parseIntB 64 s.data.toList=.range)(ev:Value)(w:World)(hv:w.cell? ⟨7,0,none⟩=some ev)(U4:ev=.nilIface\/∃ te pe,ev=.iface te pe) :
  Calls Tryz.prog 199 #[.string s,.int .i64 10,.int .i64 64] w λ e w'=>∃ N,e=.returned (.tuple #[.int .i64 (Lib.intSat 64 s.data.toList),.iface 228 (.pointer (some ⟨N,0,none⟩))])/\w.heap.size<=N/\w'.heap[N]? = some (.cells #[.string ⟨#[80,97,114,115,101,73,110,116]⟩,.string s,ev] 234 (0,0))/\Below w.heap.size w w':=Any.strconv_ParseInt_10_at64_range Tryz.laysC174 s hlim h ev w hv U4
open Go.RowKit in
theorem Tryz.strconv_ParseInt_10_at64_syntax (s:ByteArray)(hlim:s.size<=281474976710656)(h:Lib.parseIntB 64 s.data.toList=Lib.parseIntB 64 [])(ev:Value)(w:World)(hv:w.cell? ⟨6,0,none⟩=some ev)(U4:ev=.nilIface\/∃ te pe,ev=.iface te pe) :
  Calls Tryz.prog 199 #[.string s,.int .i64 10,.int .i64 64] w λ e w'=>∃ N,e=.returned (.tuple #[.int .i64 (0),.iface 228 (.pointer (some ⟨N,0,none⟩))])/\w.heap.size<=N/\w'.heap[N]? = some (.cells #[.string ⟨#[80,97,114,115,101,73,110,116]⟩,.string s,ev] 234 (0,0))/\Below w.heap.size w w':=Any.strconv_ParseInt_10_at64_syntax Tryz.laysC174 s hlim h ev w hv U4
def Tryz.lays197_ren:Go.Shelf.Ren:=⟨λ|197=>149|260=>171|n=>n,λ|9=>9|21=>21|3=>3|4=>4|5=>5|105=>181|119=>118|0=>0|46=>171|139=>208|138=>207|n=>n,λ|3=>2|4=>3|n=>n⟩
theorem Tryz.lays197:Go.Proofs.Lays.n197 Tryz.prog Tryz.lays197_ren:=⟨by kernel_rfl,Tryz.func149.trans cKR,Tryz.func171.trans cKR,Tryz.underlying0,Tryz.isAgg0,Tryz.sizeOf0,Tryz.zeroValue0,Tryz.underlying3,Tryz.isAgg3,Tryz.sizeOf3,Tryz.zeroValue3,Tryz.underlying4,Tryz.isAgg4,Tryz.sizeOf4,Tryz.zeroValue4,Tryz.underlying5,Tryz.isAgg5,Tryz.sizeOf5,Tryz.zeroValue5,Tryz.underlying9,Tryz.isAgg9,Tryz.sizeOf9,Tryz.zeroValue9,Tryz.underlying21,Tryz.isAgg21,Tryz.sizeOf21,Tryz.zeroValue21,Tryz.underlying171,Tryz.isAgg171,Tryz.sizeOf171,Tryz.zeroValue171,Tryz.underlying181,Tryz.isAgg181,Tryz.sizeOf181,Tryz.zeroValue181,Tryz.underlying118,Tryz.isAgg118,Tryz.sizeOf118,Tryz.underlying207,Tryz.isAgg207,Tryz.sizeOf207,Tryz.zeroValue207,Tryz.underlying208,Tryz.isAgg208,Tryz.sizeOf208,Tryz.zeroValue208,by kernel_rfl,by kernel_rfl⟩
open Go.RowKit Go.Lib in
theorem Tryz.utf8_DecodeRuneInString (s:ByteArray)(w:World)(hT:Lib.Utf8Tabs 2 3 w) :
  Calls Tryz.prog 149 #[.string s] w λ e w'=>e=.returned (.tuple #[.int .i32 (Lib.decodeGo s).1,.int .i64 (Lib.decodeGo s).2])/\Below w.heap.size w w':=Any.utf8_DecodeRuneInString Tryz.lays197 s w hT
def Tryz.lays196_ren:Go.Shelf.Ren:=⟨λ|196=>214|259=>223|n=>n,λ|9=>9|4=>4|3=>3|5=>5|12=>12|119=>118|0=>0|46=>171|139=>208|138=>207|53=>175|n=>n,λ|3=>2|4=>3|n=>n⟩
theorem Tryz.lays196:Go.Proofs.Lays.n196 Tryz.prog Tryz.lays196_ren:=⟨by kernel_rfl,Tryz.func214.trans cKR,Tryz.func223.trans cKR,Tryz.underlying0,Tryz.isAgg0,Tryz.sizeOf0,Tryz.zeroValue0,Tryz.underlying3,Tryz.isAgg3,Tryz.sizeOf3,Tryz.zeroValue3,Tryz.underlying4,Tryz.isAgg4,Tryz.sizeOf4,Tryz.zeroValue4,Tryz.underlying5,Tryz.isAgg5,Tryz.sizeOf5,Tryz.zeroValue5,Tryz.underlying9,Tryz.isAgg9,Tryz.sizeOf9,Tryz.zeroValue9,Tryz.underlying12,Tryz.isAgg12,Tryz.sizeOf12,Tryz.zeroValue12,Tryz.underlying171,Tryz.isAgg171,Tryz.sizeOf171,Tryz.zeroValue171,Tryz.underlying175,Tryz.isAgg175,Tryz.sizeOf175,Tryz.zeroValue175,Tryz.underlying118,Tryz.isAgg118,Tryz.sizeOf118,Tryz.underlying207,Tryz.isAgg207,Tryz.sizeOf207,Tryz.zeroValue207,Tryz.underlying208,Tryz.isAgg208,Tryz.sizeOf208,Tryz.zeroValue208,by kernel_rfl,by kernel_rfl⟩
open Go.RowKit Go.Lib in
theorem Tryz.utf8_ValidString (s:ByteArray)(w:World)(hs:s.size<=9223372036854775807)(hT:Lib.Utf8Tabs 2 3 w):Calls Tryz.prog 214 #[.string s] w λ e w'=>e=.returned (.bool (Lib.validD s.data.toList))/\Below w.heap.size w w':=Any.utf8_ValidString Tryz.lays196 s w hs hT
def Tryz.lays144_ren:Go.Shelf.Ren:=⟨λ|144=>128|143=>151|219=>174|217=>119|225=>193|224=>194|267=>195|266=>147|314=>206|n=>n,λ|9=>9|4=>4|3=>3|5=>5|46=>171|146=>218|51=>191|n=>n,λ|1=>0|n=>n⟩
theorem Tryz.lays144:Go.Proofs.Lays.n144 Tryz.prog Tryz.lays144_ren:=⟨by kernel_rfl,Tryz.func151.trans cKR,Tryz.func128.trans cKR,Tryz.func119.trans cKR,Tryz.func174.trans cKR,Tryz.func194.trans cKR,Tryz.func193.trans cKR,Tryz.func147.trans cKR,Tryz.func195.trans cKR,Tryz.func206.trans cKR,Tryz.underlying3,Tryz.isAgg3,Tryz.sizeOf3,Tryz.zeroValue3,Tryz.underlying4,Tryz.isAgg4,Tryz.sizeOf4,Tryz.zeroValue4,Tryz.underlying5,Tryz.isAgg5,Tryz.sizeOf5,Tryz.zeroValue5,Tryz.underlying9,Tryz.isAgg9,Tryz.sizeOf9,Tryz.zeroValue9,Tryz.underlying171,Tryz.isAgg171,Tryz.sizeOf171,Tryz.zeroValue171,Tryz.underlying191,Tryz.isAgg191,Tryz.sizeOf191,Tryz.zeroValue191,Tryz.underlying218,Tryz.isAgg218,Tryz.sizeOf218,Tryz.zeroValue218,by kernel_rfl⟩
open Go.RowKit Go.Lib in
theorem Tryz.strings_Contains (s sub:ByteArray)(m:Int)(w:World)(hs:s.size<4294967281)(hm:w.cell? ⟨0,0,none⟩=some (.int .i64 m)) :
  Calls Tryz.prog 128 #[.string s,.string sub] w λ e w'=>e=.returned (.bool (Lib.contains s.data.toList sub.data.toList))/\w'=w:=Any.strings_Contains Tryz.lays144 s sub m w hs hm
def Tryz.lays155_ren:Go.Shelf.Ren:=⟨λ|155=>110|154=>135|138=>156|165=>83|143=>151|166=>54|197=>149|169=>30|195=>180|218=>181|240=>81|241=>112|219=>174|260=>171|276=>111|277=>136|217=>119|225=>193|224=>194|267=>195|266=>147|314=>206|n=>n,λ|9=>9|3=>3|4=>4|72=>70|0=>0|76=>105|105=>181|21=>21|5=>5|70=>67|20=>20|37=>68|75=>102|127=>110|164=>153|46=>171|119=>118|139=>208|138=>207|146=>218|51=>191|80=>72|n=>n,λ|1=>0|3=>2|4=>3|n=>n⟩
theorem Tryz.lays155:Go.Proofs.Lays.n155 Tryz.prog Tryz.lays155_ren:=⟨by kernel_rfl,Tryz.func156.trans cKR,Tryz.func151.trans cKR,Tryz.func135.trans cKR,Tryz.func110.trans cKR,Tryz.func83.trans cKR,Tryz.func54.trans cKR,Tryz.func30.trans cKR,Tryz.func180.trans cKR,Tryz.func149.trans cKR,Tryz.func119.trans cKR,Tryz.func181.trans cKR,Tryz.func174.trans cKR,Tryz.func194.trans cKR,Tryz.func193.trans cKR,Tryz.func81.trans cKR,Tryz.func112.trans cKR,Tryz.func171.trans cKR,Tryz.func147.trans cKR,Tryz.func195.trans cKR,Tryz.func111.trans cKR,Tryz.func136.trans cKR,Tryz.func206.trans cKR,Tryz.underlying0,Tryz.isAgg0,Tryz.sizeOf0,Tryz.zeroValue0,Tryz.underlying3,Tryz.isAgg3,Tryz.sizeOf3,Tryz.zeroValue3,Tryz.underlying4,Tryz.isAgg4,Tryz.sizeOf4,Tryz.zeroValue4,Tryz.underlying5,Tryz.isAgg5,Tryz.sizeOf5,Tryz.zeroValue5,Tryz.underlying9,Tryz.isAgg9,Tryz.sizeOf9,Tryz.zeroValue9,Tryz.underlying20,Tryz.isAgg20,Tryz.sizeOf20,Tryz.zeroValue20,Tryz.underlying21,Tryz.isAgg21,Tryz.sizeOf21,Tryz.zeroValue21,Tryz.underlying68,Tryz.isAgg68,Tryz.sizeOf68,Tryz.zeroValue68,Tryz.underlying171,Tryz.isAgg171,Tryz.sizeOf171,Tryz.zeroValue171,Tryz.underlying191,Tryz.isAgg191,Tryz.sizeOf191,Tryz.zeroValue191,Tryz.underlying67,Tryz.isAgg67,Tryz.sizeOf67,Tryz.zeroValue67,Tryz.underlying70,Tryz.isAgg70,Tryz.sizeOf70,Tryz.zeroValue70,Tryz.underlying102,Tryz.isAgg102,Tryz.sizeOf102,Tryz.zeroValue102,Tryz.underlying105,Tryz.isAgg105,Tryz.sizeOf105,Tryz.zeroValue105,Tryz.underlying181,Tryz.isAgg181,Tryz.sizeOf181,Tryz.zeroValue181,Tryz.underlying118,Tryz.isAgg118,Tryz.sizeOf118,Tryz.underlying110,Tryz.isAgg110,Tryz.sizeOf110,Tryz.zeroValue110,Tryz.underlying207,Tryz.isAgg207,Tryz.sizeOf207,Tryz.zeroValue207,Tryz.underlying208,Tryz.isAgg208,Tryz.sizeOf208,Tryz.zeroValue208,Tryz.underlying218,Tryz.isAgg218,Tryz.sizeOf218,Tryz.zeroValue218,Tryz.underlying153,Tryz.isAgg153,Tryz.sizeOf153,Tryz.zeroValue153,by kernel_rfl,by kernel_rfl,by kernel_rfl⟩
theorem Tryz.Builder_Extra_155:Builder.Extra Tryz.prog Tryz.lays155_ren:={sizeBuilder:=by kernel_rfl,liesBuilder:=by kernel_rfl,t5:=Tryz.underlying5,a5:=Tryz.isAgg5,z5:=Tryz.sizeOf5,v5:=Tryz.zeroValue5,infoByte:=by kernel_rfl,cellsByte:=by kernel_rfl,sizeByte:=by kernel_rfl,neB5:=by decide}
open Go.RowKit Go.Lib in
theorem Tryz.strings_ReplaceAll (s old new:ByteArray)(m:Int)(w:World)(hs:s.size<4294967281)(hm:w.cell? ⟨0,0,none⟩=some (.int .i64 m))(h1:1<=old.size)(Pn:s.size+Lib.countB s old*new.size<=140737488355328) :
  Calls Tryz.prog 110 #[.string s,.string old,.string new] w λ e w'=>
   e=.returned (.string ⟨(Lib.replaceAll s.data.toList old.data.toList new.data.toList).toArray⟩)/\Below w.heap.size w w':=Any.strings_ReplaceAll Tryz.lays155 Tryz.Builder_Extra_155 s old new m w hs hm h1 Pn
def Tryz.lays100_ren:Go.Shelf.Ren:=⟨λ|100=>55|207=>82|n=>n,λ|9=>9|4=>4|3=>3|n=>n,λ|n=>n⟩
theorem Tryz.lays100:Go.Proofs.Lays.n100 Tryz.prog Tryz.lays100_ren:=⟨by kernel_rfl,Tryz.func55.trans cKR,Tryz.func82.trans cKR,Tryz.underlying3,Tryz.isAgg3,Tryz.sizeOf3,Tryz.zeroValue3,Tryz.underlying4,Tryz.isAgg4,Tryz.sizeOf4,Tryz.zeroValue4,Tryz.underlying9,Tryz.isAgg9,Tryz.sizeOf9,Tryz.zeroValue9⟩
open Go.RowKit Go.Lib in
theorem Tryz.strings_HasSuffix (s p:ByteArray)(w:World)(hs:s.size<=9223372036854775807) :
  Calls Tryz.prog 55 #[.string s,.string p] w λ e w'=>e=.returned (.bool (Lib.hasSuffix s.data.toList p.data.toList))/\w'=w:=Any.strings_HasSuffix Tryz.lays100 s p w hs
def Tryz.lays156_ren:Go.Shelf.Ren:=⟨λ|156=>56|165=>83|166=>54|169=>30|240=>81|241=>112|276=>111|277=>136|n=>n,λ|31=>26|9=>9|3=>3|4=>4|0=>0|20=>20|72=>70|76=>105|70=>67|37=>68|75=>102|127=>110|164=>153|5=>5|80=>72|n=>n,λ|n=>n⟩
theorem Tryz.lays156:Go.Proofs.Lays.n156 Tryz.prog Tryz.lays156_ren:=⟨by kernel_rfl,Tryz.func56.trans cKR,Tryz.func83.trans cKR,Tryz.func54.trans cKR,Tryz.func30.trans cKR,Tryz.func81.trans cKR,Tryz.func112.trans cKR,Tryz.func111.trans cKR,Tryz.func136.trans cKR,Tryz.underlying0,Tryz.isAgg0,Tryz.sizeOf0,Tryz.zeroValue0,Tryz.underlying3,Tryz.isAgg3,Tryz.sizeOf3,Tryz.zeroValue3,Tryz.underlying4,Tryz.isAgg4,Tryz.sizeOf4,Tryz.zeroValue4,Tryz.underlying9,Tryz.isAgg9,Tryz.sizeOf9,Tryz.zeroValue9,Tryz.underlying20,Tryz.isAgg20,Tryz.sizeOf20,Tryz.zeroValue20,Tryz.underlying26,Tryz.isAgg26,Tryz.sizeOf26,Tryz.zeroValue26,Tryz.underlying68,Tryz.isAgg68,Tryz.sizeOf68,Tryz.zeroValue68,Tryz.underlying67,Tryz.isAgg67,Tryz.sizeOf67,Tryz.zeroValue67,Tryz.underlying70,Tryz.isAgg70,Tryz.sizeOf70,Tryz.zeroValue70,Tryz.underlying102,Tryz.isAgg102,Tryz.sizeOf102,Tryz.zeroValue102,Tryz.underlying105,Tryz.isAgg105,Tryz.sizeOf105,Tryz.zeroValue105,Tryz.underlying110,Tryz.isAgg110,Tryz.sizeOf110,Tryz.zeroValue110,Tryz.underlying153,Tryz.isAgg153,Tryz.sizeOf153,Tryz.zeroValue153⟩
theorem Tryz.Builder_Extra_156:Builder.Extra Tryz.prog Tryz.lays156_ren:={sizeBuilder:=by kernel_rfl,liesBuilder:=by kernel_rfl,t5:=Tryz.underlying5,a5:=Tryz.isAgg5,z5:=Tryz.sizeOf5,v5:=Tryz.zeroValue5,infoByte:=by kernel_rfl,cellsByte:=by kernel_rfl,sizeByte:=by kernel_rfl,neB5:=by decide}
open Go.RowKit in
theorem Tryz.strings_Join (bk o c:Nat)(xs:List ByteArray)(sep:ByteArray)(w:World)(hcells:∀ (j:Nat) x,xs[j]? = some x->w.cell? ⟨bk,o+j,none⟩=some (.string x))(hbk:bk<w.heap.size)(hN:xs.length<=140737488355328)(hcap:xs.length<=c)(Pn:(Lib.join (xs.map (·.data.toList)) sep.data.toList).length<=140737488355328) :
  Calls Tryz.prog 56 #[.slice (some ⟨bk,o,none⟩) xs.length c,.string sep] w λ e w'=>e=.returned (.string ⟨(Lib.join (xs.map (·.data.toList)) sep.data.toList).toArray⟩)/\Below w.heap.size w w':=Any.strings_Join Tryz.lays156 Tryz.Builder_Extra_156 bk o c xs sep w hcells hbk hN hcap Pn
open Go.RowKit in
theorem Tryz.strings_Join_none (a:Option Addr)(c:Nat)(sep:ByteArray)(w:World) :
  Calls Tryz.prog 56 #[.slice a 0 c,.string sep] w λ e w'=>e=.returned (.string ⟨#[]⟩)/\w'=w:=Any.strings_Join_none Tryz.lays156 Tryz.Builder_Extra_156 a c sep w
end Go.Proofs
end
section
namespace Go.Ab
open Go.Proofs Go.RowKit
variable {p:Prop}
theorem vG (h:p:=by
 exact ⟨_,Z,w8 _,λ _=>.p (.val _)⟩):p:=h
def strings_IndexByte (s:Bk)(c:Int):Option Int:=some (Lib.indexByte s c.toNat.toUInt8)
theorem nq (O':Bk)(c_1:Int)(r:Int)(h0:strings_IndexByte O' c_1=some r):bA Tryz.prog 93 [eS O',eK .u8 c_1] (·=.p (eI r)):=by
 cases h0
 refine bA.of_calls (l:=[.string (str O'),.int .u8 c_1]) λ w st hok=>(Tryz.strings_IndexByte _ _ w).mono ?_;rintro e w' ⟨rfl,rfl⟩;rw [eZ];exact vG
def cY (r:Int):Option Bool:=some (Lib.validRune r)
theorem pI (r_0:Int)(r:Bool)(h0:cY r_0=some r):bA Tryz.prog 196 [eK .i32 r_0] (·=.p (eB r)):=by
 cases h0
 refine bA.of_calls (l:=[.int .i32 r_0]) λ w st hok=>(Tryz.utf8_ValidRune _ w).mono ?_;rintro e w' ⟨rfl,rfl⟩;exact vG
theorem BO {w:World}{g:Gh}{a b:Value}:ARep w g (.tuple [.p (.val a),.p (.val b)]) (.tuple #[a,b]):=by
 refine .tuple Z λ i c v h1 h2=>?_
 match i,h1,h2 with
 | 0,h1,h2=>simp at h1 h2; subst h1 h2; exact .p (.val _)
 | 1,h1,h2=>simp at h1 h2; subst h1 h2; exact .p (.val _)
 | n+2,h1,_=>simp at h1
def strings_HasPrefix (s p:Bk):Option Bool:=some (Lib.hasPrefix s p)
theorem dJ (O' p_1:Bk)(r:Bool)(h0:strings_HasPrefix O' p_1=some r):bA Tryz.prog 120 [eS O',eS p_1] (·=.p (eB r)):=by
 cases h0
 refine bA.of_calls (l:=[.string (str O'),.string (str p_1)]) λ w st hok=>(Tryz.strings_HasPrefix _ _ w).mono ?_;rintro e w' ⟨rfl,rfl⟩;rw [eZ,eZ];exact vG
def strconv_Itoa (n:Int):Option Bk:=ck (inR n)<|some (Lib.itoa n)
theorem wt (i_0:Int)(r:Bk)(h0:strconv_Itoa i_0=some r):bA Tryz.prog 79 [eI i_0] (·=.p (eS r)):=by
 obtain ⟨hr,h0⟩:=kZ h0
 cases h0
 refine bA.of_calls (l:=[.int .i64 i_0]) λ w st hok=>(Tryz.strconv_Itoa _ hr.1 hr.2 w (Ln hok.gl (g:=1) rfl (by kernel_rfl) (by kernel_rfl) (by decide))).mono ?_;rintro e w' ⟨rfl,k,os,rfl⟩;exact ⟨_,rfl,Lib.below_grow _ w (bt _) k os,λ _=>.p (.val _)⟩
theorem Il:(List.range 256).all (λ c=>match J7[c]? with|some (.int .u8 n)=>n==(Lib.firstT c:Int)|_=>false)=true:=by kernel_rfl
theorem Pg:(List.range 16).all (λ c=>(match KE[2*c]? with|some (.int .u8 n)=>n==(Lib.accLo c:Int)|_=>false)&&(match KE[2*c+1]? with|some (.int .u8 n)=>n==(Lib.accHi c:Int)|_=>false))=true:=by kernel_rfl
theorem NV {o:Option GC}{m:Int}(h:(match o with|some (.int .u8 n)=>n==m|_=>false)=true):o=some (.int .u8 m):=by
 grind
theorem Cl {w:World}{st:Nat->Nat->Prop}(h:mN w st):Lib.Utf8Tabs 2 3 w:=by
 refine ⟨λ c hc=>rK h Z (NV (sm.1 Il c (by grind))),λ i hi=>?_⟩;have:=sm.1 Pg i (by grind);simp only [py] at this;exact ⟨rK h Z (NV this.1),rK h Z (NV this.2)⟩
def bo (s:Bk):Option (Int×Int):=some ((Lib.decodeGo (str s)).1,(Lib.decodeGo (str s)).2)
theorem eo (O':Bk)(r:Int×Int)(h0:bo O'=some r):bA Tryz.prog 149 [eS O'] (·=.tuple [.p (eK .i32 r.1),.p (eI r.2)]):=by
 cases h0
 refine bA.of_calls (l:=[.string (str O')]) λ w st hok=>(Tryz.utf8_DecodeRuneInString _ w (Cl hok.gl)).mono ?_;rintro e w' ⟨rfl,hB⟩;exact ⟨_,rfl,hB,λ _=>BO⟩
def fS (s:Bk):Option Bool:=ck (s.length<=9223372036854775807)<|some (Lib.validD s)
theorem oq (O':Bk)(r:Bool)(h0:fS O'=some r):bA Tryz.prog 214 [eS O'] (·=.p (eB r)):=by
 obtain ⟨hl,h0⟩:=kZ h0
 cases h0
 refine bA.of_calls (l:=[.string (str O')]) λ w st hok=>(Tryz.utf8_ValidString _ w tj (Cl hok.gl)).mono ?_;rintro e w' ⟨rfl,hB⟩;rw [eZ];exact ⟨_,rfl,hB,λ _=>.p (.val _)⟩
theorem CM (w:World)(e:TypeId)(t:ByteArray):Below w.heap.size w (Lib.bytesWorld w e t) :=
 ⟨Z,Z,Z,by rw [Lib.bytesWorld_size]; omega,λ k hk=>Lib.bytesWorld_at_old w e t k hk⟩
def km (s:Bk)(b z:Int):Option (Int×Bool):=ck (b=10/\z=64/\s.length<=281474976710656)<|some (match Lib.parseIntB 64 s with|.ok v=>(v,false)|.range=>(Lib.intSat 64 s,true)|_=>(0,true))
theorem Hf {w:World}{g:Gh}{a:Int}{t:TypeId}{v:Value}:ARep w g (.tuple [.p (eI a),.p (eE true)]) (.tuple #[.int .i64 a,.iface t v]):=by
 refine .tuple Z λ i c v h1 h2=>?_
 match i,h1,h2 with
 | 0,h1,h2=>simp at h1 h2; subst h1 h2; exact .p (.val _)
 | 1,h1,h2=>simp at h1 h2; subst h1 h2; exact .p (.ifc _ _)
 | n+2,h1,_=>simp at h1
theorem sQ (O':Bk)(base_1 bitSize_2:Int)(r:Int×Bool)(h0:km O' base_1 bitSize_2=some r):bA Tryz.prog 199 [eS O',eI base_1,eI bitSize_2] (·=.tuple [.p (eI r.1),.p (eE r.2)]):=by
 obtain ⟨⟨rfl,rfl,hl⟩,h1⟩:=kZ h0;have U0:(str O').size<=281474976710656:=by grind [nB]
 refine bA.of_calls (l:=[.string (str O'),.int .i64 10,.int .i64 64]) λ w st hok=>?_
 cases hp:Lib.parseIntB 64 O' with
 | ok v=>
  rw [hp] at h1; cases h1;refine (Tryz.strconv_ParseInt_10_at64_ok (str O') O v (by grind [eZ]) w).mono ?_;rintro e w' ⟨rfl,h⟩;refine ⟨_,rfl,?_,λ _=>BO⟩
  grind [w8,CM]
 | range=>
  rw [hp] at h1; cases h1;obtain ⟨t,v,hv⟩:=Cr hok.gl (g:=7) (j:=0) Z Z;refine (Tryz.strconv_ParseInt_10_at64_range (str O') U0 (by grind [eZ]) _ w hv (.inr ⟨_,_,rfl⟩)).mono ?_
  grind [eZ,Hf]
 | _=>
  rw [hp] at h1; cases h1;obtain ⟨t,v,hv⟩:=Cr hok.gl (g:=6) (j:=0) Z Z;refine (Tryz.strconv_ParseInt_10_at64_syntax (str O') U0 (by rw [eZ]; exact hp) _ w hv (.inr ⟨_,_,rfl⟩)).mono ?_
  grind [Hf]
end Go.Ab
namespace Go.Ab
open Go.Proofs Go.RowKit Go
def hexDigit (n:Nat):UInt8:=if n<10 then UInt8.ofNat (48+n) else UInt8.ofNat (87+n)
def eg (u:Nat):Bk:=if u<16 then [hexDigit u] else [hexDigit (u / 16),hexDigit (u%16)]
set_option maxRecDepth 100000 in
theorem tz16 (w:World)(hT:w.cell? ⟨5,15,none⟩=some (.int .u8 4)) :
  Calls Tryz.prog 183 #[.int .u64 16] w λ e w'=>e=.returned (.int .i64 4)/\w'=w:=by
 have hq:IntKind.u64.wrap (Go.bits BinOp.and IntKind.u64 16 (IntKind.u64.wrap (-16))*285870213051353865) / 288230376151711744=15:=by kernel_rfl
 go_enter Tryz.func183,Tryz.ntmps183
 go_wp2
 go_ret
 simp_all
set_option maxRecDepth 100000 in
theorem pow2 (w:World):Calls Tryz.prog 160 #[.int .i64 16] w λ e w'=>e=.returned (.bool true)/\w'=w:=by
 have hq:bits BinOp.and IntKind.i64 16 15=0:=by kernel_rfl
 go_enter Tryz.func160,Tryz.ntmps160
 go_wp2
 go_ret
 simp_all
set_option maxRecDepth 100000 in
theorem tz (w:World)(hT:w.cell? ⟨5,15,none⟩=some (.int .u8 4)) :
  Calls Tryz.prog 161 #[.int .u64 16] w λ e w'=>e=.returned (.int .i64 4)/\w'=w:=by
 have HC:=tz16 w hT
 clear hT
 go_enter Tryz.func161,Tryz.ntmps161
 go_wp2_with (go_at_call 183; refine HC.mono ?_; rintro e w' ⟨rfl,rfl⟩)
 go_ret
 simp_all
end Go.Ab
namespace Go.Ab
open Go.Proofs Go.RowKit Go
abbrev digs:ByteArray:={ data:=#[48,49,50,51,52,53,54,55,56,57,97,98,99,100,101,102,103,104,105,106,107,108,109,110,111,112,113,114,115,116,117,118,119,120,121,122] }
def dig (n:Nat)(h:n<36):UInt8:=digs[n]'(by show n<36; exact h)
theorem E9 (n:Nat)(h:n<36):(({ data:=#[48,49,50,51,52,53,54,55,56,57,97,98,99,100,101,102,103,104,105,106,107,108,109,110,111,112,113,114,115,116,117,118,119,120,121,122] }:ByteArray)[n]'(by show n<36; exact h))=dig n h:=rfl
set_option maxRecDepth 100000 in
theorem fb (u:Int)(h0:0<=u)(h1:u<16)(w:World)(hT:w.cell? ⟨5,15,none⟩=some (.int .u8 4)) :
  Calls Tryz.prog 140 #[.slice none 0 0,.int .u64 u,.int .i64 16,.bool false,.bool false] w λ e w'=>e=.returned (.tuple #[.slice none 0 0,.string ⟨[dig u.toNat O].toArray⟩])/\Below w.heap.size w w':=by
 have hlt:(5:Nat)<w.heap.size:=by
  grind [World.cell?]
 have HZ:Hid (∀ o,Calls Tryz.prog 161 #[.int .u64 16] (w.alloc o) λ e w'=>e=.returned (.int .i64 4)/\w'=w.alloc o):=λ o=>tz (w.alloc o) ((World.cell?_alloc_lt w _ _ hlt).trans hT)
 clear hT
 go_enter Tryz.func140,Tryz.ntmps140
 go_wp2_with (first|(go_at_call 160; refine (pow2 _).mono ?_; rintro e w' ⟨rfl,rfl⟩)|(go_at_call 161; refine (HZ.out _).mono ?_; rintro e w' ⟨rfl,rfl⟩))
 go_loopg [1,13] 1 (λ g uv iv wx=>g=1/\uv=.int .u64 u/\iv=.int .i64 65/\wx=w.alloc (.cells Tryz.zeroCells192 192))
 case atStart=>grind
 case round=>
  obtain ⟨rfl,rfl,rfl,rfl⟩:=hrel;have hlt16:decide ((16:Int)<=u)=false:=decide_eq_false O
  go_wp2
  rw [E9 u.toNat O];generalize hd:dig u.toNat O =dg
  have hcv:=run_convert_bytes_back (P:=Tryz.prog) (w.alloc (.cells (Tryz.zeroCells192.setIfInBounds 64 (.int .u8 dg.toNat)) 192)) 68 9 5 ⟨w.heap.size,64,none⟩ 1 [dg] Tryz.underlying68 Tryz.underlying5 Tryz.underlying9 (λ j hj=>by
   have:j=0:=by simpa using hj
   subst this
   simp [add_lit])
  rw [show [dg].length=1 from rfl] at hcv;rw [hcv];simp only [Result.andThen];rw [Oper.upon_value]
  go_wp2
  go_ret2
  subst hd;exact ⟨rfl,(Below.refl _ w).alloc (bt _) _⟩
theorem Uk:(List.range 256).all (λ n=>Go.bits BinOp.and IntKind.u64 (n:Int) 15==((n%16:Nat):Int))=true:=by kernel_rfl
set_option maxRecDepth 100000 in
theorem fb2 (u:Nat)(h0:16<=u)(h1:u<256)(w:World)(hT:w.cell? ⟨5,15,none⟩=some (.int .u8 4)) :
  Calls Tryz.prog 140 #[.slice none 0 0,.int .u64 u,.int .i64 16,.bool false,.bool false] w λ e w'=>e=.returned (.tuple #[.slice none 0 0,.string ⟨[dig (u / 16) O,dig (u%16) O].toArray⟩])/\Below w.heap.size w w':=by
 have hlt:(5:Nat)<w.heap.size:=by
  grind [World.cell?]
 have HZ:Hid (∀ o,Calls Tryz.prog 161 #[.int .u64 16] (w.alloc o) λ e w'=>e=.returned (.int .i64 4)/\w'=w.alloc o):=λ o=>tz (w.alloc o) ((World.cell?_alloc_lt w _ _ hlt).trans hT)
 clear hT
 have hand:Go.bits BinOp.and IntKind.u64 (u:Int) 15=((u%16:Nat):Int):=eq_of_beq (sm.1 Uk u (List.mem_range.2 h1))
 go_enter Tryz.func140,Tryz.ntmps140
 go_wp2_with (first|(go_at_call 160; refine (pow2 _).mono ?_; rintro e w' ⟨rfl,rfl⟩)|(go_at_call 161; refine (HZ.out _).mono ?_; rintro e w' ⟨rfl,rfl⟩))
 go_loopg [1,13] 1 (λ g uv iv wx=>(g=1/\uv=.int .u64 u/\iv=.int .i64 65/\wx=w.alloc (.cells Tryz.zeroCells192 192))\/(g=0/\uv=.int .u64 ((u / 16:Nat):Int)/\iv=.int .i64 64/\wx=w.alloc (.cells (Tryz.zeroCells192.setIfInBounds 64 (.int .u8 (dig (u%16) O).toNat)) 192)))
 case atStart=>grind
 case round=>
  rcases hrel with ⟨rfl,rfl,rfl,rfl⟩|⟨rfl,rfl,rfl,rfl⟩
  ·have hlt16:decide ((16:Int)<=(u:Int))=true:=decide_eq_true O
   go_wp2
   rw [E9 (u%16) O]
   go_roundg 0
   case measure=>omega
   grind
  ·have hlt16:decide ((16:Int)<=((u / 16:Nat):Int))=false:=decide_eq_false O
   go_wp2
   rw [E9 (u / 16) O];generalize hd:dig (u / 16) O =d1;generalize he:dig (u%16) O =d0
   have hcv:=run_convert_bytes_back (P:=Tryz.prog) (w.alloc (.cells ((Tryz.zeroCells192.setIfInBounds 64 (.int .u8 d0.toNat)).setIfInBounds 63 (.int .u8 d1.toNat)) 192)) 68 9 5 ⟨w.heap.size,63,none⟩ 2 [d1,d0] Tryz.underlying68 Tryz.underlying5 Tryz.underlying9 (λ j hj=>by
    have:j=0\/j=1:=by grind
    rcases this with rfl|rfl
    ·simp [add_lit]
    simp [add_lit])
   rw [show [d1,d0].length=2 from rfl] at hcv;rw [hcv];simp only [Result.andThen];rw [Oper.upon_value]
   go_wp2
   go_ret2
   subst hd he;exact ⟨rfl,(Below.refl _ w).alloc (bt _) _⟩
end Go.Ab
namespace Go.Ab
open Go.Proofs Go.RowKit Go
theorem QD:∀ n:Fin 16,dig n.1 (Nat.lt_of_lt_of_le n.2 (by decide))=hexDigit n.1:=by decide
theorem Ca (n:Nat)(h:n<16)(h':n<36):dig n h'=hexDigit n:=QD ⟨n,h⟩
theorem Uw (u:Nat)(h1:u<256)(w:World)(hT:w.cell? ⟨5,15,none⟩=some (.int .u8 4)) :
  Calls Tryz.prog 140 #[.slice none 0 0,.int .u64 u,.int .i64 16,.bool false,.bool false] w λ e w'=>e=.returned (.tuple #[.slice none 0 0,.string ⟨(eg u).toArray⟩])/\Below w.heap.size w w':=by
 by_cases h:u<16
 ·have:=fb u O O  w hT
  grind [Ca,eg]
 grind [fb2,Ca,eg]
set_option maxRecDepth 100000 in
theorem fint (u:Nat)(h1:u<256)(w:World)(hT:w.cell? ⟨5,15,none⟩=some (.int .u8 4)) :
  Calls Tryz.prog 113 #[.int .i64 u,.int .i64 16] w λ e w'=>e=.returned (.string ⟨(eg u).toArray⟩)/\Below w.heap.size w w':=by
 have HC:Hid _:=Uw u h1 w hT
 clear hT
 have hneg:decide ((u:Int)<0)=false:=decide_eq_false O;generalize eg u=tx at HC ⊢
 go_enter Tryz.func113,Tryz.ntmps113
 go_wp2_with (go_at_call 140; refine Calls.mono HC.out ?_; rintro e w' ⟨rfl,hB⟩)
 go_ret
 simp_all
set_option maxRecDepth 100000 in
theorem Uj (u:Nat)(h1:u<256)(w:World)(hT:w.cell? ⟨5,15,none⟩=some (.int .u8 4)) :
  Calls Tryz.prog 85 #[.int .i64 u,.int .i64 16] w λ e w'=>e=.returned (.string ⟨(eg u).toArray⟩)/\Below w.heap.size w w':=by
 have HC:Hid _:=fint u h1 w hT
 clear hT
 generalize eg u=tx at HC ⊢
 go_enter Tryz.func85,Tryz.ntmps85
 go_wp2_with (go_at_call 113; refine Calls.mono HC.out ?_; rintro e w' ⟨rfl,hB⟩)
 go_ret
 simp_all
def jL (i b:Int):Option Bk:=ck (b=16/\0<=i/\i<256)<|some (eg i.toNat)
theorem rn (i_0 base_1:Int)(r:Bk)(h0:jL i_0 base_1=some r):bA Tryz.prog 85 [eI i_0,eI base_1] (·=.p (eS r)):=by
 obtain ⟨⟨rfl,h1,h2⟩,h3⟩:=kZ h0
 cases h3
 obtain ⟨u,rfl⟩:∃ u:Nat,i_0=u:=⟨i_0.toNat,by omega⟩
 refine bA.of_calls (l:=[.int .i64 u,.int .i64 16]) λ w st hok=>(Uj u O w (rK hok.gl rfl (by kernel_rfl))).mono ?_;rintro e w' ⟨rfl,hB⟩;exact ⟨_,rfl,hB,λ _=>.p (.val _)⟩
end Go.Ab
namespace Go.Ab
open Go.Proofs Go.RowKit Go
theorem Pa (n b0 b1 b2 b3:Nat)(hn:1<=n)(h0:b0<256):1<=(Lib.decodeN n b0 b1 b2 b3).2/\(Lib.decodeN n b0 b1 b2 b3).2<=n/\(Lib.decodeN n b0 b1 b2 b3).2<=4 /\
  ((Lib.decodeN n b0 b1 b2 b3).1<128->(Lib.decodeN n b0 b1 b2 b3).2=1/\(Lib.decodeN n b0 b1 b2 b3).1=b0) /\
  (128<=(Lib.decodeN n b0 b1 b2 b3).1->128<=b0/\(2<=(Lib.decodeN n b0 b1 b2 b3).2->128<=b1)/\(3<=(Lib.decodeN n b0 b1 b2 b3).2->128<=b2)/\(4<=(Lib.decodeN n b0 b1 b2 b3).2->128<=b3)) /\
  ((Lib.decodeN n b0 b1 b2 b3).1<55296\/(57343<(Lib.decodeN n b0 b1 b2 b3).1/\(Lib.decodeN n b0 b1 b2 b3).1<=1114111)):=by
 unfold Lib.decodeN
 grind
end Go.Ab
end
