/- Texts of the proof, one behind the other. No statement is proved here. -/
import Derived.WalkKit
import Derived.Lib.Builder
import Derived.Lib.UnsafeStr
import Derived.Laws.Externs
import Derived.Shelf.RegionOpenPlain
import Derived.Below
import Derived.Lib.LaidTab
import Derived.Shelf.Lays
import Derived.Shelf.Small.Utf8
import Derived.Shelf.Small.Strs
import Derived.Shelf.Strings.Prefix
import Derived.Shelf.Small.Wraps
import Derived.Shelf.LaysM
import Derived.Shelf.Strconv.Itoa3
import Derived.Shelf.LaysC
import Derived.Shelf.Strconv.ParseIntPublic10
import Derived.Shelf.Unicode.DecodeAny
import Derived.Shelf.Strings.OnBuilder
import Derived.Shelf.Strings.IndexAnyAll
import Derived.Shelf.Strings.Runes
import Derived.Shelf.Strings.IndexAny
import Derived.Test.YtapfhipodpbflaaGreatDoorProg
import Derived.Lib.AppendIntMem
import Derived.Deep.LoopGhost
import Derived.Laws.Runes
import Derived.Scope
import Derived.Deep.QuietTactic
import Derived.BigQuiet
import Derived.Laws.RangeString
import Derived.Lib.IndexAny
import Derived.Lib.TrimU
import Derived.MapKept
import Derived.Lib.AppendZeros
import Derived.Lib.OthersKept
import Derived.Defers
import Derived.Lib.AppendZerosOnto
import Derived.Lib.Overlaps
import Derived.Laws.CopyRow
import Derived.Shelf.Spec.SlicesInsert
import Derived.Lib.MapLaws
import Derived.Lib.ValidLaws
import Derived.Lib.ParseIntB
import Derived.Test.YtapfhipodpbflaaGreatDoorZ46Sa
import Derived.Test.YtapfhipodpbflaaGreatDoorZ46Sb
set_option maxHeartbeats 4000000
section
namespace Go.Ab
open Go.Proofs Go.RowKit Go
structure aG where
 AK:Bk
def cV (b:aG):Option aG:=some b
def dN (b:aG):Option (Bk×aG):=ck (b.AK.length<=9223372036854775807)<|some (b.AK,b)
theorem zb:∃ j,Tryz.prog.info? 140=some j/\j.size=2:=by
 have h:(Tryz.prog.info? 140).map (·.size)=some 2:=by kernel_rfl
 obtain ⟨j,hj,hs⟩:=n7.1 h;exact ⟨j,hj,hs⟩
set_option maxRecDepth 100000 in
theorem pO (b:Nat)(w:World)(h0:w.cell? ⟨b,0,none⟩=some (.pointer (some ⟨b,0,none⟩))) :
  Calls Tryz.prog 111 #[.pointer (some ⟨b,0,none⟩)] w λ e w'=>e=.returned (.tuple #[])/\w'=w:=by
 obtain ⟨j,hj,_⟩:=zb
 go_enter Tryz.func111,Tryz.ntmps111
 go_wp2
 rw [Lib.run_neq_ptr_same w _ Tryz.underlying137 hj]
 go_wp2
 go_end0
 exact ⟨Z,Z⟩
set_option maxRecDepth 100000 in
theorem o3 (b:Nat)(w:World)(h0:w.cell? ⟨b,0,none⟩=some (.pointer none))(hsh:w.shape? b=some (140,2))(hfz:w.frozen? ⟨b,0,none⟩=false) :
  Calls Tryz.prog 111 #[.pointer (some ⟨b,0,none⟩)] w λ e w'=>e=.returned (.tuple #[])/\w'=w.setCell ⟨b,0,none⟩ (.pointer (some ⟨b,0,none⟩)):=by
 obtain ⟨j,hj,hjs⟩:=zb
 go_enter Tryz.func111,Tryz.ntmps111
 go_wp2
 rw [Lib.run_to_unsafe w ⟨b,0,none⟩ Tryz.underlying137 Tryz.underlying196 hj (by rw [hjs]; decide) hsh (Nat.zero_lt_succ 1)];simp only [Result.andThen];rw [Oper.upon_value]
 go_wp2
 rw [run_callFunc_extern Tryz.func143 (by kernel_rfl) (by kernel_rfl) (by kernel_rfl) (e:=Extern.AbiNoEscape.same) (by kernel_rfl)];rw [Lib.run_noEscape];simp only [Result.andThen];rw [Oper.upon_value]
 go_wp2
 rw [Lib.run_from_unsafe w ⟨b,0,none⟩ Tryz.underlying196 Tryz.underlying137 hj hsh (by kernel_rfl)];simp only [Result.andThen];rw [Oper.upon_value]
 go_wp2
 go_end0
 exact ⟨Z,Z⟩
structure vD (b:Nat)(w w':World):Prop where
 os:w'.os=w.os
 out:w'.output=w.output
 tape:w'.tape=w.tape
 size:w'.heap.size=w.heap.size
 other:∀ k,k≠b->w'.heap[k]? = w.heap[k]?
def back (i:Nat):Option Nat:=if i=900000 then some 2000000 else if i=1000000 then some 1000000 else none
def ghB (g:Gh):Gh:=⟨g.st,λ i=>if i=2000000 then g.ow 900000 else if M1<=i/\i<2*M1 then g.ow i else none⟩
theorem rX {g:Gh}{i b:Nat}(h:(ghB g).ow i=some b):(i=2000000/\g.ow 900000=some b)\/(M1<=i/\i<2*M1/\g.ow i=some b):=by
 simp only [ghB] at h;split at h
 ·exact .inl ⟨‹_›,h⟩
 ·split at h
  ·rename_i h1; exact .inr ⟨h1.1,h1.2,h⟩
  ·cases h
theorem tg {g:Gh}:∀ i j b,back i=some j->g.ow i=some b->(ghB g).ow j=some b:=by
 intro i j b h hb;unfold back at h;split at h
 ·cases h; subst_vars; simp only [ghB,if_true]; exact hb
 ·split at h
  ·cases h; subst_vars
   simp only [ghB];rw [if_neg (by decide),if_pos (by decide)]; exact hb
  ·cases h
theorem vh {w w':World}{g:Gh}{b:Nat}(hok:Ok0 w g.st)(hown:∀ i b,g.ow i=some b->b<w.heap.size/\i<2*M1)
  (hinj:∀ i j b,g.ow i=some b->g.ow j=some b->i=j) (hnst:∀ i b,M1<=i->g.ow i=some b->∀ o,¬ g.st b o)
  (hb:g.ow 1000000=some b) (h:vD b w w')
  (hsh:∀ (c:Array Value) (e:TypeId),w.heap[b]? = some (.cells c e (0,0))->∃ c':Array Value,w'.heap[b]? = some (.cells c' e (0,0))/\c'.size=c.size):lh w g w' (ghB g):=by
 have hbs:∀ o,¬ g.st b o:=hnst _ b (n6 _) hb
 have BF:Ev w g.st w' g.st:=λ k o hk=>⟨hk,by
  have:k≠b:=λ e=>hbs o (e ▸ hk)
  simp only [World.cell?,h.other k this]⟩
 refine ⟨h.os,h.out,h.tape,by rw [h.size]; exact n6 _,λ k hk hno=>h.other k (λ e=>hno 1000000 (e ▸ hb)),λ i k hi=>?_,λ i j k hi hj=>?_,λ k o hk=>by rw [h.size]; exact hok.lt k o hk,λ k hk _ o=>Iff.rfl,λ i h1 h2=>?_,λ i k c e h1 h2 h3=>?_,λ i k hi hk o=>hnst i k hi hk o,BF⟩
 ·rcases rX hi with ⟨_,h1⟩|⟨_,_,h1⟩
  ·exact ⟨by rw [h.size]; exact (hown _ _ h1).1,.inr ⟨_,h1⟩⟩
  ·exact ⟨by rw [h.size]; exact (hown _ _ h1).1,.inr ⟨_,h1⟩⟩
 ·rcases rX hi with ⟨e1,h1⟩|⟨a1,a2,h1⟩ <;> rcases rX hj with ⟨e2,h2⟩|⟨b1,b2,h2⟩
  ·omega
  ·have:=hinj _ _ _ h1 h2; unfold M1 at *; omega
  ·have:=hinj _ _ _ h1 h2; unfold M1 at *; omega
  ·exact hinj _ _ _ h1 h2
 ·simp only [ghB];rw [if_neg (by unfold M1 at *; omega),if_pos ⟨h1,h2⟩]
 ·by_cases e1:k=b
  ·subst e1; exact hsh c e h3
  ·exact ⟨c,(h.other k e1).trans h3,Z⟩
theorem Au {w w':World}{g:Gh}{b:Nat}(hbs:∀ o,¬ g.st b o)(h:vD b w w')(hc:∃ c e,w.heap[b]? = some (.cells c e (0,0)))
  (hsh:∀ (c:Array Value) (e:TypeId),w.heap[b]? = some (.cells c e (0,0))->∃ c':Array Value,w'.heap[b]? = some (.cells c' e (0,0))/\c'.size=c.size):EvO (λ _=>false) w g w' g:=by
 refine ⟨λ k o hk=>⟨hk,?_⟩,λ _ _ _ h=>h,λ id k c e _ _ hk=>?_,λ _ _ _ _ _ h=>h,λ id k es k' _ _ hk=>(h.other k (λ e=>by subst e; obtain ⟨c,t,hc⟩:=hc; rw [hc] at hk; cases hk)).trans hk,λ _ _=>rfl,λ id k o _ _ ho=>h.other k (λ e=>hbs o (e ▸ ho))⟩
 ·have:k≠b:=λ e=>hbs o (e ▸ hk);simp only [World.cell?,h.other k this]
 ·by_cases e1:k=b
  ·subst e1; exact hsh c e hk
  ·exact ⟨c,(h.other k e1).trans hk,Z⟩
theorem xJ {w:World}{g:Gh}{es:List PV}{vs:Array Value}{T ty:Nat}(By:vs.size=1)
  (hargs:∀ (i:Nat) c v,[AV.ptr 1000000 0][i]? = some c->vs[i]? = some v->ARep w g c v)
  (hobs:∀ id cs,look [(1000000,[AV.bptr T 2 1000000,AV.vec 900000 1 ty es])] id=some cs->ix w g id cs) :
  ∃ b p q,g.ow 1000000=some b/\vs=#[.pointer (some ⟨b,0,none⟩)]/\w.heap[b]? = some (.cells #[p,q] T (0,0))/\(∀ o,¬ g.st b o) /\
   (p=.pointer none\/p=.pointer (some ⟨b,0,none⟩))/\ARep w g (.vec 900000 1 ty es) q:=by
 obtain ⟨b,c,e,h1,h2,h3,h4,h5⟩:=hobs 1000000 _ rfl;obtain ⟨p,hp,hpr⟩:=h5 0 _ rfl;obtain ⟨q,hq,hqr⟩:=h5 1 _ rfl;have hv0:vs[0]? = some vs[0]:=Array.getElem?_eq_getElem O;have ha:=hargs 0 _ _ rfl hv0
 have hvs:vs=#[vs[0]]:=by
  apply Array.ext
  ·simp [By]
  ·intro i h1 h2;have:i=0:=by omega
   subst this; rfl
 have hc:∀ c1:Array Value,c1=c->c1.size=2->c=#[p,q]:=by
  rintro c1 rfl h;apply Array.ext
  ·simp [h]
  ·intro i k1 k2
   match i,k2 with
   | 0,_=>rw [Array.getElem?_eq_getElem k1] at hp; simpa using hp
   | 1,_=>rw [Array.getElem?_eq_getElem k1] at hq; simpa using hq
 have hav:vs[0]=.pointer (some ⟨b,0,none⟩):=by
  generalize vs[0]=v at ha
  cases ha with
  | ptr how=>rw [h1] at how; cases how; rfl
 refine ⟨b,p,q,h1,by rw [hvs,hav],?_,h4,?_,hqr⟩
 ·cases hpr with
  | bptrn how hb BD=>rw [h1] at how; cases how; rw [h2] at hb; cases hb; rw [h2,hc _ rfl BD]
  | bptr how hb BD=>rw [h1] at how; cases how; rw [h2] at hb; cases hb; rw [h2,hc _ rfl BD]
 ·cases hpr with
  | bptrn how hb BD=>exact .inl Z
  | bptr how hb BD=>rw [h1] at how; cases how; exact .inr rfl
theorem ob_B {w':World}{g:Gh}{es:List PV}{T ty b:Nat}{p q:Value}(hb:g.ow 1000000=some b)(h4:∀ o,¬ g.st b o)(h:w'.heap[b]? = some (.cells #[p,q] T (0,0)))
  (hp:p=.pointer none\/p=.pointer (some ⟨b,0,none⟩)) (hq:ARep w' g (.vec 900000 1 ty es) q):ix w' (ghB g) 1000000 [.bptr T 2 1000000,.vec 2000000 1 ty es]:=by
 have how:(ghB g).ow 1000000=some b:=tg 1000000 1000000 b Z hb;refine ⟨b,#[p,q],T,how,h,by simp,h4,λ i x hx=>?_⟩
 match i,hx with
 | 0,hx=>
  simp only [List.getElem?_cons_zero,aq] at hx; subst hx;refine ⟨p,rfl,?_⟩;rcases hp with rfl|rfl
  ·exact .bptrn how h Z
  ·exact .bptr how h Z
 | 1,hx=>
  simp only [List.getElem?_cons_succ,List.getElem?_cons_zero,aq] at hx; subst hx;exact ⟨q,rfl,iS (m:=back) (g:=g) (g':=ghB g) rfl tg hq rfl⟩
 | n+2,hx=>simp at hx
theorem f0 (b_0:aG)(r:aG)(h0:cV b_0=some r):cR Tryz.prog 111 [.ptr 1000000 0] [(1000000,[.bptr 140 2 1000000,.vec 900000 1 (5+1) (b_0.AK.map eU)])]
  (λ x y=>x=.tuple []/\y=[(1000000,[.bptr 140 2 1000000,.vec 2000000 1 (5+1) (r.AK.map eU)])]):=by
 cases h0
 intro w g vs hok hown hinj hnst By hargs hobs;obtain ⟨b,p,q,hb,rfl,hheap,hbs,hp,hq⟩:=xJ By hargs hobs;have hc0:w.cell? ⟨b,0,none⟩=some p:=by simp [World.cell?,hheap]
 rcases hp with rfl|rfl
 ·refine (o3 b w hc0 (by simp [World.shape?,hheap]) (by simp [World.frozen?,hheap])).mono ?_;rintro e w' ⟨rfl,rfl⟩;have hO:vD b w (w.setCell ⟨b,0,none⟩ (.pointer (some ⟨b,0,none⟩))):=⟨rfl,rfl,rfl,by simp [World.setCell],λ k hk=>Below.heap_setCell _ _ _ _ hk⟩
  have hheap':(w.setCell ⟨b,0,none⟩ (.pointer (some ⟨b,0,none⟩))).heap[b]? = some (.cells #[.pointer (some ⟨b,0,none⟩),q] 140 (0,0)):=by
   simp [World.setCell,Array.getElem?_modify,hheap]
  have hsh:∀ (c:Array Value) (e:TypeId),w.heap[b]? = some (.cells c e (0,0))->∃ c':Array Value,(w.setCell ⟨b,0,none⟩ (.pointer (some ⟨b,0,none⟩))).heap[b]? = some (.cells c' e (0,0))/\c'.size=c.size:=λ c e h=>by
   rw [hheap] at h; cases h; exact ⟨_,hheap',rfl⟩
  refine ⟨_,_,_,ghB g,Z,⟨Z,Z⟩,.tuple Z G,λ x hx=>?_,vh hok hown hinj hnst hb hO hsh⟩;simp only [List.mem_singleton] at hx; subst hx;exact ob_B hb hbs hheap' (.inr Z) (hq.mono (Au hbs hO ⟨_,_,hheap⟩ hsh))
 ·refine (pO b w hc0).mono ?_;rintro e w' ⟨rfl,rfl⟩;have hO:vD b w' w':=⟨rfl,rfl,rfl,rfl,λ k hk=>rfl⟩
  refine ⟨_,_,_,ghB g,Z,⟨Z,Z⟩,.tuple Z G,λ x hx=>?_,vh hok hown hinj hnst hb hO (λ c e h=>⟨c,h,Z⟩)⟩;simp only [List.mem_singleton] at hx; subst hx;exact ob_B hb hbs hheap (.inr Z) hq
theorem sI:Tryz.prog.follows .mixedOrders=true:=by kernel_rfl
theorem mF (w:World):Below w.heap.size w w.drew:=Below.drew (Below.refl _ w)
set_option maxRecDepth 100000 in
theorem u4 (b:Nat)(p:Value)(w:World)(hbk:w.heap[b]? = some (.cells #[p,.slice none 0 0] 140 (0,0))) :
  Calls Tryz.prog 78 #[.pointer (some ⟨b,0,none⟩)] w λ e w'=>e=.returned (.string ⟨#[]⟩)/\Below w.heap.size w w':=by
 have mixed:=sI;have hUS:∀ (W:World) (q:Option Addr),(Builtin.unsafeString_ #[171,3] 9 #[.pointer q,.int .i64 0]).run Tryz.prog W=.ok (.string .empty) W:=λ W q=>Lib.run_unsafeString_none W _ _ _ q
 have c1:w.drew.cell? ⟨b,1,none⟩=some (.slice none 0 0):=by
  have:w.drew.heap[b]? = some (.cells #[p,.slice none 0 0] 140 (0,0)):=hbk;rw [Lib.cell_of_heap this]; rfl
 have hSD:(Builtin.unsafeSliceData_ #[138] 171 #[.slice none 0 0]).run Tryz.prog w.drew=.ok (.pointer none) w.drew:=rfl
 go_enter Tryz.func78,Tryz.ntmps78
 go_wp2
 go_region_o
 all_goals (go_wp2; go_ret; exact ⟨Z,mF w⟩)
set_option maxRecDepth 100000 in
theorem sO (b g cap:Nat)(p:Value)(w:World)(hc0:cap≠0)(hbk:w.heap[b]? = some (.cells #[p,.slice (some ⟨g,0,none⟩) 0 cap] 140 (0,0))) :
  Calls Tryz.prog 78 #[.pointer (some ⟨b,0,none⟩)] w λ e w'=>e=.returned (.string ⟨#[]⟩)/\Below w.heap.size w w':=by
 have mixed:=sI;have hUS:∀ (W:World) (q:Option Addr),(Builtin.unsafeString_ #[171,3] 9 #[.pointer q,.int .i64 0]).run Tryz.prog W=.ok (.string .empty) W:=λ W q=>Lib.run_unsafeString_none W _ _ _ q
 have c1:w.drew.cell? ⟨b,1,none⟩=some (.slice (some ⟨g,0,none⟩) 0 cap):=by
  have:w.drew.heap[b]? = some (.cells #[p,.slice (some ⟨g,0,none⟩) 0 cap] 140 (0,0)):=hbk;rw [Lib.cell_of_heap this]; rfl
 have hSD:(Builtin.unsafeSliceData_ #[138] 171 #[.slice (some ⟨g,0,none⟩) 0 cap]).run Tryz.prog w.drew=.ok (.pointer (some ⟨g,0,none⟩)) w.drew:=Lib.run_unsafeSliceData_row _ _ _ _ _ _ hc0
 clear hc0
 go_enter Tryz.func78,Tryz.ntmps78
 go_wp2
 go_region_o
 all_goals (go_wp2; go_ret; exact ⟨Z,mF w⟩)
set_option maxRecDepth 100000 in
theorem qL (b g:Nat)(p:Value)(cur:Array Value)(w:World)(hbk:w.heap[b]? = some (.cells #[p,.slice (some ⟨g,0,none⟩) 0 0] 140 (0,0)))(hg:w.heap[g]? = some (.cells cur 5 (0,0))) :
  Calls Tryz.prog 78 #[.pointer (some ⟨b,0,none⟩)] w λ e w'=>e=.returned (.string ⟨#[]⟩)/\Below w.heap.size w w':=by
 have mixed:=sI;have hUS:∀ (W:World) (q:Option Addr),(Builtin.unsafeString_ #[171,3] 9 #[.pointer q,.int .i64 0]).run Tryz.prog W=.ok (.string .empty) W:=λ W q=>Lib.run_unsafeString_none W _ _ _ q
 have hlt:b<w.heap.size:=by
  rcases Nat.lt_or_ge b w.heap.size with h'|h'
  ·exact h'
  ·simp [Array.getElem?_eq_none h'] at hbk
 have c1:w.drew.cell? ⟨b,1,none⟩=some (.slice (some ⟨g,0,none⟩) 0 0):=by
  have:w.drew.heap[b]? = some (.cells #[p,.slice (some ⟨g,0,none⟩) 0 0] 140 (0,0)):=hbk;rw [Lib.cell_of_heap this]; rfl
 have hSD:(Builtin.unsafeSliceData_ #[138] 171 #[.slice (some ⟨g,0,none⟩) 0 0]).run Tryz.prog w.drew=.ok (.pointer (some ⟨w.drew.heap.size,0,none⟩)) (w.drew.alloc (.view ⟨g,0,none⟩ 5)) :=
  Lib.run_unsafeSliceData_zero w.drew _ _ 5 Tryz.underlying171 ⟨g,0,none⟩ 0 (5,cur.size) (by have hg':w.drew.heap[g]? = some (.cells cur 5 (0,0)):=hg; simp [World.shape?,hg'])
 have c2:(w.drew.alloc (.view ⟨g,0,none⟩ 5)).cell? ⟨b,1,none⟩=some (.slice (some ⟨g,0,none⟩) 0 0):=by
  have:(w.drew.alloc (.view ⟨g,0,none⟩ 5)).heap[b]? = _:=(Lib.alloc_old w.drew _ b hlt).trans hbk;rw [Lib.cell_of_heap this]; rfl
 have c3:(w.alloc (.view ⟨g,0,none⟩ 5)).drew.cell? ⟨b,1,none⟩=some (.slice (some ⟨g,0,none⟩) 0 0):=c2;have c0:w.cell? ⟨b,1,none⟩=some (.slice (some ⟨g,0,none⟩) 0 0):=c1
 go_enter Tryz.func78,Tryz.ntmps78
 go_wp2
 go_region_o
 all_goals (go_wp2; go_ret; exact ⟨Z,(mF w).alloc (n6 _) _⟩)
set_option maxRecDepth 100000 in
theorem uf (b g cap:Nat)(p:Value)(cur:Array Value)(l:List UInt8)(w:World)(h0:l≠[])(hbk:w.heap[b]? = some (.cells #[p,.slice (some ⟨g,0,none⟩) l.length cap] 140 (0,0)))(hg:w.heap[g]? = some (.cells cur 5 (0,0)))
  (hnc:l.length<=cap) (BD:cur.size=cap) (hcm:l.length<=9223372036854775807) (BE:∀ (j:Nat) x,l[j]? = some x->w.cell? ⟨g,j,none⟩=some (.int .u8 x.toNat)) :
  Calls Tryz.prog 78 #[.pointer (some ⟨b,0,none⟩)] w λ e w'=>e=.returned (.string ⟨l.toArray⟩)/\w'=(w.drew.freeze ⟨g,0,none⟩ l.length):=by
 have mixed:=sI;have hl0:l.length≠0:=by simpa using h0
 have c1:w.drew.cell? ⟨b,1,none⟩=some (.slice (some ⟨g,0,none⟩) l.length cap):=by
  have:w.drew.heap[b]? = some (.cells #[p,.slice (some ⟨g,0,none⟩) l.length cap] 140 (0,0)):=hbk;rw [Lib.cell_of_heap this]; rfl
 have hSD:(Builtin.unsafeSliceData_ #[138] 171 #[.slice (some ⟨g,0,none⟩) l.length cap]).run Tryz.prog w.drew=.ok (.pointer (some ⟨g,0,none⟩)) w.drew:=Lib.run_unsafeSliceData_row _ _ _ _ _ _ O
 have hUS:(Builtin.unsafeString_ #[171,3] 9 #[.pointer (some ⟨g,0,none⟩),.int .i64 l.length]).run Tryz.prog w.drew=.ok (.string ⟨l.toArray⟩) (w.drew.freeze ⟨g,0,none⟩ l.length):=by
  refine Lib.run_unsafeString_row w.drew 171 3 9 5 Tryz.underlying171 (by kernel_rfl) g cur.size (by have hg':w.drew.heap[g]? = some (.cells cur 5 (0,0)):=hg; simp [World.shape?,hg']) l h0 O hcm ?_;intro j x hx;have:=BE j x hx;rw [add_lit,ro,World.cell?_drew]; exact this
 clear BE BD hcm hnc h0 hl0
 go_enter Tryz.func78,Tryz.ntmps78
 go_wp2
 go_region_o
 all_goals (go_wp2; go_ret; exact ⟨Z,Z⟩)
theorem sG (w:World)(g n k:Nat)(h:k≠g):(w.freeze ⟨g,0,none⟩ n).heap[k]? = w.heap[k]?:=by
 unfold World.freeze;split
 ·rfl
 ·simp only [Array.getElem?_modify];rw [if_neg (λ e=>h e.symm)]
theorem tm (w:World)(g n:Nat)(a:Addr):(w.freeze ⟨g,0,none⟩ n).cell? a=w.cell? a:=by
 unfold World.freeze;split
 ·rfl
 ·simp only [World.cell?,Array.getElem?_modify];by_cases h:g=a.block
  ·simp only [h,if_true]
   cases w.heap[a.block]? with
   | none=>rfl
   | some o=>cases o <;> rfl
  ·simp only [h,if_false]
theorem tQ (w:World)(g n:Nat):(w.freeze ⟨g,0,none⟩ n).heap.size=w.heap.size:=by
 unfold World.freeze; split <;> simp
theorem tr (w:World)(g n:Nat):(w.freeze ⟨g,0,none⟩ n).os=w.os/\(w.freeze ⟨g,0,none⟩ n).output=w.output/\(w.freeze ⟨g,0,none⟩ n).tape=w.tape:=by
 unfold World.freeze; split <;> exact ⟨Z,Z,Z⟩
def ghS (g:Gh):Gh:=⟨g.st,λ i=>if M1<=i/\i<2*M1 then g.ow i else none⟩
theorem sE {g:Gh}{i b:Nat}(h:(ghS g).ow i=some b):M1<=i/\i<2*M1/\g.ow i=some b:=by
 simp only [ghS] at h;split at h
 ·rename_i h1; exact ⟨h1.1,h1.2,h⟩
 ·cases h
theorem vI {w w':World}{g:Gh}{q:Nat}(hok:Ok0 w g.st)(hown:∀ i b,g.ow i=some b->b<w.heap.size/\i<2*M1)
  (hinj:∀ i j b,g.ow i=some b->g.ow j=some b->i=j) (hnst:∀ i b,M1<=i->g.ow i=some b->∀ o,¬ g.st b o)
  (hq:g.ow 900000=some q\/w.heap.size<=q) (os:w'.os=w.os) (out:w'.output=w.output) (tape:w'.tape=w.tape) (size:w.heap.size<=w'.heap.size)
  (other:∀ k,k<w.heap.size->k≠q->w'.heap[k]? = w.heap[k]?) (cell:∀ b o,b<w.heap.size->w'.cell? ⟨b,o,none⟩=w.cell? ⟨b,o,none⟩):lh w g w' (ghS g):=by
 have BF:Ev w g.st w' g.st:=λ k o hk=>⟨hk,cell k o (hok.lt k o hk)⟩
 refine ⟨os,out,tape,size,λ k hk hno=>other k hk (λ e=>?_),λ i k hi=>?_,λ i j k hi hj=>?_,λ k o hk=>Nat.lt_of_lt_of_le (hok.lt k o hk) size,λ k hk _ o=>Iff.rfl,λ i h1 h2=>?_,λ i k c e h1 h2 h3=>?_,λ i k hi hk o=>hnst i k hi hk o,BF⟩
 ·rcases hq with hq|hq
  ·exact hno _ (e ▸ hq)
  ·omega
 ·obtain ⟨_,_,h1⟩:=sE hi;exact ⟨Nat.lt_of_lt_of_le (hown _ _ h1).1 size,.inr ⟨_,h1⟩⟩
 ·exact hinj _ _ _ (sE hi).2.2 (sE hj).2.2
 ·simp only [ghS]; rw [if_pos ⟨h1,h2⟩]
 ·refine ⟨c,(other k (hown _ _ h2).1 (λ e=>?_)).trans h3,rfl⟩;rcases hq with hq|hq
  ·have:=hinj _ _ _ h2 (e ▸ hq); unfold M1 at *; omega
  ·have:=(hown _ _ h2).1; omega
theorem ob_S {w':World}{g:Gh}{es:List PV}{T b:Nat}{p q:Value}(hb:g.ow 1000000=some b)(h4:∀ o,¬ g.st b o)(h:w'.heap[b]? = some (.cells #[p,q] T (0,0)))
  (hp:p=.pointer none\/p=.pointer (some ⟨b,0,none⟩)) (hq:PRep w' g.st (.slice es) q):ix w' (ghS g) 1000000 [.bptr T 2 1000000,.p (.slice es)]:=by
 have how:(ghS g).ow 1000000=some b:=by simp only [ghS]; rw [if_pos (by decide)]; exact hb
 refine ⟨b,#[p,q],T,how,h,by simp,h4,λ i x hx=>?_⟩
 match i,hx with
 | 0,hx=>
  simp only [List.getElem?_cons_zero,aq] at hx; subst hx;refine ⟨p,rfl,?_⟩;rcases hp with rfl|rfl
  ·exact .bptrn how h Z
  ·exact .bptr how h Z
 | 1,hx=>
  simp only [List.getElem?_cons_succ,List.getElem?_cons_zero,aq] at hx; subst hx;exact ⟨q,rfl,.p hq⟩
 | n+2,hx=>simp at hx
theorem gU (b_0:aG)(r:Bk×aG)(h0:dN b_0=some r):cR Tryz.prog 78 [.ptr 1000000 0] [(1000000,[.bptr 140 2 1000000,.vec 900000 1 (5+1) (b_0.AK.map eU)])]
  (λ x y=>x=.p (eS r.1)/\y=[(1000000,[.bptr 140 2 1000000,.p (eL eU r.2.AK)])]):=by
 obtain ⟨hmax,h0⟩:=ig h0
 cases h0
 intro w g vs hok hown hinj hnst By hargs hobs;obtain ⟨b,p,q,hb,rfl,hheap,hbs,hp,hq⟩:=xJ By hargs hobs;have hbl:b<w.heap.size:=(hown _ _ hb).1;obtain ⟨l,hl⟩:∃ l,l=b_0.AK:=⟨_,rfl⟩
 rw [<- hl] at hq ⊢
 -- a builder that holds nothing
 have none_:∀ q0,l=[]->q=q0->(Calls Tryz.prog 78 #[.pointer (some ⟨b,0,none⟩)] w λ e w'=>e=.returned (.string ⟨#[]⟩)/\Below w.heap.size w w')->PRep w g.st (.slice []) q0 ->
   Calls Tryz.prog 78 #[.pointer (some ⟨b,0,none⟩)] w λ e w'=>∃ v r obs' g',e=.returned v/\(r=.p (eS l)/\obs'=[(1000000,[.bptr 140 2 1000000,.p (eL eU l)])])/\ARep w' g' r v/\(∀ p∈obs',ix w' g' p.1 p.2)/\lh w g w' g':=by
  rintro q0 rfl rfl hc hr;refine hc.mono ?_;rintro e w' ⟨rfl,hB⟩;have BE:∀ b o,b<w.heap.size->w'.cell? ⟨b,o,none⟩=w.cell? ⟨b,o,none⟩:=λ b o h=>hB.cell (p:=⟨b,o,none⟩) h;refine ⟨_,_,_,ghS g,rfl,⟨rfl,rfl⟩,.p (.val _),λ x hx=>?_,vI (q:=w.heap.size) hok hown hinj hnst (.inr (n6 _)) hB.os hB.output hB.tape hB.size (λ k hk _=>hB.block k hk) BE⟩;simp only [List.mem_singleton] at hx; subst hx;exact ob_S hb hbs ((hB.block b hbl).trans hheap) hp (hr.mono (w':=w') (st':=g.st) (λ k o hk=>⟨hk,BE k o (hok.lt k o hk)⟩))
 generalize hes:l.map eU=es at hq
 cases hq with
 | vecn=>
  have e:l=[]:=by simpa using hes
  exact none_ _ e Z (u4 b p w hheap) .nils
 | vec how hb2 BD hsz2 BH hr hty=>
  rename_i g2 off2 cap c e2
  have he2:e2=5/\off2=0:=by
   rcases hty with h|h
   ·cases h
   ·exact ⟨(Nat.succ.inj h.1).symm,h.2⟩
  obtain ⟨rfl,rfl⟩:=he2;rw [ro] at BD;simp only [ro] at BH;have hgl:g2<w.heap.size:=(hown _ _ how).1;subst hes;simp only [bx] at hheap;by_cases hl0:l=[]
  ·subst hl0;by_cases hc0:cap=0
   ·subst hc0;exact none_ _ Z Z (qL b g2 p c w hheap hb2) (by simpa using hr)
   ·exact none_ _ Z Z (sO b g2 cap p w hc0 hheap) (by simpa using hr)
  ·have hcap:l.length<=cap:=by
    obtain ⟨a',cap',he,hle⟩:=lE hr
    cases he
    simpa using hle
   have BE:∀ (j:Nat) x,l[j]? = some x->w.cell? ⟨g2,j,none⟩=some (.int .u8 x.toNat):=by
    intro j x hx;have hinv:=yG hsz2 hb2 hr;obtain ⟨_,u,hu,hru⟩:=hinv j (eU x) 0 (eU x) (by simp [hx]) rfl
    cases hru
    simp only [World.cell?,hb2];simpa using hu
   refine (uf b g2 cap p c l w hl0 (by simpa using hheap) hb2 hcap (by simpa using BD) ?_ BE).mono ?_
   ·rw [hl]; exact hmax
   rintro e w' ⟨rfl,rfl⟩;have hother:∀ k,k≠g2->(w.drew.freeze ⟨g2,0,none⟩ l.length).heap[k]? = w.heap[k]?:=λ k hk=>sG w.drew g2 _ k hk;have hcell2:∀ b o,(w.drew.freeze ⟨g2,0,none⟩ l.length).cell? ⟨b,o,none⟩=w.cell? ⟨b,o,none⟩:=λ b o=>tm w.drew g2 _ _;obtain ⟨r1,r2,r3⟩:=tr w.drew g2 l.length;refine ⟨_,_,_,ghS g,rfl,⟨rfl,rfl⟩,.p (.val _),λ x hx=>?_,vI (q:=g2) hok hown hinj hnst (.inl how) r1 r2 r3 (by rw [tQ]; exact n6 _) (λ k _ hk=>hother k hk) (λ b o _=>hcell2 b o)⟩;simp only [List.mem_singleton] at hx; subst hx;have BL:b≠g2:=λ e=>by subst e; have:=hinj _ _ _ hb how; omega
   exact ob_S hb hbs ((hother b BL).trans (by simpa using hheap)) hp (by simpa using hr.mono (w':=w.drew.freeze ⟨g2,0,none⟩ l.length) (st':=g.st) (λ k o hk=>⟨hk,hcell2 k o⟩))
end Go.Ab
end
section
namespace Go.Ab.RB
open Go.Proofs Go.Ab
attribute [local irreducible] awp iE bA aC cR AV.sub M dx
def aU (b_0:aG)(s_1:Bk):Option (Int×Bool×aG) :=(cV (aG.mk b_0.AK)).bind λ r1=>ck ((r1.AK.length+s_1.length)*1<=140737488355328)<|some ((s_1.length:Int),false,(aG.mk (r1.AK++s_1)))
theorem bs (b_0:aG)(s_1:Bk)(r:Int×Bool×aG)(h0:aU b_0 s_1=some r):cR Tryz.prog 77 [.ptr 1000000 0,.p (eS s_1)] [(1000000,[.bptr 140 2 1000000,.vec 900000 1 (5+1) (b_0.AK.map eU)])] (λ x y=>x=.tuple [.p (eI r.1),.p (eE r.2.1)]/\y=[(1000000,[.bptr 140 2 1000000,.vec 2000000 1 (5+1) (r.2.2.AK.map eU)])]):=by
 unfold aU at h0;refine ku good [800000] [1000000] Tryz.func77 Z Z Z Z Z λ w0 F=>mPo (λ v:Int×Bool×aG=>.tuple [.p (eI v.1),.p (eE v.2.1)]) (λ v=>[(1000000,[.bptr 140 2 1000000,.vec 2000000 1 (5+1) (v.2.2.AK.map eU)])]) ?_;refine nx 8 Z (bd h0 λ r1 e2 h0=>?_);refine mO Z (bJ [1000000] [900000] 101000 101001 (f0 (aG.mk b_0.AK) _ e2) Z Z Z Z Z ⟨sr,trivial⟩ Z Z ⟨⟨_,Z,⟨sr,sr,trivial⟩⟩,trivial⟩ Z Z Z Z Z Z Z Z Tryz.call111 Z Z ?_);refine nx 9 Z (cc' h0 λ E8 h0=>?_);refine mO Z (wL r1.AK s_1 Z Z Z Z Z Z Z Z Z Z Z Z Z Z Z E8 ?_);refine nx 7 Z (oLs Z ?_);exact nx 4 Z (mQo (oi h0) (a8 (bz 14 800000 Z Z Z Z Z) (dZ _)) Z Z Z Z (ci ⟨sr,sr,trivial⟩) ⟨⟨_,Z,⟨sr,sr,trivial⟩⟩,trivial⟩)
def bH (b_0:aG)(c_1:Int):Option (Bool×aG) :=(cV (aG.mk b_0.AK)).bind λ r1=>ck ((0:Int)<=c_1/\c_1<256)<|ck ((r1.AK.length+[u8 c_1].length)*1<=140737488355328)<|some (false,(aG.mk (r1.AK++[u8 c_1])))
theorem cz (b_0:aG)(c_1:Int)(r:Bool×aG)(h0:bH b_0 c_1=some r):cR Tryz.prog 170 [.ptr 1000000 0,.p (eK .u8 c_1)] [(1000000,[.bptr 140 2 1000000,.vec 900000 1 (5+1) (b_0.AK.map eU)])] (λ x y=>x=.p (eE r.1)/\y=[(1000000,[.bptr 140 2 1000000,.vec 2000000 1 (5+1) (r.2.AK.map eU)])]):=by
 unfold bH at h0;refine ku good [800000] [1000000] Tryz.func170 Z Z Z Z Z λ w0 F=>mPo (λ v:Bool×aG=>.p (eE v.1)) (λ v=>[(1000000,[.bptr 140 2 1000000,.vec 2000000 1 (5+1) (v.2.AK.map eU)])]) ?_;refine nx 7 Z (bd h0 λ r1 e2 h0=>?_);refine mO Z (bJ [1000000] [900000] 101000 101001 (f0 (aG.mk b_0.AK) _ e2) Z Z Z Z Z ⟨sr,trivial⟩ Z Z ⟨⟨_,Z,⟨sr,sr,trivial⟩⟩,trivial⟩ Z Z Z Z Z Z Z Z Tryz.call111 Z Z ?_);refine nx 9 Z (cc' h0 λ E8 h0=>?_);refine mO Z (bE eU [u8 c_1] Z Z Z Z Z Z Z Z Z Z Z Z Z (congr (congrArg List.cons (z8 E8)) Z) ?_);refine cc' h0 λ FG h0=>mO Z (cX eU r1.AK [u8 c_1] Z Z Z Z Z Z Z Z Z Z Z Z Z Y Z Z Z Z FG ?_);exact nx 9 Z (mQo (oi h0) (a8 (bz 14 800000 Z Z Z Z Z) (dZ _)) Z Z Z Z (sr) ⟨⟨_,Z,⟨sr,sr,trivial⟩⟩,trivial⟩)
end Go.Ab.RB
end
section
namespace Go.Ab
open Go.RowKit
theorem aC.of_calls {P:Program}{f:FuncId}{l:List Value}{r:AV}
  (h:∀ (w:World) (st:Nat->Nat->Prop),Ok0 w st->Calls P f l.toArray w λ e w'=>∃ v,e=.returned v/\Below w.heap.size w w'/\∀ g',ARep w' g' r v):aC P f (l.map PV.val) (·=r):=by
 intro w st vs hok By hargs
 have e:vs=l.toArray:=by
  apply Array.ext
  ·simpa using By
  ·intro i h1 h2;have hi:i<l.length:=by simpa using h2
   have:=hargs i (.val l[i]) vs[i] (by simp [hi]) (Array.getElem?_eq_getElem h1);generalize hv:vs[i]=v at this
   cases this
   simp
 subst e;refine (h w st hok).mono ?_;rintro e w' ⟨v,rfl,hB,hr⟩;refine ⟨v,r,⟨st,λ _=>none⟩,rfl,rfl,hr _,⟨hB.os,hB.output,hB.tape,hB.size,λ b hb=>hB.block b hb,?_,?_,λ b o hb=>Nat.lt_of_lt_of_le (hok.lt b o hb) hB.size,λ b _ o=>Iff.rfl⟩⟩
 ·intro i b hi; cases hi
 ·intro i j b hi; cases hi
theorem te {w:World}{st:Nat->Nat->Prop}(h:kw w st){g j:Nat}{l:List GC}{k:IntKind}{n:Int}(hl:look po g=some l)(hj:l[j]? = some (.int k n)):w.cell? ⟨g,j,none⟩=some (.int k n):=by
 obtain ⟨_,v,h2,h3⟩:=(h g (l.map GC.pv) (by rw [mn,hl]; rfl)).1 j (.val (.int k n)) (by rw [List.getElem?_map,hj]; rfl)
 cases h3
 exact h2
theorem xD {P:Program}{w:World}{st:Nat->Nat->Prop}(h:kw w st){g:Nat}{l:List GC}{nm:String}{k:IntKind}{zs:List Int}(hl:look po g=some l)(hn:P.globalNamed nm=some g)(hz:l=zs.map (GC.int k))(BL:zs≠[]):Lib.TabIs P w nm k zs:=by
 obtain ⟨h0,h1,h2⟩:=h g (l.map GC.pv) (by rw [mn,hl]; rfl);have hc:∀ (j:Nat) z,zs[j]? = some z->w.cell? ⟨g,j,none⟩=some (.int k z):=λ j z hj=>te h hl (by rw [hz,List.getElem?_map,hj]; rfl);unfold Lib.TabIs World.var?;rw [hn];simp only [Option.bind_some];have Bw:(l.map GC.pv).length=zs.length:=by rw [hz]; simp
 rw [Bw] at h2
 obtain ⟨z0,hz0⟩:∃ z0,zs[0]? = some z0:=by
  cases zs with
  | nil=>exact absurd Z BL
  | cons z r=>exact ⟨z,Z⟩
 have hc0:=hc 0 z0 hz0;simp only [World.cell?] at hc hc0 h2
 cases hh:w.heap[g]? with
 | none=>rw [hh] at hc0; cases hc0
 | some o=>
  rw [hh] at hc hc0 h2
  cases o with
  | cells c e fz=>
   simp only [Option.isSome_none,Bool.false_eq_true,if_false] at hc hc0 h2;refine congrArg some ?_;apply Array.ext_getElem?;intro j;by_cases hj:j<zs.length
   ·rw [hc j zs[j] (List.getElem?_eq_getElem hj)];simp [hj]
   ·have h3:c.size<=zs.length:=by
     rcases Nat.lt_or_ge zs.length c.size with h'|h'
     ·rw [Array.getElem?_eq_getElem h'] at h2; cases h2
     ·exact h'
    rw [Array.getElem?_eq_none O,Array.getElem?_eq_none (by simp; omega)]
  | _=>simp at hc0
theorem qn (s:Bk):(str s).data.toList=s:=by simp [str]
theorem uJ (w:World):Below w.heap.size w w:=Below.refl _ w
end Go.Ab
end
section
namespace Go.Proofs
open Go.Shelf
def Tryz.laysM171_ren:Go.Shelf.Ren:=⟨λ|171=>47|243=>80|246=>113|283=>145|284=>146|285=>147|286=>148|129=>177|317=>176|318=>178|319=>179|320=>180|337=>195|338=>196|n=>n,λ|3=>3|9=>9|2=>2|4=>4|171=>199|0=>0|53=>200|37=>138|5=>5|173=>203|212=>225|51=>226|20=>20|213=>227|46=>179|232=>251|233=>252|n=>n,λ|17=>1|18=>4|19=>5|n=>n⟩
theorem Tryz.laysM171:Go.Proofs.LaysM.n171 Tryz.prog Tryz.laysM171_ren:={
 mixed:=by kernel_rfl
 f129:=Tryz.func177.trans (congrArg some (by kernel_rfl))
 f171:=Tryz.func47.trans (congrArg some (by kernel_rfl))
 f243:=Tryz.func80.trans (congrArg some (by kernel_rfl))
 f246:=Tryz.func113.trans (congrArg some (by kernel_rfl))
 f283:=Tryz.func145.trans (congrArg some (by kernel_rfl))
 f284:=Tryz.func146.trans (congrArg some (by kernel_rfl))
 f285:=Tryz.func147.trans (congrArg some (by kernel_rfl))
 f286:=Tryz.func148.trans (congrArg some (by kernel_rfl))
 f317:=Tryz.func176.trans (congrArg some (by kernel_rfl))
 f318:=Tryz.func178.trans (congrArg some (by kernel_rfl))
 f319:=Tryz.func179.trans (congrArg some (by kernel_rfl))
 f320:=Tryz.func180.trans (congrArg some (by kernel_rfl))
 f337:=Tryz.func195.trans (congrArg some (by kernel_rfl))
 f338:=Tryz.func196.trans (congrArg some (by kernel_rfl))
 t0:=Tryz.underlying0
 a0:=Tryz.isAgg0
 z0:=Tryz.sizeOf0
 v0:=Tryz.zeroValue0
 t2:=Tryz.underlying2
 a2:=Tryz.isAgg2
 z2:=Tryz.sizeOf2
 v2:=Tryz.zeroValue2
 t3:=Tryz.underlying3
 a3:=Tryz.isAgg3
 z3:=Tryz.sizeOf3
 v3:=Tryz.zeroValue3
 t4:=Tryz.underlying4
 a4:=Tryz.isAgg4
 z4:=Tryz.sizeOf4
 v4:=Tryz.zeroValue4
 t5:=Tryz.underlying5
 a5:=Tryz.isAgg5
 z5:=Tryz.sizeOf5
 v5:=Tryz.zeroValue5
 t9:=Tryz.underlying9
 a9:=Tryz.isAgg9
 z9:=Tryz.sizeOf9
 v9:=Tryz.zeroValue9
 t20:=Tryz.underlying20
 a20:=Tryz.isAgg20
 z20:=Tryz.sizeOf20
 v20:=Tryz.zeroValue20
 t37:=Tryz.underlying138
 a37:=Tryz.isAgg138
 z37:=Tryz.sizeOf138
 v37:=Tryz.zeroValue138
 t46:=Tryz.underlying179
 a46:=Tryz.isAgg179
 z46:=Tryz.sizeOf179
 v46:=Tryz.zeroValue179
 t51:=Tryz.underlying226
 a51:=Tryz.isAgg226
 z51:=Tryz.sizeOf226
 v51:=Tryz.zeroValue226
 t53:=Tryz.underlying200
 a53:=Tryz.isAgg200
 z53:=Tryz.sizeOf200
 v53:=Tryz.zeroValue200
 t171:=Tryz.underlying199
 a171:=Tryz.isAgg199
 z171:=Tryz.sizeOf199
 v171:=Tryz.zeroValue199
 t173:=Tryz.underlying203
 a173:=Tryz.isAgg203
 z173:=Tryz.sizeOf203
 v173:=Tryz.zeroValue203
 t212:=Tryz.underlying225
 a212:=Tryz.isAgg225
 z212:=Tryz.sizeOf225
 v212:=Tryz.zeroValue225
 t213:=Tryz.underlying227
 a213:=Tryz.isAgg227
 z213:=Tryz.sizeOf227
 t232:=Tryz.underlying251
 a232:=Tryz.isAgg251
 z232:=Tryz.sizeOf251
 v232:=Tryz.zeroValue251
 t233:=Tryz.underlying252
 a233:=Tryz.isAgg252
 z233:=Tryz.sizeOf252
 v233:=Tryz.zeroValue252
 g17:=by kernel_rfl
 g18:=by kernel_rfl
 g19:=by kernel_rfl
 i0:=by kernel_rfl
 i2:=by kernel_rfl
 i3:=by kernel_rfl
 i4:=by kernel_rfl
 i5:=by kernel_rfl
 i9:=by kernel_rfl
 i20:=by kernel_rfl
 i37:=by kernel_rfl
 i46:=by kernel_rfl
 i51:=by kernel_rfl
 i53:=by kernel_rfl
 i171:=by kernel_rfl
 i173:=by kernel_rfl
 i212:=by kernel_rfl
 i232:=by kernel_rfl
 i233:=by kernel_rfl
 m17:=by kernel_rfl
 m18:=by kernel_rfl
 m19:=by kernel_rfl }
open Go.RowKit Go.Sort Go.Lib in
theorem Tryz.strconv_Itoa (n:Int)(h0:-9223372036854775808<=n)(h1:n<=9223372036854775807)(w:World)(htab:Lib.TabIs Tryz.prog w "internal/strconv.uint64pow10" .u64 Lib.pow10Tab) :
  Calls Tryz.prog 47 #[.int .i64 n] w λ e w'=>e=.returned (.string ⟨(Lib.itoa n).toArray⟩)/\∃ k os,w'=grow (w.drewN k) os:=Any.strconv_Itoa Tryz.laysM171 n h0 h1 w htab
def Tryz.lays156_ren:Go.Shelf.Ren:=⟨λ|156=>43|165=>76|166=>77|169=>78|240=>111|241=>112|276=>143|277=>144|n=>n,λ|31=>29|9=>9|3=>3|4=>4|0=>0|20=>20|72=>140|76=>144|70=>137|37=>138|75=>143|127=>171|164=>196|5=>5|80=>146|n=>n,λ|n=>n⟩
theorem Tryz.lays156:Go.Proofs.Lays.n156 Tryz.prog Tryz.lays156_ren:={
 mixed:=by kernel_rfl
 f156:=Tryz.func43.trans (congrArg some (by kernel_rfl))
 f165:=Tryz.func76.trans (congrArg some (by kernel_rfl))
 f166:=Tryz.func77.trans (congrArg some (by kernel_rfl))
 f169:=Tryz.func78.trans (congrArg some (by kernel_rfl))
 f240:=Tryz.func111.trans (congrArg some (by kernel_rfl))
 f241:=Tryz.func112.trans (congrArg some (by kernel_rfl))
 f276:=Tryz.func143.trans (congrArg some (by kernel_rfl))
 f277:=Tryz.func144.trans (congrArg some (by kernel_rfl))
 t0:=Tryz.underlying0
 a0:=Tryz.isAgg0
 z0:=Tryz.sizeOf0
 v0:=Tryz.zeroValue0
 t3:=Tryz.underlying3
 a3:=Tryz.isAgg3
 z3:=Tryz.sizeOf3
 v3:=Tryz.zeroValue3
 t4:=Tryz.underlying4
 a4:=Tryz.isAgg4
 z4:=Tryz.sizeOf4
 v4:=Tryz.zeroValue4
 t9:=Tryz.underlying9
 a9:=Tryz.isAgg9
 z9:=Tryz.sizeOf9
 v9:=Tryz.zeroValue9
 t20:=Tryz.underlying20
 a20:=Tryz.isAgg20
 z20:=Tryz.sizeOf20
 v20:=Tryz.zeroValue20
 t31:=Tryz.underlying29
 a31:=Tryz.isAgg29
 z31:=Tryz.sizeOf29
 v31:=Tryz.zeroValue29
 t37:=Tryz.underlying138
 a37:=Tryz.isAgg138
 z37:=Tryz.sizeOf138
 v37:=Tryz.zeroValue138
 t70:=Tryz.underlying137
 a70:=Tryz.isAgg137
 z70:=Tryz.sizeOf137
 v70:=Tryz.zeroValue137
 t72:=Tryz.underlying140
 a72:=Tryz.isAgg140
 z72:=Tryz.sizeOf140
 v72:=Tryz.zeroValue140
 t75:=Tryz.underlying143
 a75:=Tryz.isAgg143
 z75:=Tryz.sizeOf143
 v75:=Tryz.zeroValue143
 t76:=Tryz.underlying144
 a76:=Tryz.isAgg144
 z76:=Tryz.sizeOf144
 v76:=Tryz.zeroValue144
 t127:=Tryz.underlying171
 a127:=Tryz.isAgg171
 z127:=Tryz.sizeOf171
 v127:=Tryz.zeroValue171
 t164:=Tryz.underlying196
 a164:=Tryz.isAgg196
 z164:=Tryz.sizeOf196
 v164:=Tryz.zeroValue196 }
theorem Tryz.Builder_Extra_156:Builder.Extra Tryz.prog Tryz.lays156_ren:={
 sizeBuilder:=by kernel_rfl
 liesBuilder:=by kernel_rfl
 t5:=Tryz.underlying5
 a5:=Tryz.isAgg5
 z5:=Tryz.sizeOf5
 v5:=Tryz.zeroValue5
 infoByte:=by kernel_rfl
 cellsByte:=by kernel_rfl
 sizeByte:=by kernel_rfl
 neB5:=by decide }
open Go.RowKit in
theorem Tryz.strings_Join (bk o c:Nat)(xs:List ByteArray)(sep:ByteArray)(w:World)(hcells:∀ (j:Nat) x,xs[j]? = some x->w.cell? ⟨bk,o+j,none⟩=some (.string x))(hbk:bk<w.heap.size)(hN:xs.length<=140737488355328)(hcap:xs.length<=c)(Bw:(Lib.join (xs.map (·.data.toList)) sep.data.toList).length<=140737488355328) :
  Calls Tryz.prog 43 #[.slice (some ⟨bk,o,none⟩) xs.length c,.string sep] w λ e w'=>e=.returned (.string ⟨(Lib.join (xs.map (·.data.toList)) sep.data.toList).toArray⟩)/\Below w.heap.size w w':=Any.strings_Join Tryz.lays156 Tryz.Builder_Extra_156 bk o c xs sep w hcells hbk hN hcap Bw
open Go.RowKit in
theorem Tryz.strings_Join_none (a:Option Addr)(c:Nat)(sep:ByteArray)(w:World) :
  Calls Tryz.prog 43 #[.slice a 0 c,.string sep] w λ e w'=>e=.returned (.string ⟨#[]⟩)/\w'=w:=Any.strings_Join_none Tryz.lays156 Tryz.Builder_Extra_156 a c sep w
end Go.Proofs
end
section
namespace Go.Ab
open Go.Proofs Go.RowKit
def strconv_Itoa (n:Int):Option Bk:=ck (inR n)<|some (Lib.itoa n)
theorem fY (i_0:Int)(r:Bk)(h0:strconv_Itoa i_0=some r):aC Tryz.prog 47 [eI i_0] (·=.p (eS r)):=by
 obtain ⟨hr,h0⟩:=ig h0
 cases h0
 refine aC.of_calls (l:=[.int .i64 i_0]) λ w st hok=>(Tryz.strconv_Itoa _ hr.1 hr.2 w (xD hok.gl (g:=1) rfl (by kernel_rfl) (by kernel_rfl) (by decide))).mono ?_;rintro e w' ⟨rfl,k,os,rfl⟩;exact ⟨_,rfl,Lib.below_grow _ w (n6 _) k os,λ _=>.p (.val _)⟩
end Go.Ab
namespace Go.Ab
open Go.Proofs Go.RowKit Go
def hexDigit (n:Nat):UInt8:=if n<10 then UInt8.ofNat (48+n) else UInt8.ofNat (87+n)
def gt (u:Nat):Bk:=if u<16 then [hexDigit u] else [hexDigit (u / 16),hexDigit (u%16)]
set_option maxRecDepth 100000 in
theorem tz16 (w:World)(hT:w.cell? ⟨5,15,none⟩=some (.int .u8 4)) :
  Calls Tryz.prog 196 #[.int .u64 16] w λ e w'=>e=.returned (.int .i64 4)/\w'=w:=by
 have hq:IntKind.u64.wrap (Go.bits BinOp.and IntKind.u64 16 (IntKind.u64.wrap (-16))*285870213051353865) / 288230376151711744=15:=by kernel_rfl
 go_enter Tryz.func196,Tryz.ntmps196
 go_wp2
 go_ret
 exact ⟨Z,Z⟩
set_option maxRecDepth 100000 in
theorem pow2 (w:World):Calls Tryz.prog 179 #[.int .i64 16] w λ e w'=>e=.returned (.bool true)/\w'=w:=by
 have hq:bits BinOp.and IntKind.i64 16 15=0:=by kernel_rfl
 go_enter Tryz.func179,Tryz.ntmps179
 go_wp2
 go_ret
 exact ⟨Z,Z⟩
set_option maxRecDepth 100000 in
theorem tz (w:World)(hT:w.cell? ⟨5,15,none⟩=some (.int .u8 4)) :
  Calls Tryz.prog 180 #[.int .u64 16] w λ e w'=>e=.returned (.int .i64 4)/\w'=w:=by
 have HC:=tz16 w hT
 clear hT
 go_enter Tryz.func180,Tryz.ntmps180
 go_wp2_with (go_at_call 196; refine HC.mono ?_; rintro e w' ⟨rfl,rfl⟩)
 go_ret
 exact ⟨Z,Z⟩
end Go.Ab
namespace Go.Ab
open Go.Proofs Go.RowKit Go
abbrev digs:ByteArray:={ data:=#[48,49,50,51,52,53,54,55,56,57,97,98,99,100,101,102,103,104,105,106,107,108,109,110,111,112,113,114,115,116,117,118,119,120,121,122] }
def dig (n:Nat)(h:n<36):UInt8:=digs[n]'(by show n<36; exact h)
theorem uD (n:Nat)(h:n<36):(({ data:=#[48,49,50,51,52,53,54,55,56,57,97,98,99,100,101,102,103,104,105,106,107,108,109,110,111,112,113,114,115,116,117,118,119,120,121,122] }:ByteArray)[n]'(by show n<36; exact h))=dig n h:=rfl
set_option maxRecDepth 100000 in
theorem fb (u:Int)(h0:0<=u)(h1:u<16)(w:World)(hT:w.cell? ⟨5,15,none⟩=some (.int .u8 4)) :
  Calls Tryz.prog 148 #[.slice none 0 0,.int .u64 u,.int .i64 16,.bool false,.bool false] w λ e w'=>e=.returned (.tuple #[.slice none 0 0,.string ⟨[dig u.toNat O].toArray⟩])/\Below w.heap.size w w':=by
 have hlt:(5:Nat)<w.heap.size:=by
  rcases Nat.lt_or_ge 5 w.heap.size with h|h
  ·exact h
  ·simp [World.cell?,Array.getElem?_eq_none h] at hT
 have HZ:Hid (∀ o,Calls Tryz.prog 180 #[.int .u64 16] (w.alloc o) λ e w'=>e=.returned (.int .i64 4)/\w'=w.alloc o):=λ o=>tz (w.alloc o) ((World.cell?_alloc_lt w _ _ hlt).trans hT)
 clear hT
 go_enter Tryz.func148,Tryz.ntmps148
 go_wp2_with (first|(go_at_call 179; refine (pow2 _).mono ?_; rintro e w' ⟨rfl,rfl⟩)|(go_at_call 180; refine (HZ.out _).mono ?_; rintro e w' ⟨rfl,rfl⟩))
 go_loopg [1,13] 1 (λ g uv iv wx=>g=1/\uv=.int .u64 u/\iv=.int .i64 65/\wx=w.alloc (.cells Tryz.zeroCells227 227))
 case atStart=>exact ⟨rfl,rfl,rfl,rfl⟩
 case round=>
  obtain ⟨rfl,rfl,rfl,rfl⟩:=hrel;have hlt16:decide ((16:Int)<=u)=false:=decide_eq_false O
  go_wp2
  rw [uD u.toNat O];generalize hd:dig u.toNat O =dg
  have hcv:=run_convert_bytes_back (P:=Tryz.prog) (w.alloc (.cells (Tryz.zeroCells227.setIfInBounds 64 (.int .u8 dg.toNat)) 227)) 138 9 5 ⟨w.heap.size,64,none⟩ 1 [dg] Tryz.underlying138 Tryz.underlying5 Tryz.underlying9 (λ j hj=>by
   have:j=0:=by simpa using hj
   subst this;rw [add_lit,Nat.add_zero,World.cell?_alloc_new]
   rfl)
  rw [show [dg].length=1 from rfl] at hcv;rw [hcv];simp only [Result.andThen];rw [Oper.upon_value]
  go_wp2
  go_ret2
  subst hd;exact ⟨rfl,(Below.refl _ w).alloc (n6 _) _⟩
theorem zY:(List.range 256).all (λ n=>Go.bits BinOp.and IntKind.u64 (n:Int) 15==((n%16:Nat):Int))=true:=by kernel_rfl
set_option maxRecDepth 100000 in
theorem fb2 (u:Nat)(h0:16<=u)(h1:u<256)(w:World)(hT:w.cell? ⟨5,15,none⟩=some (.int .u8 4)) :
  Calls Tryz.prog 148 #[.slice none 0 0,.int .u64 u,.int .i64 16,.bool false,.bool false] w λ e w'=>e=.returned (.tuple #[.slice none 0 0,.string ⟨[dig (u / 16) O,dig (u%16) O].toArray⟩])/\Below w.heap.size w w':=by
 have hlt:(5:Nat)<w.heap.size:=by
  rcases Nat.lt_or_ge 5 w.heap.size with h|h
  ·exact h
  ·simp [World.cell?,Array.getElem?_eq_none h] at hT
 have HZ:Hid (∀ o,Calls Tryz.prog 180 #[.int .u64 16] (w.alloc o) λ e w'=>e=.returned (.int .i64 4)/\w'=w.alloc o):=λ o=>tz (w.alloc o) ((World.cell?_alloc_lt w _ _ hlt).trans hT)
 clear hT
 have hand:Go.bits BinOp.and IntKind.u64 (u:Int) 15=((u%16:Nat):Int):=eq_of_beq (List.all_eq_true.1 zY u (List.mem_range.2 h1))
 go_enter Tryz.func148,Tryz.ntmps148
 go_wp2_with (first|(go_at_call 179; refine (pow2 _).mono ?_; rintro e w' ⟨rfl,rfl⟩)|(go_at_call 180; refine (HZ.out _).mono ?_; rintro e w' ⟨rfl,rfl⟩))
 go_loopg [1,13] 1 (λ g uv iv wx=>(g=1/\uv=.int .u64 u/\iv=.int .i64 65/\wx=w.alloc (.cells Tryz.zeroCells227 227))\/(g=0/\uv=.int .u64 ((u / 16:Nat):Int)/\iv=.int .i64 64/\wx=w.alloc (.cells (Tryz.zeroCells227.setIfInBounds 64 (.int .u8 (dig (u%16) O).toNat)) 227)))
 case atStart=>exact .inl ⟨rfl,rfl,rfl,rfl⟩
 case round=>
  rcases hrel with ⟨rfl,rfl,rfl,rfl⟩|⟨rfl,rfl,rfl,rfl⟩
  ·have hlt16:decide ((16:Int)<=(u:Int))=true:=decide_eq_true O
   go_wp2
   rw [uD (u%16) O]
   go_roundg 0
   case measure=>omega
   case rel=>exact .inr ⟨rfl,by rw [Int.natCast_ediv]; rfl,rfl,rfl⟩
  ·have hlt16:decide ((16:Int)<=((u / 16:Nat):Int))=false:=decide_eq_false O
   go_wp2
   rw [uD (u / 16) O];generalize hd:dig (u / 16) O =d1;generalize he:dig (u%16) O =d0
   have hcv:=run_convert_bytes_back (P:=Tryz.prog) (w.alloc (.cells ((Tryz.zeroCells227.setIfInBounds 64 (.int .u8 d0.toNat)).setIfInBounds 63 (.int .u8 d1.toNat)) 227)) 138 9 5 ⟨w.heap.size,63,none⟩ 2 [d1,d0] Tryz.underlying138 Tryz.underlying5 Tryz.underlying9 (λ j hj=>by
    have:j=0\/j=1:=by simp at hj; omega
    rcases this with rfl|rfl
    ·rw [add_lit,Nat.add_zero,World.cell?_alloc_new]
     rfl
    ·rw [add_lit,World.cell?_alloc_new]
     rfl)
   rw [show [d1,d0].length=2 from rfl] at hcv;rw [hcv];simp only [Result.andThen];rw [Oper.upon_value]
   go_wp2
   go_ret2
   subst hd he;exact ⟨rfl,(Below.refl _ w).alloc (n6 _) _⟩
end Go.Ab
namespace Go.Ab
open Go.Proofs Go.RowKit Go
theorem yB:∀ n:Fin 16,dig n.1 (Nat.lt_of_lt_of_le n.2 (by decide))=hexDigit n.1:=by decide
theorem pD (n:Nat)(h:n<16)(h':n<36):dig n h'=hexDigit n:=yB ⟨n,h⟩
theorem Al (u:Nat)(h1:u<256)(w:World)(hT:w.cell? ⟨5,15,none⟩=some (.int .u8 4)) :
  Calls Tryz.prog 148 #[.slice none 0 0,.int .u64 u,.int .i64 16,.bool false,.bool false] w λ e w'=>e=.returned (.tuple #[.slice none 0 0,.string ⟨(gt u).toArray⟩])/\Below w.heap.size w w':=by
 by_cases h:u<16
 ·have:=fb u O O  w hT
  rwa [pD _ O _,Int.toNat_natCast,show [hexDigit u]=gt u from (if_pos h).symm] at this
 ·have:=fb2 u O h1 w hT
  rwa [pD (u / 16) O _,pD (u%16) O _,show [hexDigit (u / 16),hexDigit (u%16)]=gt u from (if_neg h).symm] at this
set_option maxRecDepth 100000 in
theorem fint (u:Nat)(h1:u<256)(w:World)(hT:w.cell? ⟨5,15,none⟩=some (.int .u8 4)) :
  Calls Tryz.prog 113 #[.int .i64 u,.int .i64 16] w λ e w'=>e=.returned (.string ⟨(gt u).toArray⟩)/\Below w.heap.size w w':=by
 have HC:Hid _:=Al u h1 w hT
 clear hT
 have hneg:decide ((u:Int)<0)=false:=decide_eq_false O;generalize gt u=tx at HC ⊢
 go_enter Tryz.func113,Tryz.ntmps113
 go_wp2_with (go_at_call 148; refine Calls.mono HC.out ?_; rintro e w' ⟨rfl,hB⟩)
 go_ret
 exact ⟨Z,hB⟩
set_option maxRecDepth 100000 in
theorem Ad (u:Nat)(h1:u<256)(w:World)(hT:w.cell? ⟨5,15,none⟩=some (.int .u8 4)) :
  Calls Tryz.prog 171 #[.int .i64 u,.int .i64 16] w λ e w'=>e=.returned (.string ⟨(gt u).toArray⟩)/\Below w.heap.size w w':=by
 have HC:Hid _:=fint u h1 w hT
 clear hT
 generalize gt u=tx at HC ⊢
 go_enter Tryz.func171,Tryz.ntmps171
 go_wp2_with (go_at_call 113; refine Calls.mono HC.out ?_; rintro e w' ⟨rfl,hB⟩)
 go_ret
 exact ⟨Z,hB⟩
def gp (i b:Int):Option Bk:=ck (b=16/\0<=i/\i<256)<|some (gt i.toNat)
theorem l4 (i_0 base_1:Int)(r:Bk)(h0:gp i_0 base_1=some r):aC Tryz.prog 171 [eI i_0,eI base_1] (·=.p (eS r)):=by
 obtain ⟨⟨rfl,h1,h2⟩,h3⟩:=ig h0
 cases h3
 obtain ⟨u,rfl⟩:∃ u:Nat,i_0=u:=⟨i_0.toNat,by omega⟩
 refine aC.of_calls (l:=[.int .i64 u,.int .i64 16]) λ w st hok=>(Ad u O w (te hok.gl rfl (by kernel_rfl))).mono ?_;rintro e w' ⟨rfl,hB⟩;exact ⟨_,rfl,hB,λ _=>.p (.val _)⟩
end Go.Ab
namespace Go.Ab
open Go.Proofs Go.RowKit Go
theorem decN (n b0 b1 b2 b3:Nat)(hn:1<=n)(h0:b0<256):1<=(Lib.decodeN n b0 b1 b2 b3).2/\(Lib.decodeN n b0 b1 b2 b3).2<=n/\(Lib.decodeN n b0 b1 b2 b3).2<=4 /\
  ((Lib.decodeN n b0 b1 b2 b3).1<128->(Lib.decodeN n b0 b1 b2 b3).2=1/\(Lib.decodeN n b0 b1 b2 b3).1=b0) /\
  (128<=(Lib.decodeN n b0 b1 b2 b3).1->128<=b0/\(2<=(Lib.decodeN n b0 b1 b2 b3).2->128<=b1)/\(3<=(Lib.decodeN n b0 b1 b2 b3).2->128<=b2)/\(4<=(Lib.decodeN n b0 b1 b2 b3).2->128<=b3)) /\
  ((Lib.decodeN n b0 b1 b2 b3).1<55296\/(57343<(Lib.decodeN n b0 b1 b2 b3).1/\(Lib.decodeN n b0 b1 b2 b3).1<=1114111)):=by
 unfold Lib.decodeN
 repeat' split
 all_goals (refine ⟨by dsimp only; omega,by dsimp only; omega,by dsimp only; omega,λ h=>⟨by dsimp only at h ⊢; first|done|omega,by dsimp only at h ⊢; first|done|omega⟩,λ h=>⟨by dsimp only at h; omega,λ k=>by dsimp only at k; omega,λ k=>by dsimp only at k; omega,λ k=>by dsimp only at k; omega⟩,by dsimp only; omega⟩)
end Go.Ab
namespace Go.Ab
open Go.Proofs Go.RowKit Go
end Go.Ab
namespace Go.Ab
open Go.Proofs Go.RowKit Go
theorem aC.of_any {P:Program}{f:FuncId}{args:List PV}{r:AV}
  (h:∀ (w:World) (st:Nat->Nat->Prop) (vs:Array Value),Ok0 w st->vs.size=args.length->(∀ (i:Nat) c v,args[i]? = some c->vs[i]? = some v->PRep w st c v) ->
   Calls P f vs w λ e w'=>∃ v,e=.returned v/\Below w.heap.size w w'/\∀ g',ARep w' g' r v):aC P f args (·=r):=by
 intro w st vs hok By hargs;refine (h w st vs hok By hargs).mono ?_;rintro e w' ⟨v,rfl,hB,hr⟩;refine ⟨v,r,⟨st,λ _=>none⟩,rfl,rfl,hr _,⟨hB.os,hB.output,hB.tape,hB.size,λ b hb=>hB.block b hb,?_,?_,λ b o hb=>Nat.lt_of_lt_of_le (hok.lt b o hb) hB.size,λ b _ o=>Iff.rfl⟩⟩
 ·intro i b hi; cases hi
 ·intro i j b hi; cases hi
theorem arr2 {vs:Array Value}(h:vs.size=2):∃ a b,vs=#[a,b]/\vs[0]? = some a/\vs[1]? = some b:=by
 refine ⟨vs[0],vs[1],?_,Array.getElem?_eq_getElem _,Array.getElem?_eq_getElem _⟩;apply Array.ext
 ·simpa using h
 ·intro i h1 h2;have:i=0\/i=1:=by omega
  rcases this with rfl|rfl <;> rfl
def strings_Join (xs:List Bk)(sep:Bk):Option Bk:=ck (xs.length<=140737488355328/\(Lib.join xs sep).length<=140737488355328)<|some (Lib.join xs sep)
theorem pb (elems_0:List Bk)(sep_1:Bk)(r:Bk)(h0:strings_Join elems_0 sep_1=some r):aC Tryz.prog 43 [eL eS elems_0,eS sep_1] (·=.p (eS r)):=by
 obtain ⟨⟨h1,h2⟩,h0⟩:=ig h0
 cases h0
 refine aC.of_any λ w st vs hok By hv=>?_;obtain ⟨a,b,rfl,ha,hb⟩:=arr2 By;have hb1:=hv 1 (eS sep_1) b rfl hb;have ha2:PRep w st (.slice (elems_0.map eS)) a:=hv 0 (eL eS elems_0) a rfl ha
 clear ha hb hv By
 cases hb1
 have hmap:((elems_0.map str).map (·.data.toList))=elems_0:=by
  rw [List.map_map]
  conv=>rhs; rw [<- List.map_id elems_0]
  exact List.map_congr_left λ x _=>qn x
 have nil:∀ (a:Option Addr) (c:Nat),elems_0=[]->Calls Tryz.prog 43 #[.slice a 0 c,.string (str sep_1)] w λ e w'=>∃ v,e=.returned v/\Below w.heap.size w w'/\∀ g',ARep w' g' (.p (eS (Lib.join elems_0 sep_1))) v:=by
  rintro a c rfl;refine (Tryz.strings_Join_none a c (str sep_1) w).mono ?_;rintro e w' ⟨rfl,rfl⟩;exact ⟨_,rfl,uJ _,λ _=>.p (.val _)⟩
 generalize hes:elems_0.map eS=es at ha2
 cases ha2 with
 | nils=>exact nil _ _ (List.map_eq_nil_iff.1 hes)
 | nile q=>exact nil _ _ (List.map_eq_nil_iff.1 hes)
 | slice sz cf hcap hsz' BB hc hr=>
  rename_i bk off cap;have Bw:es.length=elems_0.length:=by rw [<- hes,bx]
  by_cases he:elems_0=[]
  ·have:es.length=0:=by rw [Bw,he]; rfl
   rw [this]; exact nil _ _ he
  obtain ⟨x0,hx0⟩:=List.exists_mem_of_ne_nil _ he
  have hs1:sz=1:=by
   have:=hsz' (eS x0) (by rw [<- hes]; exact List.mem_map_of_mem hx0);exact this.symm
  subst hs1
  have BE:∀ (j:Nat) x,(elems_0.map str)[j]? = some x->w.cell? ⟨bk,off+j,none⟩=some (.string x)/\st bk (off+j):=by
   intro j x hx;rw [List.getElem?_map] at hx;obtain ⟨y,hy,rfl⟩:=n7.1 hx;have hj:es[j]? = some (eS y):=by rw [<- hes,List.getElem?_map,hy]; rfl
   have q1:=hc j (eS y) 0 (eS y) hj rfl;have q2:=hr j (eS y) 0 (eS y) hj rfl;rw [Nat.mul_one,Nat.add_zero] at q1;generalize hcv:cf j 0=z at q1 q2
   cases q2
   exact ⟨q1.2,q1.1⟩
  have hbk:bk<w.heap.size:=by
   obtain ⟨i,hi,e⟩:=List.getElem_of_mem hx0;exact hok.lt _ _ (BE i (str x0) (by rw [List.getElem?_map,List.getElem?_eq_getElem hi,e]; rfl)).2
  have hJ:=Tryz.strings_Join bk off cap (elems_0.map str) (str sep_1) w (λ j x hx=>(BE j x hx).1) hbk (by rw [bx]; exact h1) (by rw [bx,<- Bw]; exact hcap) (by rw [hmap,qn]; exact h2);rw [bx,<- Bw] at hJ;refine hJ.mono ?_;rintro e w' ⟨rfl,hbl⟩;rw [hmap,qn];exact ⟨_,rfl,hbl,λ _=>.p (.val _)⟩
end Go.Ab
end
section
namespace Go.Ab
open Go.MapKept
section
variable {C:Cx} {o:Oper} {K:AS->Prop} {sl:List (Nat×AV)} {ob:List (Nat×List AV)} {d:Nat}
theorem wO {d:Nat}(hd:d<M1):∀ i,Nat.beq i d=true->i<M1:=λ i hi=>by have:=bt hi; omega
end
/- As 'dem',for identities of any size; what is known of maps of rows is given up. -/
end Go.Ab
end
section
namespace Go.Ab
section
variable {C:Cx} {o:Oper} {K:AS->Prop} {sl:List (Nat×AV)} {ob:List (Nat×List AV)} {d:Nat}
theorem ss {es ys:List PV}{t tx e e':TypeId}{i ie j:TI}{y:Operand}{Y0z:AV}{k:Nat}(D:Nat->Bool)(hDl:∀ i,D i=true->i<M1)(hDk:D k=true)
  (hi:look C.tt t=some i) (BK:i.k=.slice e) (hie:look C.tt e=some ie) (hj:look C.tt tx=some j) (hjk:j.k=.slice e')
  (hy:evo sl y=some Y0z) (hY:Y0z.elems? = some ys) (By:∀ y∈es++ys,y.cells=[y]/\y.one=true) (h1s:ie.size=1) (hzl:ie.zero.length=ie.size)
  (Bw:(es.length+ys.length)*ie.bytes<=140737488355328) (hlen':es.length+ys.length<=9223372036854775807)
  {g:Gh} {a:Act} {w:World} (hs:St C.n C.w0 C.F g ⟨sl,ob⟩ a w) (base:Option Addr) (cap:Nat) (olds:List Value)
  (hold:(Builtin.firstCells ie.size es.length (.slice base es.length cap)).run C.P w.drew=.ok olds.toArray w.drew) (hol:olds.length=es.length)
  (hoc:∀ (i:Nat) x,es[i]? = some x->∃ u,olds[i]? = some u/\PRep w g.st x u)
  (hg:cap<es.length+ys.length) (ty:TypeId) (hn:Nat.blt d C.n=true) :
  ∃ v w' g',(Builtin.append_ #[t,tx] ty #[.slice base es.length cap,a.eval y]).run C.P w=.ok v w' /\
   St C.n C.w0 C.F g' ⟨(d,.stk k 1 (es++ys))::(cF D ⟨sl,ob⟩).sl,(cF D ⟨sl,ob⟩).ob⟩ (a.put (some d) v) w':=by
 obtain ⟨u,h1,h2⟩:=bI C.good hi;have h3:=bB (h2.trans BK);subst h3;obtain ⟨u',h1',h2'⟩:=bI C.good hj;have h3':=bB (h2'.trans hjk);subst h3';obtain ⟨info,hf1,hf2,hf3,z,hf4,hf5⟩:=fm C.good hie;have hyv:=fv hY (bP hs hy);have hszy:∀ y∈ys,y.cells=[y]:=λ y hy=>(By y (List.mem_append_right _ hy)).1;obtain ⟨news,hsrc,hnews⟩:=mV (P:=C.P) (sz:=ie.size) h1' hyv (λ y hy=>by rw [hszy y hy,h1s]; rfl) O;have hfit:=growslice_fits (bytes:=ie.bytes) hg Bw;have hrun:=run_append_grow_src w t tx ty e info z h1 hf1 hf4 base es.length cap olds (by rw [hf2]; exact hold) (a.eval y) ys.length news (by rw [hf2]; exact hsrc) hg O (by rw [hf3]; exact hfit);obtain ⟨q,hq⟩:∃ q,q=grownCap w (es.length+ys.length) cap e:=⟨_,rfl⟩
 rw [<- hq] at hrun
 have hqn:es.length+ys.length<=q:=by
  rw [hq]; unfold grownCap; simp only [Question.cut]; omega
 have hzs:z.cells.size=1:=by rw [<- h1s,<- hzl,<- hf5,th]
 have hnl:news.length=ys.length:=by rw [hsrc.newsLen,h1s,Nat.mul_one]
 obtain ⟨c,hc⟩:∃ c,c=(olds++news).toArray++Builtin.zeroCells z.cells (q-(es.length+ys.length)):=⟨_,rfl⟩
 rw [<- hc] at hrun
 have BD:c.size=q:=by
  rw [hc];simp only [Array.size_append,List.size_toArray,cl,hol,hnl,size_zeroCells,hzs];omega
 have hf:=hs.drew.fresh D hDl k hDk (λ o=>o=q*1) c e;have BF:=iT (w:=w.drew) (T:=λ o=>o=q*1) (ob:=.cells c e) hs.drew.lt;have hlenA:(es++ys).length=es.length+ys.length:=cl
 have hrep:ARep (w.drew.alloc (.cells c e)) ⟨λ b o=>g.st b o\/(b=w.drew.heap.size/\o=q*1),λ i=>if i=k then some w.drew.heap.size else if D i then none else g.ow i⟩ (.stk k 1 (es++ys)) (.slice (some ⟨w.drew.heap.size,0,none⟩) (es++ys).length q):=by
  refine .stk G bR O O  (λ x hx=>by rw [(By x hx).1]; rfl) (λ x hx c hc=>by rw [(By x hx).1] at hc; obtain rfl:=List.mem_singleton.1 hc; exact (By c hx).2) (λ o=>?_) (λ i x j p hx hp=>?_)
  ·constructor
   ·rintro (h|⟨_,h⟩)
    ·exact absurd (hs.lt _ _ h) (Nat.lt_irrefl _)
    ·exact h
   ·intro h; exact .inr ⟨rfl,h⟩
  ·rw [(By x (List.mem_of_getElem? hx)).1] at hp
   have hj:j=0:=by
    have:=(List.getElem?_eq_some_iff.1 hp).1;simpa using this
   subst hj;simp only [List.getElem?_cons_zero,aq] at hp;subst hp;have hil:i<(es++ys).length:=(List.getElem?_eq_some_iff.1 hx).1
   have hget:c[i]? = if i<es.length then olds[i]? else news[i-es.length]?:=by
    rw [hc,Array.getElem?_append];simp only [List.size_toArray,cl,hol,hnl];rw [if_pos O,List.getElem?_toArray,List.getElem?_append,hol]
   rw [Nat.mul_one,Nat.add_zero];rw [List.getElem?_append] at hx;split at hx
   ·rename_i hlt;obtain ⟨u,hu,hr⟩:=hoc i x hx;exact ⟨u,by rw [hget,if_pos hlt]; exact hu,(PRep.mono (w:=w) (w':=w.drew) (st:=g.st) (st':=g.st) (λ b o h=>⟨h,rfl⟩) hr).mono BF⟩
   ·rename_i hge;obtain ⟨k1,u,hu,hr⟩:=hnews (i-es.length) x 0 x hx (by rw [hszy x (List.mem_of_getElem? hx)]; rfl);rw [h1s,Nat.mul_one,Nat.add_zero] at hu;exact ⟨u,by rw [hget,if_neg hge]; exact hu,(PRep.mono (w:=w) (w':=w.drew) (st:=g.st) (st':=g.st) (λ b o h=>⟨h,rfl⟩) hr).mono BF⟩
 rw [hlenA] at hrep;have hp:=hf.put (d:=some d) (λ t ht=>by cases ht; exact mv ▸ hn) hrep;exact ⟨_,_,_,hrun,hp⟩
theorem tL {t tx e e':TypeId}{x y:Operand}{k:Nat}{es:List PV}{Y0z:AV}{ys:List PV}{i ie j:TI}(ho:o.op=.call { callee:=.builtin .append,args:=#[x,y],argTypes:=#[t,tx] })(hd:o.dst=some d)(hn:Nat.blt d C.n=true)
  (hi:look C.tt t=some i) (BK:i.k=.slice e) (hie:look C.tt e=some ie) (hj:look C.tt tx=some j) (hjk:j.k=.slice e') (hx:evo sl x=some (.stk k 1 es)) (hk:Nat.blt k M1=true)
  (hy:evo sl y=some Y0z) (hY:Y0z.elems? = some ys) (By:∀ y∈es++ys,y.cells=[y]/\y.one=true) (hys:0<ys.length) (h1s:ie.size=1) (hzl:Nat.beq ie.zero.length ie.size=true)
  (Bw:(es.length+ys.length)*ie.bytes<=140737488355328) (hlen':es.length+ys.length<=9223372036854775807)
  (hK:K ⟨(d,.stk k 1 (es++ys))::(cF (λ i=>Nat.beq i k) ⟨sl,ob⟩).sl,(cF (λ i=>Nat.beq i k) ⟨sl,ob⟩).ob⟩):bA C o K ⟨sl,ob⟩:=by
 have hzl':=bt hzl;have hk':k<M1:=mv ▸ hk
 have hDl:∀ i,(Nat.beq i k)=true->i<M1:=by
  intro i hi;have:=bt hi; omega
 intro g a w hs;have hxr:=bP hs hx;generalize hxv:a.eval x=xv at hxr
 have hrun0:∀ v w',(Builtin.append_ #[t,tx] o.type #[xv,a.eval y]).run C.P w=.ok v w'->(execOp a.eval o).run C.P w=.ok (.value v) w':=by
  intro v w' h;rw [eP ho];simp [builtin,hxv,h]
 cases hxr with
 | stkn=>
  obtain ⟨v,w',g',hr',hst'⟩:=ss (es:=[]) (k:=k) (λ i=>Nat.beq i k) hDl G hi BK hie hj hjk hy hY By h1s hzl' Bw hlen' hs none 0 [] (run_firstCells_none w.drew ie.size 0 0 0) rfl (λ i x hx=>by simp at hx) (by simpa using hys) o.type hn;unfold Oper.wp;rw [hrun0 _ _ hr'];simp only [Oper.upon,hd];exact ⟨g',_,hst',hK⟩
 | stke=>
  rename_i a0;obtain ⟨v,w',g',hr',hst'⟩:=ss (es:=[]) (k:=k) (λ i=>Nat.beq i k) hDl G hi BK hie hj hjk hy hY By h1s hzl' Bw hlen' hs (some a0) 0 [] (run_firstCells_some w.drew ie.size 0 a0 0 0 [] G G) rfl (λ i x hx=>by simp at hx) (by simpa using hys) o.type hn;unfold Oper.wp;rw [hrun0 _ _ hr'];simp only [Oper.upon,hd];exact ⟨g',_,hst',hK⟩
 | stk how hb BD hlenc hszc BB BH hr=>
  rename_i b cap c e0;rw [Nat.mul_one] at BD
  have BE:∀ (i:Nat) x,es[i]? = some x->∃ u,c[i]? = some u/\PRep w g.st x u:=by
   intro i x hx;obtain ⟨v,h1,h2⟩:=hr i x 0 x hx (by rw [(By x (List.mem_append_left _ (List.mem_of_getElem? hx))).1]; rfl);exact ⟨v,by rw [Nat.mul_one,Nat.add_zero] at h1; exact h1,h2⟩
  by_cases hroom:es.length+ys.length<=cap
  ·obtain ⟨u,h1,h2⟩:=bI C.good hi;have h3:=bB (h2.trans BK);subst h3;obtain ⟨u',h1',h2'⟩:=bI C.good hj;have h3':=bB (h2'.trans hjk);subst h3';obtain ⟨info,hf1,hf2,hf3,z,hf4,hf5⟩:=fm C.good hie;have hyv:=fv hY (bP hs hy);have hszy:∀ y∈ys,y.cells=[y]:=λ y hy=>(By y (List.mem_append_right _ hy)).1;obtain ⟨news,hsrc,hnews⟩:=mV (P:=C.P) (sz:=ie.size) h1' hyv (λ y hy=>by rw [hszy y hy,h1s]; rfl) O;have hnl:news.length=ys.length:=by rw [hsrc.newsLen,h1s,Nat.mul_one]
   have hstc:=run_storeCells_at C.P b (es.length*ie.size) e0 news 0 c w hb (by rw [h1s]; simp; omega) hsrc.one;simp only [Nat.add_zero] at hstc;rw [h1s,Nat.mul_one] at hstc;obtain ⟨c',hc'⟩:∃ c',c'=(c.toList.take es.length++news++c.toList.drop (es.length+news.length)).toArray:=⟨_,rfl⟩
   rw [<- hc'] at hstc;have hrr:=fE t tx o.type e info h1 hf1 b es.length cap (a.eval y) ys.length news (by rw [hf2]; exact hsrc) hroom (by rw [hf2,h1s,Nat.mul_one]; exact hstc)
   have hcell':∀ j,c'[j]? = if es.length<=j/\j<es.length+news.length then news[j-es.length]? else c[j]?:=by
    intro j;rw [hc'];have:=gB c.toList news es.length (by simp; omega) j;simpa using this
   have hcs':c'.size=cap:=by rw [<- BD,hc']; simp; omega
   have hin:=hs.inplace (λ i=>Nat.beq i k) hDl (k:=k) (d:=k) how G G  hb (c':=c') (hcs'.trans BD.symm) (λ o h=>by
    have:=(BH o).1 h
    rw [Array.getElem?_eq_none O,Array.getElem?_eq_none O]) (λ o=>o=cap*1) (λ o h=>(BH o).1 h)
   have hEv:Ev w g.st (w.setRow b c') (λ b' o=>(b'=b/\o=cap*1)\/(b'≠b/\g.st b' o)):=by
    intro b' o h;by_cases e1:b'=b
    ·subst e1;have ho:=(BH o).1 h;refine ⟨.inl ⟨rfl,ho⟩,?_⟩;simp only [World.cell?,setRow_heap w b' c c' e0 (0,0) hb,hb];rw [Array.getElem?_eq_none O,Array.getElem?_eq_none O]
    ·exact ⟨.inr ⟨e1,h⟩,by simp only [World.cell?,setRow_other w b b' c' e1]⟩
   have hlenA:(es++ys).length=es.length+ys.length:=cl
   have hrep:ARep (w.setRow b c') ⟨λ b' o=>(b'=b/\o=cap*1)\/(b'≠b/\g.st b' o),λ i=>if i=k then some b else if (Nat.beq i k) then none else g.ow i⟩ (.stk k 1 (es++ys)) (.slice (some ⟨b,0,none⟩) (es++ys).length cap):=by
    refine .stk G (setRow_heap w b c c' e0 (0,0) hb) O O  (λ x hx=>by rw [(By x hx).1]; rfl) (λ x hx c hc=>by rw [(By x hx).1] at hc; obtain rfl:=List.mem_singleton.1 hc; exact (By c hx).2) (λ o=>?_) (λ i x j p hx hp=>?_)
    ·constructor
     ·rintro (⟨_,h⟩|⟨h,_⟩)
      ·exact h
      ·exact absurd Z h
     ·intro h; exact .inl ⟨rfl,h⟩
    ·rw [(By x (List.mem_of_getElem? hx)).1] at hp
     have hj:j=0:=by
      have:=(List.getElem?_eq_some_iff.1 hp).1;simpa using this
     subst hj;simp only [List.getElem?_cons_zero,aq] at hp;subst hp;rw [Nat.mul_one,Nat.add_zero];rw [List.getElem?_append] at hx;split at hx
     ·rename_i hlt;obtain ⟨u,hu,hr⟩:=BE i x hx;exact ⟨u,by rw [hcell',if_neg O]; exact hu,hr.mono hEv⟩
     ·rename_i hge;have hi2:i-es.length<ys.length:=(List.getElem?_eq_some_iff.1 hx).1;obtain ⟨_,u,hu,hr⟩:=hnews (i-es.length) x 0 x hx (by rw [hszy x (List.mem_of_getElem? hx)]; rfl);rw [h1s,Nat.mul_one,Nat.add_zero] at hu;exact ⟨u,by rw [hcell',if_pos O]; exact hu,hr.mono hEv⟩
   rw [hlenA] at hrep;have hp:=hin.put (d:=some d) (λ t ht=>by cases ht; exact mv ▸ hn) hrep;unfold Oper.wp;rw [hrun0 _ _ hrr];simp only [Oper.upon,hd];exact ⟨_,_,hp,hK⟩
  ·have hlenT:(c.toList.take es.length).length=es.length:=by
    rw [sm,show c.toList.length=cap from th.trans BD]; omega
   have hold:(Builtin.firstCells ie.size es.length (.slice (some ⟨b,0,none⟩) es.length cap)).run C.P w.drew=.ok (c.toList.take es.length).toArray w.drew:=by
    refine run_firstCells_some w.drew ie.size es.length ⟨b,0,none⟩ es.length cap _ (by rw [hlenT,h1s,Nat.mul_one]) (λ j v hv=>?_);rw [List.getElem?_take] at hv;split at hv
    ·rw [add_lit,ro,World.cell?_drew];simp only [World.cell?,hb];simpa using hv
    ·cases hv
   obtain ⟨v,w',g',hr',hst'⟩:=ss (es:=es) (k:=k) (λ i=>Nat.beq i k) hDl G hi BK hie hj hjk hy hY By h1s hzl' Bw hlen' hs (some ⟨b,0,none⟩) cap (c.toList.take es.length)
    hold hlenT (λ i x hx=>by
     obtain ⟨u,hu,hr⟩:=BE i x hx
     exact ⟨u,by rw [List.getElem?_take,if_pos (List.getElem?_eq_some_iff.1 hx).1]; simpa using hu,hr⟩) O o.type hn
   unfold Oper.wp;rw [hrun0 _ _ hr'];simp only [Oper.upon,hd];exact ⟨g',_,hst',hK⟩
theorem yi {t e:TypeId}{x:Operand}{i:TI}{k sz:Nat}{es:List PV}(ho:o.op=.call { callee:=.builtin .len,args:=#[x],argTypes:=#[t] })(hd:o.dst=some d)(hn:Nat.blt d C.n=true)
  (hi:look C.tt t=some i) (BK:i.k=.slice e) (hx:evo sl x=some (.stk k sz es))
  (hK:K ⟨(d,.p (.val (.int .i64 (es.length:Int))))::sl,ob⟩):bA C o K ⟨sl,ob⟩:=by
 obtain ⟨u,h1,h2⟩:=bI C.good hi;have h3:=bB (h2.trans BK);subst h3;refine ok_one hd hn (λ g a w hs=>?_) hK;have h5:=bP hs hx;generalize hv:a.eval x=v at h5
 cases h5 with
 | stkn=>exact ⟨.int .i64 0,by rw [eP ho]; simp [builtin,hv,Builtin.len_,run_underlying h1,goInt],.p (.val _)⟩
 | stke=>exact ⟨.int .i64 0,by rw [eP ho]; simp [builtin,hv,Builtin.len_,run_underlying h1,goInt],.p (.val _)⟩
 | stk how hb BD hlenc hszc BB BH hr=>exact ⟨.int .i64 (es.length:Int),by rw [eP ho]; simp [builtin,hv,Builtin.len_,run_underlying h1,goInt],.p (.val _)⟩
end
theorem AV.sub_nilstk (tok sz:Nat):(AV.p (.val (.slice none 0 0))).sub (.stk tok sz []):=by
 intro w g v h
 cases h with
 | p h=>cases h; exact .stkn _ _
section
variable {C:Cx} {o:Oper} {K:AS->Prop} {sl:List (Nat×AV)} {ob:List (Nat×List AV)} {d:Nat}
theorem xR {α:Type}(f:α->PV)(hf:∀ x,(f x).cells=[f x]/\(f x).one=true)(l0 l:List α){t tx e e':TypeId}{x y:Operand}{k:Nat}{Y0z:AV}{i ie j:TI}{sl':List (Nat×AV)}{ob':List (Nat×List AV)}(ho:o.op=.call { callee:=.builtin .append,args:=#[x,y],argTypes:=#[t,tx] })(hd:o.dst=some d)(hn:Nat.blt d C.n=true)
  (hi:look C.tt t=some i) (BK:i.k=.slice e) (hie:look C.tt e=some ie) (hj:look C.tt tx=some j) (hjk:j.k=.slice e') (hx:evo sl x=some (.stk k 1 (l0.map f))) (hk:Nat.blt k M1=true)
  (hy:evo sl y=some Y0z) (hY:Y0z.elems? = some (l.map f)) (hys:0<l.length) (h1s:ie.size=1) (hzl:Nat.beq ie.zero.length ie.size=true) (hby:Nat.blt 0 ie.bytes=true)
  (Bw:(l0.length+l.length)*ie.bytes<=140737488355328) (h1:dmS (λ i=>Nat.beq i k) sl=some sl') (h2:dmO (λ i=>Nat.beq i k) ob=some ob')
  (hK:K ⟨(d,.stk k 1 ((l0++l).map f))::sl',ob'⟩):bA C o K ⟨sl,ob⟩:=by
 have hby':1<=ie.bytes:=Nat.succ_le_of_lt (by simpa using hby);have h3:(l0.length+l.length)*1<=(l0.length+l.length)*ie.bytes:=Nat.mul_le_mul_left _ hby';refine tL ho hd hn hi BK hie hj hjk hx hk hy hY (λ y hy=>?_) (by simpa using hys) h1s hzl (by rw [bx,bx]; exact Bw) (by rw [bx,bx]; omega) ?_
 ·rw [<- List.map_append] at hy;obtain ⟨x,_,rfl⟩:=List.mem_map.1 hy;exact hf x
 ·rw [<- List.map_append];simp only [cF];rw [<- oa h1,<- l7 h2];exact hK
theorem qf {α:Type}(f:α->PV)(l:List α){t e:TypeId}{x:Operand}{i:TI}{k sz:Nat}(ho:o.op=.call { callee:=.builtin .len,args:=#[x],argTypes:=#[t] })(hd:o.dst=some d)(hn:Nat.blt d C.n=true)
  (hi:look C.tt t=some i) (BK:i.k=.slice e) (hx:evo sl x=some (.stk k sz (l.map f))) (hK:K ⟨(d,.p (eI (l.length:Int)))::sl,ob⟩):bA C o K ⟨sl,ob⟩ :=
 yi ho hd hn hi BK hx (by rw [bx]; exact hK)
end
section
variable {C:Cx} {o:Oper} {K:AS->Prop} {sl:List (Nat×AV)} {ob:List (Nat×List AV)} {d:Nat}
theorem uc {α:Type}(f:α->PV)(l:List α){t e len:Nat}{parts:Array (Nat×Operand)}{i ie:TI}{es:List PV}{sz:Nat}(ho:o.op=.buildSlice t len parts)(hd:o.dst=some d)(hn:Nat.blt d C.n=true)
  (hi:look C.tt t=some i) (BK:i.k=.slice e) (hie:look C.tt e=some ie) (hes:j3 sl 0 parts.toList=some es) (Bw:Nat.beq es.length len=true) (hpos:Nat.blt 0 len=true)
  (hk:Nat.blt 0 ie.size=true) (hsm:Nat.ble (len*ie.size) 16777216=true) (By:mT ie.size es=true) (hzl:Nat.beq ie.zero.length ie.size=true) (he:es=l.map f) (hsz1:ie.size=sz)
  {sl':List (Nat×AV)} {ob':List (Nat×List AV)} (h1':dmS (λ i=>Nat.beq i d) sl=some sl') (h2':dmO (λ i=>Nat.beq i d) ob=some ob')
  (hK:K ⟨(d,.vec d sz 0 (l.map f))::sl',ob'⟩):bA C o K ⟨sl,ob⟩:=by
 subst hsz1;rw [<- he] at hK
 clear he
 obtain ⟨u,h1,h2⟩:=bI C.good hi;have h3:=bB (h2.trans BK);subst h3;have hlen':es.length=len:=bt Bw;have hpos':0<len:=by simpa using hpos
 have hk':0<ie.size:=by simpa using hk
 have hsm':=ph hsm;have hzl':=bt hzl;have hdl:d<M1:=by have h1:=ph C.nl; have h2:d<C.n:=mv ▸ hn; omega
 obtain ⟨j,hj,hj1,hj2,z,hz1,hz2⟩:=fm C.good hie;intro g a w hs;obtain ⟨q1,q2,q3⟩:=mb hs _ 0 es hes;obtain ⟨vs,hvs⟩:∃ vs,vs=parts.toList.map λ p=>a.eval p.2:=⟨_,rfl⟩
 rw [<- hvs] at q1 q3;have hvl:es.length=vs.length:=by rw [hvs,bx]; exact q2
 have hzs:z.cells.size=ie.size:=by rw [<- hzl',<- hz2,th]
 have hvsz:∀ v∈vs,v.cells.size=ie.size:=by
  intro v hv;obtain ⟨m,hm,rfl⟩:=List.getElem_of_mem hv;have hp:=q3 m (es[m]' O) _ (List.getElem?_eq_getElem O) (List.getElem?_eq_getElem hm);obtain ⟨m1,m2⟩:=gK By (es[m]' O) (List.getElem_mem _);rw [(mL hp m2).1,m1]
 obtain ⟨r,f1,f2,f3⟩:=Great.fill_dense hk' vs 0 ((Array.range (len*ie.size)).map (z.cells[· % z.cells.size]!)) hvsz (by simp; rw [<- hvl,hlen']; exact n6 _)
 have f1':Instr.fill (λ i=>some (i*ie.size,ie.size)) ((Array.range (len*ie.size)).map (z.cells[· % z.cells.size]!)) (parts.map λ (i,x)=>(i,a.eval x)).toList=some r:=by
  rw [Array.toList_map]; rw [<- f1]; congr 1
 have hrun:=run_buildSlice (P:=C.P) w t e len (parts.map λ (i,x)=>(i,a.eval x)) r j z h1 hj hz1 (by rw [hj1]; omega) (by rw [hj1]; have:=Nat.mul_pos hpos' hk'; omega) (by rw [hj1]; exact f1');unfold Oper.wp
 have hrun':(execOp a.eval o).run C.P w=.ok (.value (.slice (some ⟨w.heap.size,0,none⟩) len len)) (w.alloc (.cells r e)):=by
  simp only [execOp,ho,Sem.run_bind,hrun,Result.andThen_ok,Sem.run_pure]
 rw [hrun'];have hrs:r.size=len*ie.size:=by rw [f2]; simp
 have hprep:=tu (e:=e) hk' hvl hs.lt q3 By (r:=r) (by rw [f2]; simp; rw [hlen']) (λ m hm=>by rw [f3 m,if_pos (by simp; rw [<- hvl]; exact hm)]; simp) len O;have hf:=hs.fresh (λ i=>Nat.beq i d) (λ i hi=>by have:=bt hi; omega) d G (λ o=>o<es.length*ie.size) r e
 have hv:ARep (w.alloc (.cells r e)) ⟨λ b o=>g.st b o\/(b=w.heap.size/\o<es.length*ie.size),λ i=>if i=d then some w.heap.size else if Nat.beq i d then none else g.ow i⟩ (.vec d ie.size 0 es) (.slice (some ⟨w.heap.size,0,none⟩) es.length len):=by
  refine .vec G bR (by rw [hrs,ro]) (λ x hx=>(gK By x hx).1) (λ o=>?_) hprep (.inl Z);rw [ro];constructor
  ·rintro (h|⟨_,h⟩)
   ·exact absurd (hs.lt _ _ h) (Nat.lt_irrefl _)
   ·exact h
  ·intro h; exact .inr ⟨rfl,h⟩
 have BH:=hf.put (d:=o.dst) (λ t ht=>by rw [hd] at ht; cases ht; exact mv ▸ hn) hv;rw [hlen'] at BH;simp only [Oper.upon];rw [hd] at BH ⊢;refine ⟨_,_,BH,?_⟩;simp only [AS.put,cF];rw [<- oa h1',<- l7 h2'];exact hK
end
open Go.Proofs Go.Ab
attribute [local irreducible] awp iE bA aC cR fw AV.sub
theorem fS (l:List Bk)(Bw:l.length*16<=140737488355328):aC Tryz.prog 116 [eL eS l] (·=.p (eL eS l)):=by
 refine aT good Tryz.func116 Z Z Z λ w0=>?_;refine cD ?_;refine dX ?_;refine bC Z ?_;refine cv Z Z Z Z ?_;refine cN ?_
 (repeat (first|refine bg ?_|refine br ?_|refine bW ?_|refine bq Z ?_|refine bT ?_|refine bc ?_|refine bh ?_|refine aI ?_|refine aS ?_|refine aK Z ?_|refine noGoto_ret ?_|refine noGoto_exit ?_|refine noGoto_normal ?_))
 refine cD ?_;refine cD ?_;refine dX ?_;refine bC Z ?_;refine aW Z Z Z Z ?_;refine bC Z ?_;refine kM Z Z Z Z Z Z Z Z (λ b hb=>?_);refine cN ?_
 (repeat (first|refine bg ?_|refine br ?_|refine bW ?_|refine bq Z ?_|refine bT ?_|refine bc ?_|refine bh ?_|refine aI ?_|refine aS ?_|refine aK Z ?_|refine noGoto_ret ?_|refine noGoto_exit ?_|refine noGoto_normal ?_))
 refine rj Z (λ hc=>?_) (λ hc=>?_)
 ·have he:l=[]:=by simpa using hb hc
  subst he;refine cD ?_;refine dX ?_;refine bC rfl ?_;refine cv Z Z Z Z ?_;refine cN ?_
  (repeat (first|refine bg ?_|refine br ?_|refine bW ?_|refine bq Z ?_|refine bT ?_|refine bc ?_|refine bh ?_|refine aI ?_|refine aS ?_|refine aK Z ?_|refine noGoto_ret ?_|refine noGoto_exit ?_|refine noGoto_normal ?_))
  refine iO ?_
  (repeat (first|refine bg ?_|refine br ?_|refine bW ?_|refine bq Z ?_|refine bT ?_|refine bc ?_|refine bh ?_|refine aI ?_|refine aS ?_|refine aK Z ?_|refine noGoto_ret ?_|refine noGoto_exit ?_|refine noGoto_normal ?_))
  refine lm Z ?_;exact lA _
 ·skip
  refine j5 ?_
  (repeat (first|refine bg ?_|refine br ?_|refine bW ?_|refine bq Z ?_|refine bT ?_|refine bc ?_|refine bh ?_|refine aI ?_|refine aS ?_|refine aK Z ?_|refine noGoto_ret ?_|refine noGoto_exit ?_|refine noGoto_normal ?_))
  refine cD ?_;refine dX ?_;refine bC Z ?_;refine ni Z Z Z Z Z Z Z 5 1 ?_;refine bC Z ?_;refine aW Z Z Z Z ?_;refine bC Z ?_;refine cX eS [] l Z Z Z Z Z Z Z Z Z Z Z Z Z Y Z Z Z Z (by simpa using Bw) ?_;refine bC Z ?_;refine cv Z Z Z Z ?_;refine cN ?_
  (repeat (first|refine bg ?_|refine br ?_|refine bW ?_|refine bq Z ?_|refine bT ?_|refine bc ?_|refine bh ?_|refine aI ?_|refine aS ?_|refine aK Z ?_|refine noGoto_ret ?_|refine noGoto_exit ?_|refine noGoto_normal ?_))
  refine iO ?_
  (repeat (first|refine bg ?_|refine br ?_|refine bW ?_|refine bq Z ?_|refine bT ?_|refine bc ?_|refine bh ?_|refine aI ?_|refine aS ?_|refine aK Z ?_|refine noGoto_ret ?_|refine noGoto_exit ?_|refine noGoto_normal ?_))
  refine lm Z ?_;exact AV.sub_vec _ _ _ _
theorem jf (l:List Bk)(Bw:l.length*16<=140737488355328):cR Tryz.prog 116 [.p (eL eS l)] [] (λ x y=>x=.vec 2000000 1 0 (l.map eS)/\y=[]):=by
 refine ku good [800000] [] Tryz.func116 Z Z Z Z Z λ w0 F=>?_;refine cD ?_;refine dX ?_;refine bC Z ?_;refine cv Z Z Z Z ?_;refine cN ?_
 (repeat (first|refine bg ?_|refine br ?_|refine bW ?_|refine bq Z ?_|refine bT ?_|refine bc ?_|refine bh ?_|refine aI ?_|refine aS ?_|refine aK Z ?_|refine noGoto_ret ?_|refine noGoto_exit ?_|refine noGoto_normal ?_))
 refine cD ?_;refine cD ?_;refine dX ?_;refine bC Z ?_;refine aW Z Z Z Z ?_;refine bC Z ?_;refine kM Z Z Z Z Z Z Z Z (λ b hb=>?_);refine cN ?_
 (repeat (first|refine bg ?_|refine br ?_|refine bW ?_|refine bq Z ?_|refine bT ?_|refine bc ?_|refine bh ?_|refine aI ?_|refine aS ?_|refine aK Z ?_|refine noGoto_ret ?_|refine noGoto_exit ?_|refine noGoto_normal ?_))
 refine rj Z (λ hc=>?_) (λ hc=>?_)
 ·have he:l=[]:=by simpa using hb hc
  subst he;refine cD ?_;refine dX ?_;refine bC rfl ?_;refine cv Z Z Z Z ?_;refine cN ?_
  (repeat (first|refine bg ?_|refine br ?_|refine bW ?_|refine bq Z ?_|refine bT ?_|refine bc ?_|refine bh ?_|refine aI ?_|refine aS ?_|refine aK Z ?_|refine noGoto_ret ?_|refine noGoto_exit ?_|refine noGoto_normal ?_))
  refine iO ?_
  (repeat (first|refine bg ?_|refine br ?_|refine bW ?_|refine bq Z ?_|refine bT ?_|refine bc ?_|refine bh ?_|refine aI ?_|refine aS ?_|refine aK Z ?_|refine noGoto_ret ?_|refine noGoto_exit ?_|refine noGoto_normal ?_))
  exact nc (dZ _) Z Z Z Z (AV.sub_nilvec _ _ _) trivial
 ·skip
  refine j5 ?_
  (repeat (first|refine bg ?_|refine br ?_|refine bW ?_|refine bq Z ?_|refine bT ?_|refine bc ?_|refine bh ?_|refine aI ?_|refine aS ?_|refine aK Z ?_|refine noGoto_ret ?_|refine noGoto_exit ?_|refine noGoto_normal ?_))
  refine cD ?_;refine dX ?_;refine bC Z ?_;refine ni Z Z Z Z Z Z Z 5 1 ?_;refine bC Z ?_;refine aW Z Z Z Z ?_;refine bC Z ?_;refine cX eS [] l Z Z Z Z Z Z Z Z Z Z Z Z Z Y Z Z Z Z (by simpa using Bw) ?_;refine bC Z ?_;refine cv Z Z Z Z ?_;refine cN ?_
  (repeat (first|refine bg ?_|refine br ?_|refine bW ?_|refine bq Z ?_|refine bT ?_|refine bc ?_|refine bh ?_|refine aI ?_|refine aS ?_|refine aK Z ?_|refine noGoto_ret ?_|refine noGoto_exit ?_|refine noGoto_normal ?_))
  refine iO ?_
  (repeat (first|refine bg ?_|refine br ?_|refine bW ?_|refine bq Z ?_|refine bT ?_|refine bc ?_|refine bh ?_|refine aI ?_|refine aS ?_|refine aK Z ?_|refine noGoto_ret ?_|refine noGoto_exit ?_|refine noGoto_normal ?_))
  exact nc (bz 7 800000 Z Z Z Z Z) Z Z Z Z (AV.sub_refl _) trivial
theorem gW (l:List aa)(h:l.isEmpty=true):aC Tryz.prog 117 [eL ag l] (·=.p (eL ag [])):=by
 obtain rfl:l=[]:=by simpa using h
 refine aT good Tryz.func117 Z Z Z λ w0=>?_;refine cD ?_;refine dX ?_;refine bC Z ?_;refine cv Z Z Z Z ?_;refine cN ?_
 (repeat (first|refine bg ?_|refine br ?_|refine bW ?_|refine bq Z ?_|refine bT ?_|refine bc ?_|refine bh ?_|refine aI ?_|refine aS ?_|refine aK Z ?_|refine noGoto_ret ?_|refine noGoto_exit ?_|refine noGoto_normal ?_))
 refine cD ?_;refine cD ?_;refine dX ?_;refine bC Z ?_;refine aW Z Z Z Z ?_;refine bC Z ?_;refine kM Z Z Z Z Z Z Z Z (λ b hb=>?_);refine cN ?_
 (repeat (first|refine bg ?_|refine br ?_|refine bW ?_|refine bq Z ?_|refine bT ?_|refine bc ?_|refine bh ?_|refine aI ?_|refine aS ?_|refine aK Z ?_|refine noGoto_ret ?_|refine noGoto_exit ?_|refine noGoto_normal ?_))
 refine rj Z (λ hc=>?_) (λ hc=>?_)
 ·skip
  refine cD ?_;refine dX ?_;refine bC Z ?_;refine cv Z Z Z Z ?_;refine cN ?_
  (repeat (first|refine bg ?_|refine br ?_|refine bW ?_|refine bq Z ?_|refine bT ?_|refine bc ?_|refine bh ?_|refine aI ?_|refine aS ?_|refine aK Z ?_|refine noGoto_ret ?_|refine noGoto_exit ?_|refine noGoto_normal ?_))
  refine iO ?_
  (repeat (first|refine bg ?_|refine br ?_|refine bW ?_|refine bq Z ?_|refine bT ?_|refine bc ?_|refine bh ?_|refine aI ?_|refine aS ?_|refine aK Z ?_|refine noGoto_ret ?_|refine noGoto_exit ?_|refine noGoto_normal ?_))
  refine lm Z ?_;exact lA _
 ·skip
  refine j5 ?_
  (repeat (first|refine bg ?_|refine br ?_|refine bW ?_|refine bq Z ?_|refine bT ?_|refine bc ?_|refine bh ?_|refine aI ?_|refine aS ?_|refine aK Z ?_|refine noGoto_ret ?_|refine noGoto_exit ?_|refine noGoto_normal ?_))
  refine cD ?_;refine dX ?_;refine bC Z ?_;refine ni Z Z Z Z Z Z Z 5 5 ?_;refine bC Z ?_;refine aW Z Z Z Z ?_;refine bC Z ?_;refine cX ag [] [] Z Z Z Z Z Z Z Z Z Z Z Z Z (λ x=>congrArg List.length (aa.AD x)) Z Z Z Z (by decide) ?_;refine bC Z ?_;refine cv Z Z Z Z ?_;refine cN ?_
  (repeat (first|refine bg ?_|refine br ?_|refine bW ?_|refine bq Z ?_|refine bT ?_|refine bc ?_|refine bh ?_|refine aI ?_|refine aS ?_|refine aK Z ?_|refine noGoto_ret ?_|refine noGoto_exit ?_|refine noGoto_normal ?_))
  refine iO ?_
  (repeat (first|refine bg ?_|refine br ?_|refine bW ?_|refine bq Z ?_|refine bT ?_|refine bc ?_|refine bh ?_|refine aI ?_|refine aS ?_|refine aK Z ?_|refine noGoto_ret ?_|refine noGoto_exit ?_|refine noGoto_normal ?_))
  refine lm Z ?_;exact AV.sub_vec _ _ _ _
theorem gZ (l:List aa)(h:l.isEmpty=false)(Bw:l.length*80<=140737488355328):cR Tryz.prog 117 [.p (eL ag l)] [] (λ x y=>x=.arr 2000000 5 0 l.length/\y=[(2000000,g5 ag l)]):=by
 refine ku good [800000] [800000] Tryz.func117 Z Z Z Z Z λ w0 F=>?_;refine cD ?_;refine dX ?_;refine bC Z ?_;refine cv Z Z Z Z ?_;refine cN ?_
 (repeat (first|refine bg ?_|refine br ?_|refine bW ?_|refine bq Z ?_|refine bT ?_|refine bc ?_|refine bh ?_|refine aI ?_|refine aS ?_|refine aK Z ?_|refine noGoto_ret ?_|refine noGoto_exit ?_|refine noGoto_normal ?_))
 refine cD ?_;refine cD ?_;refine dX ?_;refine bC Z ?_;refine aW Z Z Z Z ?_;refine bC Z ?_;refine kM Z Z Z Z Z Z Z Z (λ b hb=>?_);refine cN ?_
 (repeat (first|refine bg ?_|refine br ?_|refine bW ?_|refine bq Z ?_|refine bT ?_|refine bc ?_|refine bh ?_|refine aI ?_|refine aS ?_|refine aK Z ?_|refine noGoto_ret ?_|refine noGoto_exit ?_|refine noGoto_normal ?_))
 refine rj Z (λ hc=>?_) (λ hc=>?_)
 ·have he:l=[]:=by simpa using hb hc
  subst he
  cases h
 ·skip
  refine j5 ?_
  (repeat (first|refine bg ?_|refine br ?_|refine bW ?_|refine bq Z ?_|refine bT ?_|refine bc ?_|refine bh ?_|refine aI ?_|refine aS ?_|refine aK Z ?_|refine noGoto_ret ?_|refine noGoto_exit ?_|refine noGoto_normal ?_))
  refine cD ?_;refine dX ?_;refine bC Z ?_;refine rH Z Z Z Z Z Z 5 ?_;refine bC Z ?_;refine aW Z Z Z Z ?_;refine bC Z ?_;refine vy ag [] l Z Z Z Z Z Z Z Z Z Z Z Z Z Z Z (λ x=>congrArg List.length (aa.AD x)) Z Z Z (by simpa using Bw) ?_;refine bC Z ?_;refine cv Z Z Z Z ?_;refine cN ?_
  (repeat (first|refine bg ?_|refine br ?_|refine bW ?_|refine bq Z ?_|refine bT ?_|refine bc ?_|refine bh ?_|refine aI ?_|refine aS ?_|refine aK Z ?_|refine noGoto_ret ?_|refine noGoto_exit ?_|refine noGoto_normal ?_))
  refine iO ?_
  (repeat (first|refine bg ?_|refine br ?_|refine bW ?_|refine bq Z ?_|refine bT ?_|refine bc ?_|refine bh ?_|refine aI ?_|refine aS ?_|refine aK Z ?_|refine noGoto_ret ?_|refine noGoto_exit ?_|refine noGoto_normal ?_))
  exact nc (bz 7 800000 Z Z Z Z (jV Z (jc _) Z)) Z Z Z (jV Z (jc _) Z) (AV.sub_of_eq (congrArg (AV.arr 2000000 5 0) G)) ⟨⟨_,Z,ee _⟩,trivial⟩
theorem io (l:List ak)(h:l.isEmpty=true):aC Tryz.prog 151 [eL aA l] (·=.p (eL aA [])):=by
 obtain rfl:l=[]:=by simpa using h
 refine aT good Tryz.func151 Z Z Z λ w0=>?_;refine cD ?_;refine dX ?_;refine bC Z ?_;refine cv Z Z Z Z ?_;refine cN ?_
 (repeat (first|refine bg ?_|refine br ?_|refine bW ?_|refine bq Z ?_|refine bT ?_|refine bc ?_|refine bh ?_|refine aI ?_|refine aS ?_|refine aK Z ?_|refine noGoto_ret ?_|refine noGoto_exit ?_|refine noGoto_normal ?_))
 refine cD ?_;refine cD ?_;refine dX ?_;refine bC Z ?_;refine aW Z Z Z Z ?_;refine bC Z ?_;refine kM Z Z Z Z Z Z Z Z (λ b hb=>?_);refine cN ?_
 (repeat (first|refine bg ?_|refine br ?_|refine bW ?_|refine bq Z ?_|refine bT ?_|refine bc ?_|refine bh ?_|refine aI ?_|refine aS ?_|refine aK Z ?_|refine noGoto_ret ?_|refine noGoto_exit ?_|refine noGoto_normal ?_))
 refine rj Z (λ hc=>?_) (λ hc=>?_)
 ·skip
  refine cD ?_;refine dX ?_;refine bC Z ?_;refine cv Z Z Z Z ?_;refine cN ?_
  (repeat (first|refine bg ?_|refine br ?_|refine bW ?_|refine bq Z ?_|refine bT ?_|refine bc ?_|refine bh ?_|refine aI ?_|refine aS ?_|refine aK Z ?_|refine noGoto_ret ?_|refine noGoto_exit ?_|refine noGoto_normal ?_))
  refine iO ?_
  (repeat (first|refine bg ?_|refine br ?_|refine bW ?_|refine bq Z ?_|refine bT ?_|refine bc ?_|refine bh ?_|refine aI ?_|refine aS ?_|refine aK Z ?_|refine noGoto_ret ?_|refine noGoto_exit ?_|refine noGoto_normal ?_))
  refine lm Z ?_;exact lA _
 ·skip
  refine j5 ?_
  (repeat (first|refine bg ?_|refine br ?_|refine bW ?_|refine bq Z ?_|refine bT ?_|refine bc ?_|refine bh ?_|refine aI ?_|refine aS ?_|refine aK Z ?_|refine noGoto_ret ?_|refine noGoto_exit ?_|refine noGoto_normal ?_))
  refine cD ?_;refine dX ?_;refine bC Z ?_;refine ni Z Z Z Z Z Z Z 5 3 ?_;refine bC Z ?_;refine aW Z Z Z Z ?_;refine bC Z ?_;refine cX aA [] [] Z Z Z Z Z Z Z Z Z Z Z Z Z (λ x=>congrArg List.length (ak.AD x)) Z Z Z Z (by decide) ?_;refine bC Z ?_;refine cv Z Z Z Z ?_;refine cN ?_
  (repeat (first|refine bg ?_|refine br ?_|refine bW ?_|refine bq Z ?_|refine bT ?_|refine bc ?_|refine bh ?_|refine aI ?_|refine aS ?_|refine aK Z ?_|refine noGoto_ret ?_|refine noGoto_exit ?_|refine noGoto_normal ?_))
  refine iO ?_
  (repeat (first|refine bg ?_|refine br ?_|refine bW ?_|refine bq Z ?_|refine bT ?_|refine bc ?_|refine bh ?_|refine aI ?_|refine aS ?_|refine aK Z ?_|refine noGoto_ret ?_|refine noGoto_exit ?_|refine noGoto_normal ?_))
  refine lm Z ?_;exact AV.sub_vec _ _ _ _
theorem ik (l:List ak)(h:l.isEmpty=false)(Bw:l.length*56<=140737488355328):cR Tryz.prog 151 [.p (eL aA l)] [] (λ x y=>x=.arr 2000000 3 0 l.length/\y=[(2000000,g5 aA l)]):=by
 refine ku good [800000] [800000] Tryz.func151 Z Z Z Z Z λ w0 F=>?_;refine cD ?_;refine dX ?_;refine bC Z ?_;refine cv Z Z Z Z ?_;refine cN ?_
 (repeat (first|refine bg ?_|refine br ?_|refine bW ?_|refine bq Z ?_|refine bT ?_|refine bc ?_|refine bh ?_|refine aI ?_|refine aS ?_|refine aK Z ?_|refine noGoto_ret ?_|refine noGoto_exit ?_|refine noGoto_normal ?_))
 refine cD ?_;refine cD ?_;refine dX ?_;refine bC Z ?_;refine aW Z Z Z Z ?_;refine bC Z ?_;refine kM Z Z Z Z Z Z Z Z (λ b hb=>?_);refine cN ?_
 (repeat (first|refine bg ?_|refine br ?_|refine bW ?_|refine bq Z ?_|refine bT ?_|refine bc ?_|refine bh ?_|refine aI ?_|refine aS ?_|refine aK Z ?_|refine noGoto_ret ?_|refine noGoto_exit ?_|refine noGoto_normal ?_))
 refine rj Z (λ hc=>?_) (λ hc=>?_)
 ·have he:l=[]:=by simpa using hb hc
  subst he
  cases h
 ·skip
  refine j5 ?_
  (repeat (first|refine bg ?_|refine br ?_|refine bW ?_|refine bq Z ?_|refine bT ?_|refine bc ?_|refine bh ?_|refine aI ?_|refine aS ?_|refine aK Z ?_|refine noGoto_ret ?_|refine noGoto_exit ?_|refine noGoto_normal ?_))
  refine cD ?_;refine dX ?_;refine bC Z ?_;refine rH Z Z Z Z Z Z 3 ?_;refine bC Z ?_;refine aW Z Z Z Z ?_;refine bC Z ?_;refine vy aA [] l Z Z Z Z Z Z Z Z Z Z Z Z Z Z Z (λ x=>congrArg List.length (ak.AD x)) Z Z Z (by simpa using Bw) ?_;refine bC Z ?_;refine cv Z Z Z Z ?_;refine cN ?_
  (repeat (first|refine bg ?_|refine br ?_|refine bW ?_|refine bq Z ?_|refine bT ?_|refine bc ?_|refine bh ?_|refine aI ?_|refine aS ?_|refine aK Z ?_|refine noGoto_ret ?_|refine noGoto_exit ?_|refine noGoto_normal ?_))
  refine iO ?_
  (repeat (first|refine bg ?_|refine br ?_|refine bW ?_|refine bq Z ?_|refine bT ?_|refine bc ?_|refine bh ?_|refine aI ?_|refine aS ?_|refine aK Z ?_|refine noGoto_ret ?_|refine noGoto_exit ?_|refine noGoto_normal ?_))
  exact nc (bz 7 800000 Z Z Z Z (jV Z (jc _) Z)) Z Z Z (jV Z (jc _) Z) (AV.sub_of_eq (congrArg (AV.arr 2000000 3 0) G)) ⟨⟨_,Z,ee _⟩,trivial⟩
end Go.Ab
end
section
namespace Go.Ab
section
variable {C:Cx} {o:Oper} {K:AS->Prop} {sl:List (Nat×AV)} {ob:List (Nat×List AV)} {d:Nat}
theorem ww {P:Program}{tt:List (Nat×TI)}(good:dv P tt){t e:Nat}{i ie:TI}(hi:look tt t=some i)(BK:i.k=.slice e)(hie:look tt e=some ie)(k k':IntKind){m:Int}(hb:0<=m/\m<=9223372036854775807/\(ie.bytes:Int)*m<=281474976710656)(w:World) :
  ∃ c:Array Value,c.size=m.toNat*ie.size/\(Instr.makeSlice t (.int k 0) (.int k' m)).run P w=.ok (.slice (some ⟨w.heap.size,0,none⟩) 0 m.toNat) (w.alloc (.cells c e)):=by
 obtain ⟨u,h1,h2⟩:=bI good hi;have h3:=bB (h2.trans BK);subst h3;obtain ⟨j,hj,hj1,hj2,zz,hz1,hz2⟩:=fm good hie;have hrun:=run_make (P:=P) w t e j zz h1 hj hz1 k k' 0 m (Int.le_refl _) hb.1 (by rw [hj2]; exact hb.2.2) hb.2.1;exact ⟨_,by rw [size_madeCells,hj1],hrun⟩
end
theorem mf {i n j sz:Nat}(h:i<n)(hj:j<sz):i*sz+j<n*sz:=by
 have:=Nat.mul_le_mul_right sz (show i+1<=n from h);rw [Nat.succ_mul] at this; omega
section
variable {C:Cx} {o:Oper} {K:AS->Prop} {sl:List (Nat×AV)} {ob:List (Nat×List AV)} {d:Nat}
theorem pX {es ys:List PV}{t tx e e':TypeId}{i ie j:TI}{y:Operand}{Y0z:AV}{k sz:Nat}(D:Nat->Bool)(hDl:∀ i,D i=true->i<M1)(hDk:D k=true)
  (hi:look C.tt t=some i) (BK:i.k=.slice e) (hie:look C.tt e=some ie) (hj:look C.tt tx=some j) (hjk:j.k=.slice e')
  (hy:evo sl y=some Y0z) (hY:Y0z.elems? = some ys) (hszy:∀ y∈ys,y.cells.length=sz) (hsze:∀ x∈es,x.cells.length=sz) (BB:∀ x∈es,∀ c∈x.cells,c.one=true)
  (h1s:ie.size=sz) (h0:0<sz) (hzl:ie.zero.length=ie.size)
  (Bw:(es.length+ys.length)*ie.bytes<=140737488355328) (hlen':es.length+ys.length<=9223372036854775807)
  {g:Gh} {a:Act} {w:World} (hs:St C.n C.w0 C.F g ⟨sl,ob⟩ a w) (base:Option Addr) (cap:Nat) (olds:List Value)
  (hold:(Builtin.firstCells ie.size es.length (.slice base es.length cap)).run C.P w.drew=.ok olds.toArray w.drew) (hol:olds.length=es.length*sz)
  (hoc:∀ (i:Nat) x (j:Nat) p,es[i]? = some x->x.cells[j]? = some p->∃ u,olds[i*sz+j]? = some u/\PRep w g.st p u)
  (hg:cap<es.length+ys.length) (ty:TypeId) (hn:Nat.blt d C.n=true) :
  ∃ v w' g',(Builtin.append_ #[t,tx] ty #[.slice base es.length cap,a.eval y]).run C.P w=.ok v w' /\
   St C.n C.w0 C.F g' ⟨(d,.stk k sz (es++ys))::(cF D ⟨sl,ob⟩).sl,(cF D ⟨sl,ob⟩).ob⟩ (a.put (some d) v) w':=by
 subst h1s;obtain ⟨u,h1,h2⟩:=bI C.good hi;have h3:=bB (h2.trans BK);subst h3;obtain ⟨u',h1',h2'⟩:=bI C.good hj;have h3':=bB (h2'.trans hjk);subst h3';obtain ⟨info,hf1,hf2,hf3,z,hf4,hf5⟩:=fm C.good hie;have hyv:=fv hY (bP hs hy);obtain ⟨news,hsrc,hnews⟩:=mV (P:=C.P) (sz:=ie.size) h1' hyv hszy h0;have hfit:=growslice_fits (bytes:=ie.bytes) hg Bw;have hrun:=run_append_grow_src w t tx ty e info z h1 hf1 hf4 base es.length cap olds (by rw [hf2]; exact hold) (a.eval y) ys.length news (by rw [hf2]; exact hsrc) hg O (by rw [hf3]; exact hfit);obtain ⟨q,hq⟩:∃ q,q=grownCap w (es.length+ys.length) cap e:=⟨_,rfl⟩
 rw [<- hq] at hrun
 have hqn:es.length+ys.length<=q:=by
  rw [hq]; unfold grownCap; simp only [Question.cut]; omega
 have hzs:z.cells.size=ie.size:=by rw [<- hzl,<- hf5,th]
 have hnl:news.length=ys.length*ie.size:=hsrc.newsLen;obtain ⟨c,hc⟩:∃ c,c=(olds++news).toArray++Builtin.zeroCells z.cells (q-(es.length+ys.length)):=⟨_,rfl⟩
 rw [<- hc] at hrun
 have BD:c.size=q*ie.size:=by
  rw [hc];simp only [Array.size_append,List.size_toArray,cl,hol,hnl,size_zeroCells,hzs];obtain ⟨r,rfl⟩:∃ r,q=es.length+ys.length+r:=⟨q-(es.length+ys.length),by omega⟩
  rw [Nat.add_sub_cancel_left,wr,wr]
 have hf:=hs.drew.fresh D hDl k hDk (λ o=>o=q*ie.size) c e;have BF:=iT (w:=w.drew) (T:=λ o=>o=q*ie.size) (ob:=.cells c e) hs.drew.lt;have hlenA:(es++ys).length=es.length+ys.length:=cl
 have hrep:ARep (w.drew.alloc (.cells c e)) ⟨λ b o=>g.st b o\/(b=w.drew.heap.size/\o=q*ie.size),λ i=>if i=k then some w.drew.heap.size else if D i then none else g.ow i⟩ (.stk k ie.size (es++ys)) (.slice (some ⟨w.drew.heap.size,0,none⟩) (es++ys).length q):=by
  refine .stk G bR BD O (λ x hx=>?_) (λ x hx c hc=>?_) (λ o=>?_) (λ i x j p hx hp=>?_)
  ·rcases List.mem_append.1 hx with hx|hx
   ·exact hsze x hx
   ·exact hszy x hx
  ·rcases List.mem_append.1 hx with hx|hx
   ·exact BB x hx c hc
   ·obtain ⟨i,hi⟩:=List.mem_iff_getElem?.1 hx;obtain ⟨j,hj⟩:=List.mem_iff_getElem?.1 hc;exact (hnews i x j c hi hj).1
  ·constructor
   ·rintro (h|⟨_,h⟩)
    ·exact absurd (hs.lt _ _ h) (Nat.lt_irrefl _)
    ·exact h
   ·intro h; exact .inr ⟨rfl,h⟩
  ·have hjl:j<x.cells.length:=(List.getElem?_eq_some_iff.1 hp).1
   have hget:∀ m,m<olds.length+news.length->c[m]? = if m<olds.length then olds[m]? else news[m-olds.length]?:=by
    intro m hm;rw [hc,Array.getElem?_append];simp only [List.size_toArray,cl];rw [if_pos hm,List.getElem?_toArray,List.getElem?_append]
   rw [List.getElem?_append] at hx;split at hx
   ·rename_i hlt;rw [hsze x (List.mem_of_getElem? hx)] at hjl;have:=mf hlt hjl;obtain ⟨u,hu,hr⟩:=hoc i x j p hx hp;exact ⟨u,by rw [hget _ O,if_pos O]; exact hu,(PRep.mono (w:=w) (w':=w.drew) (st:=g.st) (st':=g.st) (λ b o h=>⟨h,rfl⟩) hr).mono BF⟩
   ·rename_i hge;rw [hszy x (List.mem_of_getElem? hx)] at hjl;have hil:i-es.length<ys.length:=(List.getElem?_eq_some_iff.1 hx).1;have:=mf hil hjl;obtain ⟨k1,u,hu,hr⟩:=hnews (i-es.length) x j p hx hp
    have e1:i*ie.size+j=es.length*ie.size+((i-es.length)*ie.size+j):=by
     rw [<- Nat.add_assoc,<- wr]; congr 2; omega
    exact ⟨u,by rw [hget _ O,if_neg O,e1,hol,Nat.add_sub_cancel_left]; exact hu,(PRep.mono (w:=w) (w':=w.drew) (st:=g.st) (st':=g.st) (λ b o h=>⟨h,Z⟩) hr).mono BF⟩
 rw [hlenA] at hrep;have hp:=hf.put (d:=some d) (λ t ht=>by cases ht; exact mv ▸ hn) hrep;exact ⟨_,_,_,hrun,hp⟩
theorem nv {t tx e e':TypeId}{x y:Operand}{k sz:Nat}{es:List PV}{X Y0z:AV}{ys:List PV}{i ie j:TI}(ho:o.op=.call { callee:=.builtin .append,args:=#[x,y],argTypes:=#[t,tx] })(hd:o.dst=some d)(hn:Nat.blt d C.n=true)
  (hi:look C.tt t=some i) (BK:i.k=.slice e) (hie:look C.tt e=some ie) (hj:look C.tt tx=some j) (hjk:j.k=.slice e') (hx:evo sl x=some X) (hX:X.sub (.stk k sz es)) (hk:Nat.blt k M1=true)
  (hy:evo sl y=some Y0z) (hY:Y0z.elems? = some ys) (hszy:∀ y∈ys,y.cells.length=sz) (hys:0<ys.length) (h1s:ie.size=sz) (h0:Nat.blt 0 sz=true) (hzl:Nat.beq ie.zero.length ie.size=true)
  (Bw:(es.length+ys.length)*ie.bytes<=140737488355328) (hlen':es.length+ys.length<=9223372036854775807)
  (hK:K ⟨(d,.stk k sz (es++ys))::(cF (λ i=>Nat.beq i k) ⟨sl,ob⟩).sl,(cF (λ i=>Nat.beq i k) ⟨sl,ob⟩).ob⟩):bA C o K ⟨sl,ob⟩:=by
 have hzl':=bt hzl;have hk':k<M1:=mv ▸ hk;have h0':0<sz:=mv ▸ h0
 have hDl:∀ i,(Nat.beq i k)=true->i<M1:=by
  intro i hi;have:=bt hi; omega
 intro g a w hs;have hxr:=hX _ _ _ (bP hs hx);generalize hxv:a.eval x=xv at hxr
 have hrun0:∀ v w',(Builtin.append_ #[t,tx] o.type #[xv,a.eval y]).run C.P w=.ok v w'->(execOp a.eval o).run C.P w=.ok (.value v) w':=by
  intro v w' h;rw [eP ho];simp [builtin,hxv,h]
 cases hxr with
 | stkn=>
  obtain ⟨v,w',g',hr',hst'⟩:=pX (es:=[]) (k:=k) (λ i=>Nat.beq i k) hDl G hi BK hie hj hjk hy hY hszy G G  h1s h0' hzl' Bw hlen' hs none 0 [] (run_firstCells_none w.drew ie.size 0 0 0) G (λ i x j p hx=>by simp at hx) (by simpa using hys) o.type hn;unfold Oper.wp;rw [hrun0 _ _ hr'];simp only [Oper.upon,hd];exact ⟨g',_,hst',hK⟩
 | stke=>
  rename_i a0;obtain ⟨v,w',g',hr',hst'⟩:=pX (es:=[]) (k:=k) (λ i=>Nat.beq i k) hDl G hi BK hie hj hjk hy hY hszy G G  h1s h0' hzl' Bw hlen' hs (some a0) 0 [] (run_firstCells_some w.drew ie.size 0 a0 0 0 [] G G) G (λ i x j p hx=>by simp at hx) (by simpa using hys) o.type hn;unfold Oper.wp;rw [hrun0 _ _ hr'];simp only [Oper.upon,hd];exact ⟨g',_,hst',hK⟩
 | stk how hb BD hlenc hszc BB BH hr=>
  rename_i b cap c e0;subst h1s;by_cases hroom:es.length+ys.length<=cap
  ·obtain ⟨u,h1,h2⟩:=bI C.good hi;have h3:=bB (h2.trans BK);subst h3;obtain ⟨u',h1',h2'⟩:=bI C.good hj;have h3':=bB (h2'.trans hjk);subst h3';obtain ⟨info,hf1,hf2,hf3,z,hf4,hf5⟩:=fm C.good hie;have hyv:=fv hY (bP hs hy);obtain ⟨news,hsrc,hnews⟩:=mV (P:=C.P) (sz:=ie.size) h1' hyv hszy h0';have hnl:news.length=ys.length*ie.size:=hsrc.newsLen
   have hfit:es.length*ie.size+news.length<=c.size:=by
    rw [hnl,BD,<- wr]; exact Nat.mul_le_mul_right _ hroom
   have hstc:=run_storeCells_at C.P b (es.length*ie.size) e0 news 0 c w hb (by simpa using hfit) hsrc.one;simp only [Nat.add_zero] at hstc;obtain ⟨c',hc'⟩:∃ c',c'=(c.toList.take (es.length*ie.size)++news++c.toList.drop (es.length*ie.size+news.length)).toArray:=⟨_,rfl⟩
   rw [<- hc'] at hstc;have hrr:=fE t tx o.type e info h1 hf1 b es.length cap (a.eval y) ys.length news (by rw [hf2]; exact hsrc) hroom (by rw [hf2]; exact hstc)
   have hcell':∀ j,c'[j]? = if es.length*ie.size<=j/\j<es.length*ie.size+news.length then news[j-es.length*ie.size]? else c[j]?:=by
    intro j;rw [hc'];have:=gB c.toList news (es.length*ie.size) (by simpa using hfit) j;simpa using this
   have hcs':c'.size=cap*ie.size:=by rw [<- BD,hc']; simp; omega
   have hin:=hs.inplace (λ i=>Nat.beq i k) hDl (k:=k) (d:=k) how G G  hb (c':=c') (hcs'.trans BD.symm) (λ o h=>by
    have:=(BH o).1 h
    rw [Array.getElem?_eq_none O,Array.getElem?_eq_none O]) (λ o=>o=cap*ie.size) (λ o h=>(BH o).1 h)
   have hEv:Ev w g.st (w.setRow b c') (λ b' o=>(b'=b/\o=cap*ie.size)\/(b'≠b/\g.st b' o)):=by
    intro b' o h;by_cases e1:b'=b
    ·subst e1;have ho:=(BH o).1 h;refine ⟨.inl ⟨rfl,ho⟩,?_⟩;simp only [World.cell?,setRow_heap w b' c c' e0 (0,0) hb,hb];rw [Array.getElem?_eq_none O,Array.getElem?_eq_none O]
    ·exact ⟨.inr ⟨e1,h⟩,by simp only [World.cell?,setRow_other w b b' c' e1]⟩
   have hlenA:(es++ys).length=es.length+ys.length:=cl
   have hrep:ARep (w.setRow b c') ⟨λ b' o=>(b'=b/\o=cap*ie.size)\/(b'≠b/\g.st b' o),λ i=>if i=k then some b else if (Nat.beq i k) then none else g.ow i⟩ (.stk k ie.size (es++ys)) (.slice (some ⟨b,0,none⟩) (es++ys).length cap):=by
    refine .stk G (setRow_heap w b c c' e0 (0,0) hb) hcs' O (λ x hx=>?_) (λ x hx c hc=>?_) (λ o=>?_) (λ i x j p hx hp=>?_)
    ·rcases List.mem_append.1 hx with hx|hx
     ·exact hszc x hx
     ·exact hszy x hx
    ·rcases List.mem_append.1 hx with hx|hx
     ·exact BB x hx c hc
     ·obtain ⟨i,hi⟩:=List.mem_iff_getElem?.1 hx;obtain ⟨j,hj⟩:=List.mem_iff_getElem?.1 hc;exact (hnews i x j c hi hj).1
    ·constructor
     ·rintro (⟨_,h⟩|⟨h,_⟩)
      ·exact h
      ·exact absurd Z h
     ·intro h; exact .inl ⟨rfl,h⟩
    ·have hjl:j<x.cells.length:=(List.getElem?_eq_some_iff.1 hp).1;rw [List.getElem?_append] at hx;split at hx
     ·rename_i hlt;rw [hszc x (List.mem_of_getElem? hx)] at hjl;have:=mf hlt hjl;obtain ⟨u,hu,hr⟩:=hr i x j p hx hp;exact ⟨u,by rw [hcell',if_neg O]; exact hu,hr.mono hEv⟩
     ·rename_i hge;rw [hszy x (List.mem_of_getElem? hx)] at hjl;have hil:i-es.length<ys.length:=(List.getElem?_eq_some_iff.1 hx).1;have:=mf hil hjl;obtain ⟨_,u,hu,hr⟩:=hnews (i-es.length) x j p hx hp
      have e1:i*ie.size+j=es.length*ie.size+((i-es.length)*ie.size+j):=by
       rw [<- Nat.add_assoc,<- wr]; congr 2; omega
      exact ⟨u,by rw [hcell',if_pos O,e1,Nat.add_sub_cancel_left]; exact hu,hr.mono hEv⟩
   rw [hlenA] at hrep;have hp:=hin.put (d:=some d) (λ t ht=>by cases ht; exact mv ▸ hn) hrep;unfold Oper.wp;rw [hrun0 _ _ hrr];simp only [Oper.upon,hd];exact ⟨_,_,hp,hK⟩
  ·have hle:es.length*ie.size<=c.toList.length:=by
    have e1:c.toList.length=cap*ie.size:=th.trans BD;rw [e1]; exact Nat.mul_le_mul_right _ hlenc
   have hlenT:(c.toList.take (es.length*ie.size)).length=es.length*ie.size:=by
    rw [sm]; omega
   have hold:(Builtin.firstCells ie.size es.length (.slice (some ⟨b,0,none⟩) es.length cap)).run C.P w.drew=.ok (c.toList.take (es.length*ie.size)).toArray w.drew:=by
    refine run_firstCells_some w.drew ie.size es.length ⟨b,0,none⟩ es.length cap _ hlenT (λ j v hv=>?_);rw [List.getElem?_take] at hv;split at hv
    ·rw [add_lit,ro,World.cell?_drew];simp only [World.cell?,hb];simpa using hv
    ·cases hv
   obtain ⟨v,w',g',hr',hst'⟩:=pX (es:=es) (k:=k) (λ i=>Nat.beq i k) hDl G hi BK hie hj hjk hy hY hszy hszc BB rfl h0' hzl' Bw hlen' hs (some ⟨b,0,none⟩) cap (c.toList.take (es.length*ie.size))
    hold hlenT (λ i x j p hx hp=>by
     obtain ⟨u,hu,hr⟩:=hr i x j p hx hp;have hjl:j<x.cells.length:=(List.getElem?_eq_some_iff.1 hp).1;rw [hszc x (List.mem_of_getElem? hx)] at hjl;have:=mf (List.getElem?_eq_some_iff.1 hx).1 hjl
     exact ⟨u,by rw [List.getElem?_take,if_pos this]; simpa using hu,hr⟩) O o.type hn
   unfold Oper.wp;rw [hrun0 _ _ hr'];simp only [Oper.upon,hd];exact ⟨g',_,hst',hK⟩
theorem tP {t tx e e':TypeId}{x y:Operand}{k sz:Nat}{es:List PV}{Y0z:AV}{ys:List PV}{i ie j:TI}(ho:o.op=.call { callee:=.builtin .append,args:=#[x,y],argTypes:=#[t,tx] })(hd:o.dst=some d)(hn:Nat.blt d C.n=true)
  (hi:look C.tt t=some i) (BK:i.k=.slice e) (hie:look C.tt e=some ie) (hj:look C.tt tx=some j) (hjk:j.k=.slice e') (hx:evo sl x=some (.stk k sz es)) (hk:Nat.blt k M1=true)
  (hy:evo sl y=some Y0z) (hY:Y0z.elems? = some ys) (hszy:∀ y∈ys,y.cells.length=sz) (hys:0<ys.length) (h1s:ie.size=sz) (h0:Nat.blt 0 sz=true) (hzl:Nat.beq ie.zero.length ie.size=true)
  (Bw:(es.length+ys.length)*ie.bytes<=140737488355328) (hlen':es.length+ys.length<=9223372036854775807)
  (hK:K ⟨(d,.stk k sz (es++ys))::(cF (λ i=>Nat.beq i k) ⟨sl,ob⟩).sl,(cF (λ i=>Nat.beq i k) ⟨sl,ob⟩).ob⟩):bA C o K ⟨sl,ob⟩ :=
 nv ho hd hn hi BK hie hj hjk hx (AV.sub_refl _) hk hy hY hszy hys h1s h0 hzl Bw hlen' hK
def upK (tok sz n:Nat)(z:PV)(x:AV):AV:=match x with
 | .stk t s es=>bif Nat.beq t tok then (bif Nat.beq s sz then .stk t s (es.set n z) else .undef) else .stk t s es
 | x=>x.dem (Nat.beq · tok)
def yu (tok sz n:Nat)(z:PV):List AV->Option (List AV)
 | []=>some []
 | x::r=>(match frc (upK tok sz n z x) with
  | some y=>(match yu tok sz n z r with|some l=>some (y::l)|none=>none)
  | none=>none)
theorem vK {tok sz n:Nat}{z:PV}:∀ {l l':List AV},yu tok sz n z l=some l'->l'=l.map (upK tok sz n z)
 | [],l',h=>by cases h; rfl
 | x::r,l',h=>by
  unfold yu at h;split at h
  ·rename_i y hy;split at h
   ·rename_i m hm; cases h; rw [pG hy,vK hm]; rfl
   ·cases h
  ·cases h
def rQ (tok sz n:Nat)(z:PV):List (Nat×List AV)->Option (List (Nat×List AV))
 | []=>some []
 | (i,cs)::r=>(match Nat.beq i tok with
  | true=>rQ tok sz n z r
  | false=>(match yu tok sz n z cs with
   | some ds=>(match rQ tok sz n z r with|some l=>some ((i,ds)::l)|none=>none)
   | none=>none))
theorem nL {tok sz n:Nat}{z:PV}:∀ {l l':List (Nat×List AV)},rQ tok sz n z l=some l'->∀ id cs,look l' id=some cs->id≠tok/\∃ ds,look l id=some ds/\cs=ds.map (upK tok sz n z)
 | [],l',h,id,cs,hc=>by cases h; cases hc
 | (i,xs)::r,l',h,id,cs,hc=>by
  unfold rQ at h;split at h
  ·rename_i hb;obtain ⟨h1,ds,h2,h3⟩:=nL h id cs hc;have hi:=bt hb;refine ⟨h1,ds,?_,h3⟩;rw [ba,if_neg (λ e'=>h1 O)];exact h2
  ·rename_i hb;have hi:i≠tok:=λ e=>by subst e; simp at hb
   split at h
   ·rename_i ds hds;split at h
    ·rename_i m hm
     cases h
     rw [ba] at hc ⊢;by_cases e1:i=id
     ·subst e1;rw [if_pos rfl] at hc ⊢
      cases hc
      exact ⟨hi,xs,Z,vK hds⟩
     ·rw [if_neg e1] at hc ⊢;exact nL hm id cs hc
    ·cases h
   ·cases h
theorem qJ {z:PV}(hc:(AV.p z).cellsA=some (z.cells.map .p)){x:PV}(hx:x∈z.cells):x.one=true:=by
 have h9:PV.onesB z.cells=true\/z.one=true:=by
  cases z with
  | agg cs=>
   simp only [AV.cellsA] at hc
   cases ho:PV.onesB cs
   ·rw [ho] at hc; cases hc
   ·exact .inl ho
  | val _=>
   simp only [AV.cellsA] at hc;rename_i v0
   cases ho:v0.oneCell'
   ·rw [ho] at hc; cases hc
   ·exact .inr ho
  | slice _=>exact .inr Z
  | ifc=>exact .inr Z
  | aint _=>exact .inr Z
 rcases h9 with h9|h9
 ·exact gg h9 x hx
 ·have:z.cells=[z]:=by cases z <;> first|rfl|(simp [PV.one] at h9)
  rw [this] at hx;rw [List.mem_singleton.1 hx]; exact h9
theorem oJ {t:TypeId}{x v:Operand}{i:TI}{tok sz n off:Nat}{es:List PV}{z:PV}{Y0z:AV}{sl':List (Nat×AV)}{ob':List (Nat×List AV)}(ho:o.op=.store t x v)(hd:o.dst=none)
  (hi:look C.tt t=some i) (hiz:i.size=sz) (hx:evo sl x=some (.ptr tok off)) (hoff:off=n*sz) (hq:∀ {g:Gh} {a:Act} {w:World},St C.n C.w0 C.F g ⟨sl,ob⟩ a w->∃ u,ARep w g (.stk tok sz es) u) (hn:n<es.length)
  (hv:evo sl v=some Y0z) (hY:Y0z.sub (.p z)) (hc:(AV.p z).cellsA=some (z.cells.map .p)) (hcl:Nat.beq z.cells.length sz=true) (htok:Nat.blt tok M1=true)
  (h1:sl'=sl.map λ p=>(p.1,upK tok sz n z p.2)) (h2:rQ tok sz n z ob=some ob') (hK:K ⟨sl',ob'⟩):bA C o K ⟨sl,ob⟩:=by
 subst hiz h1 hoff;have htl:tok<M1:=mv ▸ htok;have hcl':=bt hcl;intro g a w hs;have h5:=bP hs hx;have h6:ARep w g (.p z) (a.eval v):=hY _ _ _ (bP hs hv);obtain ⟨vq,h7⟩:=hq hs;obtain ⟨hs1,hs2⟩:=jH hc h6;rw [bx] at hs1;generalize BF:a.eval x=u at h5
 cases h5 with
 | ptr how=>
 rename_i b
 cases h7 with
 | stkn=>simp at hn
 | stke=>simp at hn
 | stk how0 k2 BD Bw By BB BH hr=>
  rename_i b0 cap c e;rw [how] at how0; cases how0;obtain ⟨p,hpd⟩:∃ p,p=n*i.size:=⟨_,rfl⟩
  rw [<- hpd] at BF
  have hp:p+i.size<=c.size:=by
   have:=Nat.mul_le_mul_right i.size (show n+1<=cap by omega);rw [wr,Nat.one_mul] at this;rw [hpd,BD]; exact this
  have hone1:∀ u∈(a.eval v).cells.toList,u.oneCell'=true:=by
   intro u hu;obtain ⟨j,hj,rfl⟩:=List.getElem_of_mem hu;simp only [th] at hj;exact (hs2 j ((z.cells.map AV.p)[j]'(by simp; omega)) _ (List.getElem?_eq_getElem (by simp; omega)) (by simp [hj])).2
  have hstc:=run_storeCells_at C.P b p e (a.eval v).cells.toList 0 c w k2 (by simp; omega) hone1;simp only [Nat.add_zero,th] at hstc;obtain ⟨c',hc'⟩:∃ c',c'=(c.toList.take p++(a.eval v).cells.toList++c.toList.drop (p+(a.eval v).cells.size)).toArray:=⟨_,rfl⟩
  rw [<- hc'] at hstc;have hsz':=run_sizeOf C.good hi w;have BL:(a.eval v).cells.size=i.size:=hs1.trans hcl';unfold Oper.wp
  have hrun:(execOp a.eval o).run C.P w=.ok .skip (w.setRow b c'):=by
   simp [execOp,ho,BF,Instr.storeAt,Instr.sureAddr,storeVar,hsz',BL,hstc]
  rw [hrun];simp only [Oper.upon,hd,Act.put]
  have BE:∀ j,c'[j]? = if p<=j/\j<p+i.size then (a.eval v).cells[j-p]? else c[j]?:=by
   intro j;rw [hc'];have:=gB c.toList (a.eval v).cells.toList p (by simp; omega) j;simp only [th,Array.getElem?_toList,BL] at this;simpa [BL] using this
  have hsize':c'.size=c.size:=by
   rw [hc']; simp; omega
  have hev':Ev w g.st (w.setRow b c') g.st:=by
   intro b2 o2 h2;by_cases e1:b2=b
   ·subst e1;have:=(BH o2).1 h2;refine ⟨h2,?_⟩;simp only [World.cell?,k2,setRow_heap w b2 c c' e (0,0) k2];have h7:=BE o2;rw [if_neg O] at h7;simpa using h7
   ·exact ⟨h2,by simp only [World.cell?,setRow_other w b b2 c' e1]⟩
  have E0:∀ id b2,Nat.beq id tok=false->g.ow id=some b2->b2≠b:=λ id b2 hD h e=>by
   subst e;have:=hs.inj id tok b2 h how;subst this;simp at hD
  have hE:EvO (Nat.beq · tok) w g (w.setRow b c') g:=by
   refine ⟨hev',λ id b2 _ h=>h,λ id b2 c2 e2 hD h h2=>⟨c2,(setRow_other w b b2 c' (E0 id b2 hD h)).trans h2,Z⟩,λ id b2 o2 hD h h3=>h3,λ id b2 es2 k2' hD h h2=>(setRow_other w b b2 c' (E0 id b2 hD h)).trans h2,λ i hi=>?_,λ id b2 o2 hD h _=>setRow_other w b b2 c' (E0 id b2 hD h)⟩
   cases hq:Nat.beq i tok
   ·rfl
   ·have:=bt hq; have:=pP hi; omega
  have hup:∀ {y:AV} {u:Value},ARep w g y u->ARep (w.setRow b c') g (upK tok i.size n z y) u:=by
   intro y u h;unfold upK;split
   ·rename_i t s es1
    cases hq:Nat.beq t tok
    ·have:=h.dem hE;simpa [AV.dem,hq] using this
    ·have e1:=bt hq;subst e1;simp only [cond_true]
     cases hq2:Nat.beq s i.size
     ·exact .undef _
     ·have e2:=bt hq2;subst e2;simp only [cond_true]
      cases h with
      | stkn=>exact .stkn _ _
      | stke=>exact .stke _ _ _
      | stk how2 hb2 hcs2 hlen2 hsz2 hone2 hst2 hr2=>
       rename_i b2 cap2 c2 e2;rw [how] at how2; cases how2;rw [k2] at hb2; cases hb2;have hl:(es1.set n z).length=es1.length:=List.length_set;rw [<- hl];refine .stk how (setRow_heap w b c c' e (0,0) k2) (hsize'.trans hcs2) O (λ x hx=>?_) (λ x hx y hy=>?_) hst2 (λ k x j p1 hx hp1=>?_)
       ·rcases List.mem_or_eq_of_mem_set hx with hx|rfl
        ·exact hsz2 x hx
        ·exact hcl'
       ·rcases List.mem_or_eq_of_mem_set hx with hx|rfl
        ·exact hone2 x hx y hy
        ·exact qJ hc hy
       ·rw [List.getElem?_set] at hx;split at hx
        ·rename_i hnk;subst hnk;split at hx
         ·simp only [aq] at hx;subst hx;have hjl:j<z.cells.length:=(List.getElem?_eq_some_iff.1 hp1).1;have hjc:j<(a.eval v).cells.size:=by omega
          have h8:=hs2 j (.p p1) _ (by simp [hp1]) (Array.getElem?_eq_getElem hjc);refine ⟨(a.eval v).cells[j],?_,?_⟩
          ·rw [BE,<- hpd,if_pos ⟨by omega,by omega⟩];rw [show p+j-p=j by omega];exact Array.getElem?_eq_getElem hjc
          ·cases h8.1 with
           | p hr=>exact hr.mono hev'
         ·cases hx
        ·rename_i hnk;obtain ⟨u,hu,hrr⟩:=hr2 k x j p1 hx hp1;have hjl:j<i.size:=by rw [<- hsz2 x (List.mem_of_getElem? hx)]; exact (List.getElem?_eq_some_iff.1 hp1).1
         refine ⟨u,?_,hrr.mono hev'⟩;rw [BE,if_neg ?_]
         ·exact hu
         ·rw [hpd];rcases Nat.lt_or_gt_of_ne hnk with h9|h9
          ·have:=Nat.mul_le_mul_right i.size (show n+1<=k from h9);rw [wr,Nat.one_mul] at this; omega
          ·have:=Nat.mul_le_mul_right i.size (show k+1<=n from h9);rw [wr,Nat.one_mul] at this; omega
   ·exact h.dem hE
  refine ⟨g,⟨sl.map λ p=>(p.1,upK tok i.size n z p.2),ob'⟩,?_,hK⟩;refine ⟨hs.nd,hs.sz,λ j=>?_,λ id' cs' h'=>?_,hs.inj,λ j b2 h=>?_,λ b2 o2 h=>?_,hs.fl,λ b2 h=>?_,hs.os,hs.out,hs.tape,?_,hs.stf,hs.owf,hs.shf.next (λ _ b c e _ _ h=>(my k2 hsize').1 b c e h),hs.nst,hs.ev0.trans hev'⟩
  ·have h:=hs.sl j;simp only [AS.get,gx];simp only [AS.get] at h
   cases hl:look sl j with
   | none=>simp only [Option.map_none,Option.getD_none]; exact .undef _
   | some x=>rw [hl] at h; simpa using hup h
  ·obtain ⟨hne',ds,m1,rfl⟩:=nL h2 id' cs' h';obtain ⟨b2,c2,e2,n1,n2,n3,n4,n5⟩:=hs.ob id' ds m1
   have hD:Nat.beq id' tok=false:=by
    cases hq:Nat.beq id' tok
    ·rfl
    ·exact absurd (bt hq) hne'
   have hb2:=E0 id' b2 hD n1;refine ⟨b2,c2,e2,n1,(setRow_other w b b2 c' hb2).trans n2,by simpa using n3,n4,λ j y hy=>?_⟩;simp only [List.getElem?_map,n7] at hy;obtain ⟨y0,hy0,rfl⟩:=hy;obtain ⟨u,hu,hr⟩:=n5 j y0 hy0;exact ⟨u,hu,hup hr⟩
  ·have:=hs.own j b2 h; exact ⟨by simpa using this.1,this.2⟩
  ·have:=hs.lt b2 o2 h; simpa using this
  ·have BL:b2≠b:=λ e=>(hs.own tok b how).2 (e ▸ h);exact (setRow_other w b b2 c' BL).trans (hs.fr b2 h)
  ·have:=hs.size; simpa using this
theorem yj {q tok sz:Nat}{es:List PV}(hq:look sl q=some (.stk tok sz es)){g:Gh}{a:Act}{w:World}(hs:St C.n C.w0 C.F g ⟨sl,ob⟩ a w):∃ u,ARep w g (.stk tok sz es) u:=by
 have h7:=hs.sl q;simp only [AS.get,hq,rg] at h7;exact ⟨_,h7⟩
theorem x6 {id j tok sz:Nat}{cs:List AV}{es:List PV}(hq:look ob id=some cs)(hj:cs[j]? = some (.stk tok sz es)){g:Gh}{a:Act}{w:World}(hs:St C.n C.w0 C.F g ⟨sl,ob⟩ a w):∃ u,ARep w g (.stk tok sz es) u:=by
 obtain ⟨b2,c2,e2,n1,n2,n3,n4,n5⟩:=hs.ob id cs hq;obtain ⟨u,_,hr⟩:=n5 j _ hj;exact ⟨u,hr⟩
theorem pC {t e:TypeId}{x y:Operand}{i ie:TI}{k:IntKind}{n:Int}{id sz:Nat}{es:List PV}(ho:o.op=.indexAddr t x y)(hd:o.dst=some d)(hn:Nat.blt d C.n=true)
  (hi:look C.tt t=some i) (BK:i.k=.slice e) (hie:look C.tt e=some ie) (hx:evo sl x=some (.stk id sz es))
  (hy:evo sl y=some (.p (.val (.int k n)))) (By:ie.size=sz) (hb:0<=n/\n<(es.length:Int))
  (hK:K ⟨(d,.ptr id (n.toNat*sz))::sl,ob⟩):bA C o K ⟨sl,ob⟩:=by
 obtain ⟨u,h1,h2⟩:=bI C.good hi;have h3:=bB (h2.trans BK);subst h3;refine ok_one hd hn (λ g a w hs=>?_) hK;have h5:=bP hs hx;generalize hv:a.eval x=v at h5
 cases h5 with
 | stkn=>simp at hb; omega
 | stke=>simp at hb; omega
 | stk how hb' BD hlenc hszc BB BH hr=>
  rename_i b cap c e';exact ⟨.pointer (some ⟨b,n.toNat*sz,none⟩),by simp [execOp,ho,hv,cK hs hy,Instr.indexAt,asIntOf,run_underlying h1,hb.1,hb.2,run_sizeOf C.good hie,By,add_lit],.ptr how⟩
theorem xQ {id sz:Nat}{es:List PV}{q:Nat}{sl':List (Nat×AV)}{ob':List (Nat×List AV)}(hid:id<M1)(hq:look sl q=some (.stk id sz es))(h1:dmS (Nat.beq · id) sl=some sl')(h2:dmO (Nat.beq · id) ob=some ob') :
  dx C ⟨sl,ob⟩ ⟨(q,.p (.slice es))::sl',ob'⟩:=by
 intro g a w hs;have h6:=hs.sl q;simp only [AS.get,hq,rg] at h6
 have drop:∀ (st':Nat->Nat->Prop),(∀ b o,g.st b o->st' b o)->(∀ i b,i≠id->g.ow i=some b->∀ o,st' b o->g.st b o)->(∀ b o,st' b o->b<w.heap.size)->(∀ b,C.F b->∀ o,st' b o↔g.st b o) ->
   St C.n C.w0 C.F ⟨st',λ i=>if i=id then none else g.ow i⟩ (cF (Nat.beq · id) ⟨sl,ob⟩) a w:=by
  intro st' k1 k2 k3 k4;refine hs.evolve (Nat.beq · id) (wO hid) (λ b o h=>⟨k1 b o h,rfl⟩) (λ i b hD h=>?_) (λ i j b h1 h2=>?_) (λ i b h=>?_) k3 (λ b h=>rfl) Z Z Z (n6 _) k4 (λ i hi=>?_)
  ·have BL:i≠id:=λ e=>by subst e; simp at hD
   exact ⟨by simp only [if_neg BL]; exact h,Z,k2 i b BL h⟩
  ·dsimp only at h1 h2;split at h1
   ·cases h1
   ·split at h2
    ·cases h2
    ·exact hs.inj i j b h1 h2
  ·dsimp only at h;split at h
   ·cases h
   ·exact hs.own i b h
  ·dsimp only; rw [if_neg O]
 obtain ⟨g',hs',hrep⟩:∃ g',St C.n C.w0 C.F g' (cF (Nat.beq · id) ⟨sl,ob⟩) a w/\ARep w g' (.p (.slice es)) (a.tmps.getD q Go.undef):=by
  generalize a.tmps.getD q Go.undef=vq at h6
  cases h6 with
  | stkn=>exact ⟨_,drop g.st (λ _ _ h=>h) (λ _ _ _ _ _ h=>h) hs.lt (λ _ _ _=>Iff.rfl),.p .nils⟩
  | stke=>exact ⟨_,drop g.st (λ _ _ h=>h) (λ _ _ _ _ _ h=>h) hs.lt (λ _ _ _=>Iff.rfl),.p (.nile _)⟩
  | stk how hb BD Bw By BB BH hr=>
   rename_i b cap c e;have hown:=hs.own id b how;refine ⟨_,drop (λ b' o=>g.st b' o\/(b'=b/\o<es.length*sz)) (λ _ _ h=>.inl h) (λ i b' BL h o h2=>?_) (λ b' o h=>?_) (λ b' hF o=>?_),.p ?_⟩
   ·rcases h2 with h2|⟨h2,_⟩
    ·exact h2
    ·subst h2; exact absurd (hs.inj i id b' h how) BL
   ·rcases h with h|⟨h,_⟩
    ·exact hs.lt b' o h
    ·subst h; exact hown.1
   ·constructor
    ·rintro (h|⟨h,_⟩)
     ·exact h
     ·subst h; exact absurd hF hown.2
    ·exact .inl
   ·refine .slice sz (λ i j=>(c[i*sz+j]?).getD Go.undef) Bw By BB (λ i x j p hx hp=>?_) (λ i x j p hx hp=>?_)
    ·obtain ⟨v,h3,h4⟩:=hr i x j p hx hp;have hil:i<es.length:=(List.getElem?_eq_some_iff.1 hx).1;have hjl:j<sz:=by have:=(List.getElem?_eq_some_iff.1 hp).1; rw [By x (List.mem_of_getElem? hx)] at this; exact this
     have:=mf hil hjl;refine ⟨.inr ⟨Z,by omega⟩,?_⟩;simp only [World.cell?,hb,ro];rw [h3];simp
    ·obtain ⟨v,h3,h4⟩:=hr i x j p hx hp;rw [h3];exact h4.mono λ b o h=>⟨.inl h,rfl⟩
 refine ⟨g',?_⟩;rw [oa h1,l7 h2];refine { hs' with sl:=λ i=>?_ };simp only [AS.get,ba];by_cases e:q=i
 ·subst e; rw [if_pos rfl]; exact hrep
 ·rw [if_neg e]; exact hs'.sl i
theorem wD {t e:Nat}{x y:Operand}{i ie:TI}{k k':IntKind}{m:Int}(ho:o.op=.makeSlice t x y)(hd:o.dst=some d)(hn:Nat.blt d C.n=true)
  (hi:look C.tt t=some i) (BK:i.k=.slice e) (hie:look C.tt e=some ie) (hx:evo sl x=some (.p (.val (.int k 0)))) (hy:evo sl y=some (.p (.val (.int k' m))))
  (hb:0<=m/\m<=9223372036854775807/\(ie.bytes:Int)*m<=281474976710656) {sz:Nat} (By:ie.size=sz) {ob':List (Nat×List AV)} (hob:dmO (λ i=>Nat.beq i d) ob=some ob')
  (hK:K ⟨(d,.stk d sz [])::(cF (λ i=>Nat.beq i d) ⟨sl,ob⟩).sl,ob'⟩):bA C o K ⟨sl,ob⟩:=by
 subst By;have e1:=(l7 hob).symm;have hdl:d<M1:=by have h1:=ph C.nl; have h2:d<C.n:=mv ▸ hn; omega
 intro g a w hs;obtain ⟨c,hc,hrun⟩:=ww C.good hi BK hie k k' hb w;have hf:=hs.fresh (λ i=>Nat.beq i d) (λ i hi=>by have:=bt hi; omega) d G (λ o=>o=m.toNat*ie.size) c e
 have hp:=hf.put (d:=some d) (λ t ht=>by cases ht; exact mv ▸ hn) (x:=.stk d ie.size []) (v:=.slice (some ⟨w.heap.size,0,none⟩) 0 m.toNat)
  (.stk (es:=[]) (cap:=m.toNat) G bR (by simpa using hc) (Nat.zero_le _) G G  (λ o=>by
   constructor
   ·rintro (h|⟨_,h⟩)
    ·exact absurd (hs.lt _ _ h) (Nat.lt_irrefl _)
    ·exact h
   ·intro h; exact .inr ⟨rfl,h⟩) (λ i x j p hx=>by simp at hx))
 unfold Oper.wp
 have hrun':(execOp a.eval o).run C.P w=.ok (.value (.slice (some ⟨w.heap.size,0,none⟩) 0 m.toNat)) (w.alloc (.cells c e)):=by
  simp only [execOp,ho,cK hs hx,cK hs hy,Sem.run_bind,hrun,Result.andThen_ok,Sem.run_pure]
 rw [hrun'];simp only [Oper.upon,hd];rw [<- show (cF (λ i=>Nat.beq i d) ⟨sl,ob⟩).ob=ob' from e1] at hK;exact ⟨_,_,hp,hK⟩
end
mutual
def AV.stl (tok:Nat):AV->AV|.stk t s es=>bif Nat.beq t tok then .p (.slice es) else .stk t s es|.agg cs=>.agg (AV.stlL tok cs)|.tuple cs=>.tuple (AV.stlL tok cs)|x=>x.dem (Nat.beq · tok)
def AV.stlL (tok:Nat):List AV->List AV|[]=>[]|x::r=>x.stl tok::AV.stlL tok r
end
theorem sC (tok:Nat):∀ l:List AV,AV.stlL tok l=l.map (AV.stl tok)
 | []=>by rw [AV.stlL]; rfl
 | x::r=>by rw [AV.stlL,sC tok r]; rfl
theorem ARep.stl {tok:Nat}{w:World}{g g':Gh}(hE:EvO (Nat.beq · tok) w g w g')(hs:∀ b c e,g.ow tok=some b->w.heap[b]? = some (.cells c e (0,0))->∀ o,o<c.size->g'.st b o)
  {x:AV} {v:Value} (h:ARep w g x v):ARep w g' (x.stl tok) v:=by
 induction h with
 | agg hl h ih=>
  simp only [AV.stl,sC];refine .agg (by simpa using hl) λ i c v h1 h2=>?_;rw [List.getElem?_map] at h1;obtain ⟨x,hx,rfl⟩:=n7.1 h1;exact ih i x v hx h2
 | stkn t sz=>
  simp only [AV.stl]
  cases Nat.beq t tok
  ·exact .stkn _ _
  ·exact .p .nils
 | stke t sz a=>
  simp only [AV.stl]
  cases Nat.beq t tok
  ·exact .stke _ _ _
  ·exact .p (.nile _)
 | stk how hb BD Bw By BB BH hr=>
  rename_i t sz es b cap c e;have hd:=(ARep.stk how hb BD Bw By BB BH hr).dem hE;simp only [AV.stl];simp only [AV.dem] at hd
  cases hq:Nat.beq t tok
  ·rw [hq] at hd; exact hd
  ·have:=bt hq;subst this;refine .p (.slice sz (λ i j=>(c[i*sz+j]?).getD Go.undef) Bw By BB (λ i x j p hx hp=>?_) (λ i x j p hx hp=>?_))
   ·obtain ⟨v,h3,h4⟩:=hr i x j p hx hp;refine ⟨hs b c e how hb _ ?_,?_⟩
    ·have:=(Array.getElem?_eq_some_iff.1 h3).1;omega
    ·simp only [World.cell?,hb,ro];rw [h3];simp
   ·obtain ⟨v,h3,h4⟩:=hr i x j p hx hp;rw [h3];exact h4.mono hE.ev
 | undef v=>exact (ARep.undef v).dem hE
 | p h=>exact (ARep.p h).dem hE
 | vecn a b c=>exact (ARep.vecn a b c).dem hE
 | vece a b c=>exact (ARep.vece a b c).dem hE
 | vec h1 h2 h3 h4 h5 h6 h7=>exact (ARep.vec h1 h2 h3 h4 h5 h6 h7).dem hE
 | arr h1 h2 h3 h4=>exact (ARep.arr h1 h2 h3 h4).dem hE
 | ptr h1=>exact (ARep.ptr h1).dem hE
 | bptrn h1 h2 h3=>exact (ARep.bptrn h1 h2 h3).dem hE
 | bptr h1 h2 h3=>exact (ARep.bptr h1 h2 h3).dem hE
 | rptr a h1 h2=>exact (ARep.rptr a h1 h2).dem hE
 | tuple hl h ih=>
  simp only [AV.stl,sC];refine .tuple (by simpa using hl) λ i c v h1 h2=>?_;rw [List.getElem?_map] at h1;obtain ⟨x,hx,rfl⟩:=n7.1 h1;exact ih i x v hx h2
 | func hl h _=>exact (ARep.func hl h).dem hE
 | mp h1 h2 h3 h4 h5 h6=>exact (ARep.mp h1 h2 h3 h4 h5 h6).dem hE
 | mpr h1 h2 h3 h4 h5 h6 _=>exact (ARep.mpr h1 h2 h3 h4 h5 h6).dem hE
 | sem h1 h=>exact (ARep.sem h1 h).dem hE
 | it h1 h2 h3=>exact (ARep.it h1 h2 h3).dem hE
 | vecp h1 h2 h3 h4 h5 h6 h7 h8=>exact (ARep.vecp h1 h2 h3 h4 h5 h6 h7 h8).dem hE
 | elp h1 h2 h3 h4=>exact (ARep.elp h1 h2 h3 h4).dem hE
def y7 (tok:Nat):List AV->Option (List AV)
 | []=>some []
 | x::r=>(match frc (x.stl tok) with
  | some y=>(match y7 tok r with|some l=>some (y::l)|none=>none)
  | none=>none)
theorem vj {tok:Nat}:∀ {l l':List AV},y7 tok l=some l'->l'=l.map (AV.stl tok)
 | [],l',h=>by cases h; rfl
 | x::r,l',h=>by
  unfold y7 at h;split at h
  ·rename_i y hy;split at h
   ·rename_i m hm; cases h; rw [pG hy,vj hm]; rfl
   ·cases h
  ·cases h
def yw (tok:Nat):List (Nat×AV)->Option (List (Nat×AV))
 | []=>some []
 | (i,x)::r=>(match frc (x.stl tok) with
  | some y=>(match yw tok r with|some l=>some ((i,y)::l)|none=>none)
  | none=>none)
theorem va {tok:Nat}:∀ {l l':List (Nat×AV)},yw tok l=some l'->l'=l.map λ p=>(p.1,p.2.stl tok)
 | [],l',h=>by cases h; rfl
 | (i,x)::r,l',h=>by
  unfold yw at h;split at h
  ·rename_i y hy;split at h
   ·rename_i m hm; cases h; rw [pG hy,va hm]; rfl
   ·cases h
  ·cases h
def uz (tok:Nat):List (Nat×List AV)->Option (List (Nat×List AV))
 | []=>some []
 | (i,cs)::r=>(match Nat.beq i tok with
  | true=>uz tok r
  | false=>(match y7 tok cs with
   | some ds=>(match uz tok r with|some l=>some ((i,ds)::l)|none=>none)
   | none=>none))
theorem nE {tok:Nat}:∀ {l l':List (Nat×List AV)},uz tok l=some l'->∀ id cs,look l' id=some cs->id≠tok/\∃ ds,look l id=some ds/\cs=ds.map (AV.stl tok)
 | [],l',h,id,cs,hc=>by cases h; cases hc
 | (i,xs)::r,l',h,id,cs,hc=>by
  unfold uz at h;split at h
  ·rename_i hb;obtain ⟨h1,ds,h2,h3⟩:=nE h id cs hc;have hi:=bt hb;refine ⟨h1,ds,?_,h3⟩;rw [ba,if_neg (λ e'=>h1 O)];exact h2
  ·rename_i hb;have hi:i≠tok:=λ e=>by subst e; simp at hb
   split at h
   ·rename_i ds hds;split at h
    ·rename_i m hm
     cases h
     rw [ba] at hc ⊢;by_cases e1:i=id
     ·subst e1;rw [if_pos rfl] at hc ⊢
      cases hc
      exact ⟨hi,xs,Z,vj hds⟩
     ·rw [if_neg e1] at hc ⊢;exact nE hm id cs hc
    ·cases h
   ·cases h
theorem p9 {C:Cx}{sl sl':List (Nat×AV)}{ob ob':List (Nat×List AV)}(tok:Nat)(hid:Nat.blt tok M1=true)(h1:sl'=sl.map λ p=>(p.1,p.2.stl tok))(h2:uz tok ob=some ob') :
  dx C ⟨sl,ob⟩ ⟨sl',ob'⟩:=by
 have hid':tok<M1:=mv ▸ hid;intro g a w hs;obtain ⟨st',hst'⟩:∃ st':Nat->Nat->Prop,∀ b o,st' b o↔g.st b o\/(g.ow tok=some b/\∃ c e,w.heap[b]? = some (.cells c e (0,0))/\o<c.size):=⟨_,λ _ _=>Iff.rfl⟩
 have k1:∀ b o,g.st b o->st' b o:=λ b o h=>(hst' b o).2 (.inl h)
 have k2:∀ i b,i≠tok->g.ow i=some b->∀ o,st' b o->g.st b o:=λ i b BL h o h2=>by
  rcases (hst' b o).1 h2 with h3|⟨h3,_⟩
  ·exact h3
  ·exact absurd (hs.inj i tok b h h3) BL
 obtain ⟨g',hg',how'⟩:∃ g':Gh,g'.st=st'/\∀ i,g'.ow i=if i=tok then none else g.ow i:=⟨⟨st',λ i=>if i=tok then none else g.ow i⟩,rfl,λ _=>rfl⟩
 have hs':St C.n C.w0 C.F g' (cF (Nat.beq · tok) ⟨sl,ob⟩) a w:=by
  refine hs.evolve (Nat.beq · tok) (wO hid') (λ b o h=>⟨by rw [hg']; exact k1 b o h,Z⟩) (λ i b hD h=>?_) (λ i j b h1 h2=>?_) (λ i b h=>?_) (λ b o h=>?_) (λ b h=>rfl) Z Z Z (n6 _) (λ b hF o=>?_) (λ i hi=>?_)
  ·have BL:i≠tok:=λ e=>by subst e; simp at hD
   exact ⟨by rw [how',if_neg BL]; exact h,Z,by rw [hg']; exact k2 i b BL h⟩
  ·rw [how'] at h1 h2;split at h1
   ·cases h1
   ·split at h2
    ·cases h2
    ·exact hs.inj i j b h1 h2
  ·rw [how'] at h;split at h
   ·cases h
   ·exact hs.own i b h
  ·rw [hg'] at h;rcases (hst' b o).1 h with h|⟨h,_⟩
   ·exact hs.lt b o h
   ·exact (hs.own tok b h).1
  ·rw [hg'];refine ⟨λ h=>?_,k1 b o⟩;rcases (hst' b o).1 h with h|⟨h,_⟩
   ·exact h
   ·exact absurd hF (hs.own tok b h).2
  ·rw [how',if_neg O]
 have hE:EvO (Nat.beq · tok) w g w g':=by
  refine ⟨λ b o h=>⟨by rw [hg']; exact k1 b o h,Z⟩,λ id b hD h=>?_,λ id b c e hD h hb=>⟨c,hb,Z⟩,λ id b o hD h h3=>?_,λ id b es k hD h hb=>hb,λ i hi=>?_,λ _ _ _ _ _ _=>rfl⟩
  ·have BL:id≠tok:=λ e=>by subst e; simp at hD
   rw [how',if_neg BL]; exact h
  ·have BL:id≠tok:=λ e=>by subst e; simp at hD
   rw [hg'] at h3;exact k2 id b BL h o h3
  ·cases hq:Nat.beq i tok
   ·rfl
   ·have:=bt hq; have:=pP hi; omega
 have hall:∀ b c e,g.ow tok=some b->w.heap[b]? = some (.cells c e (0,0))->∀ o,o<c.size->g'.st b o:=λ b c e h h2 o h3=>by
  rw [hg']; exact (hst' b o).2 (.inr ⟨h,c,e,h2,h3⟩)
 refine ⟨g',{ hs' with sl:=λ i=>?_,ob:=λ id cs hc=>?_ }⟩
 ·have h:=hs.sl i;rw [h1];simp only [AS.get,gx];simp only [AS.get] at h
  cases hl:look sl i with
  | none=>simp only [Option.map_none,Option.getD_none]; exact .undef _
  | some x=>rw [hl] at h; simpa using h.stl hE hall
 ·obtain ⟨BL,ds,m1,rfl⟩:=nE h2 id cs hc;obtain ⟨b2,c2,e2,n1,n2,n3,n4,n5⟩:=hs.ob id ds m1;refine ⟨b2,c2,e2,by rw [how',if_neg BL]; exact n1,n2,by simpa using n3,λ o h3=>n4 o (k2 id b2 BL n1 o (by rw [<- hg']; exact h3)),λ j y hy=>?_⟩;simp only [List.getElem?_map,n7] at hy;obtain ⟨y0,hy0,rfl⟩:=hy;obtain ⟨u,hu,hr⟩:=n5 j y0 hy0;exact ⟨u,hu,hr.stl hE hall⟩
theorem gi {C:Cx}{sl sl':List (Nat×AV)}{ob ob':List (Nat×List AV)}(tok:Nat)(hid:Nat.blt tok M1=true)(h1:yw tok sl=some sl')(h2:uz tok ob=some ob') :
  dx C ⟨sl,ob⟩ ⟨sl',ob'⟩:=p9 tok hid (va h1) h2
mutual
theorem rB (D:Nat->Bool)(tok:Nat)(h:D tok=true):∀ x:AV,(x.dem D).dem (Nat.beq · tok)=x.dem D
 | .undef=>by simp only [AV.dem]
 | .p _=>by simp only [AV.dem]
 | .agg cs=>by simp only [AV.dem]; rw [kW D tok h cs]
 | .tuple cs=>by simp only [AV.dem]; rw [kW D tok h cs]
 | .func f cs=>by simp only [AV.dem]; rw [kW D tok h cs]
 | .rptr _=>by simp only [AV.dem]
 | .sem ts R=>by
  cases hd:ts.any D
  ·have:ts.any (Nat.beq · tok)=false:=List.any_eq_false.2 λ t ht=>by
    have h1:=List.any_eq_false.1 hd t ht;intro h2;rw [bt h2] at h1;exact h1 h
   simp only [AV.dem,hd,cond_false,this]
  ·simp only [AV.dem,hd,cond_true]
 | .vec t _ _ _|.arr t _ _ _|.ptr t _|.bptr _ _ t|.mp t _|.mpr t _ _ _ _|.stk t _ _|.it t _ _|.vecp t _ _ _|.elp t _=>by
  cases hd:D t
  ·have:Nat.beq t tok=false:=by
    cases hb:Nat.beq t tok
    ·rfl
    ·rw [bt hb,h] at hd; cases hd
   simp only [AV.dem,hd,cond_false,this]
  ·simp only [AV.dem,hd,cond_true]
theorem kW (D:Nat->Bool)(tok:Nat)(h:D tok=true):∀ l:List AV,iZ (Nat.beq · tok) (iZ D l)=iZ D l
 | []=>by simp only [iZ]
 | x::r=>by simp only [iZ]; rw [rB D tok h x,kW D tok h r]
end
mutual
theorem vM (D:Nat->Bool)(tok:Nat)(h:D tok=true):∀ x:AV,(x.dem D).stl tok=x.dem D
 | .agg cs=>by simp only [AV.dem,AV.stl]; rw [qi D tok h cs]
 | .stk t s es=>by
  cases hd:D t
  ·have:Nat.beq t tok=false:=by
    cases hb:Nat.beq t tok
    ·rfl
    ·rw [bt hb,h] at hd; cases hd
   simp only [AV.dem,hd,cond_false,AV.stl,this]
  ·simp only [AV.dem,hd,cond_true,AV.stl]
 | .undef=>by simp only [AV.dem,AV.stl]
 | .p x=>by simp only [AV.dem,AV.stl]
 | .tuple cs=>by simp only [AV.dem,AV.stl]; rw [qi D tok h cs]
 | .func f cs=>by have:=rB D tok h (.func f cs); simp only [AV.dem] at this; simp only [AV.dem,AV.stl]; exact this
 | .rptr _=>by simp only [AV.dem,AV.stl]
 | .sem ts R=>by
  cases hd:ts.any D
  ·have:ts.any (Nat.beq · tok)=false:=List.any_eq_false.2 λ t ht=>by
    have h1:=List.any_eq_false.1 hd t ht;intro h2;rw [bt h2] at h1;exact h1 h
   simp only [AV.dem,hd,cond_false,AV.stl,this]
  ·simp only [AV.dem,hd,cond_true,AV.stl]
 | .vec t _ _ _|.arr t _ _ _|.ptr t _|.bptr _ _ t|.mp t _|.mpr t _ _ _ _|.it t _ _|.vecp t _ _ _|.elp t _=>by
  cases hd:D t
  ·have:Nat.beq t tok=false:=by
    cases hb:Nat.beq t tok
    ·rfl
    ·rw [bt hb,h] at hd; cases hd
   simp only [AV.dem,hd,cond_false,AV.stl,this]
  ·simp only [AV.dem,hd,cond_true,AV.stl]
theorem qi (D:Nat->Bool)(tok:Nat)(h:D tok=true):∀ l:List AV,AV.stlL tok (iZ D l)=iZ D l
 | []=>by simp only [iZ,AV.stlL]
 | x::r=>by simp only [iZ,AV.stlL]; rw [vM D tok h x,qi D tok h r]
end
section
variable {C:Cx} {o:Oper} {K:AS->Prop} {sl:List (Nat×AV)} {ob:List (Nat×List AV)} {d:Nat}
theorem xi {α:Type}(f:α->PV)(l0 l:List α){t tx e e':TypeId}{x y:Operand}{k sz:Nat}{Y0z:AV}{i ie j:TI}{sl':List (Nat×AV)}{ob':List (Nat×List AV)}(ho:o.op=.call { callee:=.builtin .append,args:=#[x,y],argTypes:=#[t,tx] })(hd:o.dst=some d)(hn:Nat.blt d C.n=true)
  (hi:look C.tt t=some i) (BK:i.k=.slice e) (hie:look C.tt e=some ie) (hj:look C.tt tx=some j) (hjk:j.k=.slice e') (hx:evo sl x=some (.stk k sz (l0.map f))) (hk:Nat.blt k M1=true)
  (hy:evo sl y=some Y0z) (hY:Y0z.elems? = some (l.map f)) (By:∀ x,(f x).cells.length=sz) (hys:0<l.length) (h1s:ie.size=sz) (h0:Nat.blt 0 sz=true) (hzl:Nat.beq ie.zero.length ie.size=true) (hby:Nat.blt 0 ie.bytes=true)
  (Bw:(l0.length+l.length)*ie.bytes<=140737488355328) (h1:dmS (λ i=>Nat.beq i k) sl=some sl') (h2:dmO (λ i=>Nat.beq i k) ob=some ob')
  (hK:K ⟨(d,.stk k sz ((l0++l).map f))::sl',ob'⟩):bA C o K ⟨sl,ob⟩:=by
 have hby':1<=ie.bytes:=Nat.succ_le_of_lt (by simpa using hby);have h3:(l0.length+l.length)*1<=(l0.length+l.length)*ie.bytes:=Nat.mul_le_mul_left _ hby';refine tP ho hd hn hi BK hie hj hjk hx hk hy hY (λ y hy=>?_) (by simpa using hys) h1s h0 hzl (by rw [bx,bx]; exact Bw) (by rw [bx,bx]; omega) ?_
 ·obtain ⟨x,_,rfl⟩:=List.mem_map.1 hy;exact By x
 ·rw [<- List.map_append];simp only [cF];rw [<- oa h1,<- l7 h2];exact hK
theorem ka {α:Type}(f:α->PV)(l:List α){t e:TypeId}{x y:Operand}{i ie:TI}{k:IntKind}{n:Int}{id sz:Nat}(ho:o.op=.indexAddr t x y)(hd:o.dst=some d)(hn:Nat.blt d C.n=true)
  (hi:look C.tt t=some i) (BK:i.k=.slice e) (hie:look C.tt e=some ie) (hx:evo sl x=some (.stk id sz (l.map f)))
  (hy:evo sl y=some (.p (.val (.int k n)))) (By:ie.size=sz) (hb:0<=n/\n<(l.length:Int)) (hK:K ⟨(d,.ptr id (n.toNat*sz))::sl,ob⟩):bA C o K ⟨sl,ob⟩ :=
 pC ho hd hn hi BK hie hx hy By (by rw [bx]; exact hb) hK
def pd {α:Type}(l:List α)(n:Int)(y:α):List α:=l.set n.toNat y
theorem vr {α:Type}(f:α->PV)(tok sz:Nat)(l:List α)(n:Int)(y:α):upK tok sz n.toNat (f y) (.stk tok sz (l.map f))=.stk tok sz ((pd l n y).map f):=by
 simp [upK,pd,List.map_set]
theorem zX {α:Type}(f:α->PV)(l:List α)(y:α)(q:Nat){t:TypeId}{x v:Operand}{i:TI}{tok sz:Nat}{n:Int}{Y0z:AV}{sl':List (Nat×AV)}{ob':List (Nat×List AV)}(ho:o.op=.store t x v)(hd:o.dst=none)
  (hi:look C.tt t=some i) (hiz:i.size=sz) (hx:evo sl x=some (.ptr tok (n.toNat*sz))) (hq:look sl q=some (.stk tok sz (l.map f))) (hb:0<=n/\n<(l.length:Int))
  (hv:evo sl v=some Y0z) (hY:Y0z.sub (.p (f y))) (hc:(AV.p (f y)).cellsA=some ((f y).cells.map .p)) (hcl:Nat.beq (f y).cells.length sz=true) (htok:Nat.blt tok M1=true)
  (h1:sl'=sl.map λ p=>(p.1,upK tok sz n.toNat (f y) p.2)) (h2:rQ tok sz n.toNat (f y) ob=some ob') (hK:K ⟨sl',ob'⟩):bA C o K ⟨sl,ob⟩ :=
 oJ ho hd hi hiz hx Z (yj hq) (by rw [bx]; omega) hv hY hc hcl htok h1 h2 hK
theorem oQ {α:Type}(f:α->PV)(l:List α)(y:α)(id j:Nat){cs:List AV}{t:TypeId}{x v:Operand}{i:TI}{tok sz:Nat}{n:Int}{Y0z:AV}{sl':List (Nat×AV)}{ob':List (Nat×List AV)}(ho:o.op=.store t x v)(hd:o.dst=none)
  (hi:look C.tt t=some i) (hiz:i.size=sz) (hx:evo sl x=some (.ptr tok (n.toNat*sz))) (hq:look ob id=some cs) (hj:cs[j]? = some (.stk tok sz (l.map f))) (hb:0<=n/\n<(l.length:Int))
  (hv:evo sl v=some Y0z) (hY:Y0z.sub (.p (f y))) (hc:(AV.p (f y)).cellsA=some ((f y).cells.map .p)) (hcl:Nat.beq (f y).cells.length sz=true) (htok:Nat.blt tok M1=true)
  (h1:sl'=sl.map λ p=>(p.1,upK tok sz n.toNat (f y) p.2)) (h2:rQ tok sz n.toNat (f y) ob=some ob') (hK:K ⟨sl',ob'⟩):bA C o K ⟨sl,ob⟩ :=
 oJ ho hd hi hiz hx Z (x6 hq hj) (by rw [bx]; omega) hv hY hc hcl htok h1 h2 hK
theorem jw {s0 s1 s2:AS}(h:∀ K':AS->Prop,K' s1->bA C o K' s0)(hg:dx C s1 s2)(hK:K s2):bA C o K s0:=by
 intro g a w hs;have h1:=h (λ s=>s=s1) rfl g a w hs;unfold Oper.wp at h1 ⊢;refine jY (λ a' w' hn=>?_) (λ _ _ _ h=>h) h1;obtain ⟨g',s',hs',rfl⟩:=hn;obtain ⟨g2,hs2⟩:=hg _ _ _ hs';exact ⟨g2,_,hs2,hK⟩
theorem nF {s s0:AS}{D:Nat->Bool}{x:AV}{ob1:List (Nat×List AV)}(tok:Nat)(h:∀ K':AS->Prop,K' ⟨(d,x)::(cF D s).sl,ob1⟩->bA C o K' s0)(hid:Nat.blt tok M1=true)(hD:D tok=true)(hob:uz tok ob1=some ob1)
  (hK:K ⟨(d,x.stl tok)::(cF D s).sl,ob1⟩):bA C o K s0:=by
 refine jw h (p9 tok hid ?_ hob) hK;simp only [cF,d4,List.map_map];congr 1;refine List.map_congr_left λ p _=>?_;simp only [Function.comp,vM D tok hD]
theorem y6 (tok sz n:Nat)(z:PV)(x:AV):upK tok sz n z x=x.dem (Nat.beq · tok)\/x.dem (Nat.beq · tok)=.undef:=by
 unfold upK;split
 ·rename_i t s es
  cases h:Nat.beq t tok
  ·left; simp only [AV.dem,h,cond_false]
  ·right; simp only [AV.dem,h,cond_true]
 ·exact .inl Z
theorem s7 {α:Type}(f:α->PV)(l:List α)(y:α)(id j:Nat){cs:List AV}{t:TypeId}{x v:Operand}{i:TI}{tok sz:Nat}{n:Int}{Y0z:AV}{sl':List (Nat×AV)}{ob1 ob':List (Nat×List AV)}(ho:o.op=.store t x v)(hd:o.dst=none)
  (hi:look C.tt t=some i) (hiz:i.size=sz) (hx:evo sl x=some (.ptr tok (n.toNat*sz))) (hq:look ob id=some cs) (hj:cs[j]? = some (.stk tok sz (l.map f))) (hb:0<=n/\n<(l.length:Int))
  (hv:evo sl v=some Y0z) (hY:Y0z.sub (.p (f y))) (hc:(AV.p (f y)).cellsA=some ((f y).cells.map .p)) (hcl:∀ x,(f x).cells.length=sz) (htok:Nat.blt tok M1=true)
  (h1:sl'=sl.map λ p=>(p.1,p.2.dem (Nat.beq · tok))) (h2:rQ tok sz n.toNat (f y) ob=some ob1) (h3:ob1=ob') (hK:K ⟨sl',ob'⟩):bA C o K ⟨sl,ob⟩:=by
 subst h1 h3;refine jw (s2:=⟨sl.map λ p=>(p.1,p.2.dem (Nat.beq · tok)),ob1⟩) (λ K' hK'=>oQ f l y id j ho hd hi hiz hx hq hj hb hv hY hc (by simp [hcl y]) htok rfl h2 hK') (λ g a w hs=>⟨g,{ hs with sl:=λ j=>?_ }⟩) hK;have h:=hs.sl j;simp only [AS.get,gx] at h ⊢
 cases hl:look sl j with
 | none=>simp only [Option.map_none,Option.getD_none]; exact .undef _
 | some x=>
  rw [hl] at h;simp only [Option.map_some,rg] at h ⊢;rcases y6 tok sz n.toNat (f y) x with e|e
  ·rw [<- e]; exact h
  ·rw [e]; exact .undef _
end
def bor:AV->Option AV|.stk _ _ es=>some (.p (.slice es))|x=>x.mapA (λ _=>none)
def sb:List AV->Option (List AV)
 | []=>some []
 | x::r=>match bor x,sb r with
  | some y,some l=>some (y::l)
  | _,_=>none
theorem vf:∀ {l l':List AV},sb l=some l'->l.length=l'.length/\∀ (i:Nat) x y,l[i]? = some x->l'[i]? = some y->bor x=some y
 | [],l',h=>by simp only [sb,aq] at h; subst h; exact ⟨Z,by simp⟩
 | x::r,l',h=>by
  simp only [sb] at h;split at h
  ·rename_i y q hy hq
   cases h
   obtain ⟨h1,h2⟩:=vf hq;refine ⟨by simp [h1],λ i a b ha hb=>?_⟩
   cases i with
   | zero=>simp only [List.getElem?_cons_zero,aq] at ha hb; subst ha hb; exact hy
   | succ i=>simp only [List.getElem?_cons_succ] at ha hb; exact h2 i a b ha hb
  ·cases h
section
variable {C:Cx} {o:Oper} {K:AS->Prop} {sl:List (Nat×AV)} {ob:List (Nat×List AV)} {d:Nat}
def pA (w:World)(g:Gh)(l:List AV)(b o:Nat):Prop :=g.st b o\/((∃ tok sz es,.stk tok sz es∈l/\g.ow tok=some b)/\∃ c e,w.heap[b]? = some (.cells c e (0,0))/\o<c.size)
theorem yW {w:World}{g:Gh}{l:List AV}{x y:AV}{v:Value}(hx:x∈l)(h:ARep w g x v)(hy:bor x=some y):ARep w ⟨pA w g l,λ _=>none⟩ y v:=by
 have hE:EvO (λ _=>false) w ⟨g.st,λ _=>none⟩ w ⟨pA w g l,λ _=>none⟩ :=
  ⟨λ b o h=>⟨.inl h,rfl⟩,(by intro _ _ _ h; cases h),(by intro _ _ _ _ _ h; cases h),(by intro _ _ _ _ h; cases h),(by intro _ _ _ _ _ h; cases h),λ _ _=>rfl,(by intro _ _ _ _ h; cases h)⟩
 by_cases hs:∃ tok sz es,x=.stk tok sz es
 ·obtain ⟨tok,sz,es,rfl⟩:=hs;simp only [bor,aq] at hy;subst hy
  cases h with
  | stkn=>exact .p .nils
  | stke=>exact .p (.nile _)
  | stk how hb BD Bw By BB BH hr=>
   rename_i b cap c e;refine .p (.slice sz (λ i j=>(c[i*sz+j]?).getD Go.undef) Bw By BB (λ i x j p hx' hp=>?_) (λ i x j p hx' hp=>?_))
   ·obtain ⟨v,h3,h4⟩:=hr i x j p hx' hp;refine ⟨.inr ⟨⟨_,_,_,hx,how⟩,c,e,hb,?_⟩,?_⟩
    ·have:=(Array.getElem?_eq_some_iff.1 h3).1;omega
    ·simp only [World.cell?,hb,ro];rw [h3];simp
   ·obtain ⟨v,h3,h4⟩:=hr i x j p hx' hp;rw [h3];exact h4.mono hE.ev
 ·have hm:x.mapA (λ _=>none)=some y:=by
   cases x <;> first|exact hy|exact absurd ⟨_,_,_,rfl⟩ hs
  exact (iS (g:=g) (g':=⟨g.st,λ _=>none⟩) rfl (λ i j b h _=>by cases h) h hm).mono hE
theorem xY:sb []=some []:=rfl
theorem rM {x y:AV}{r l:List AV}(h1:bor x=some y)(h2:sb r=some l):sb (x::r)=some (y::l):=by simp only [sb,h1,h2]
theorem wm {α:Type}(f:α->PV)(l0 l:List α){t tx e e':TypeId}{x y:Operand}(k:Nat){sz:Nat}{X Y0z:AV}{i ie j:TI}(ho:o.op=.call { callee:=.builtin .append,args:=#[x,y],argTypes:=#[t,tx] })(hd:o.dst=some d)(hn:Nat.blt d C.n=true)
  (hi:look C.tt t=some i) (BK:i.k=.slice e) (hie:look C.tt e=some ie) (hj:look C.tt tx=some j) (hjk:j.k=.slice e') (hx:evo sl x=some X) (hX:X.sub (.stk k sz (l0.map f))) (hk:Nat.blt k M1=true)
  (hy:evo sl y=some Y0z) (hY:Y0z.elems? = some (l.map f)) (By:∀ x,(f x).cells.length=sz) (hys:0<l.length) (h1s:ie.size=sz) (h0:Nat.blt 0 sz=true) (hzl:Nat.beq ie.zero.length ie.size=true) (hby:Nat.blt 0 ie.bytes=true)
  (Bw:(l0.length+l.length)*ie.bytes<=140737488355328)
  (hK:K ⟨(d,.stk k sz ((l0++l).map f))::(cF (λ i=>Nat.beq i k) ⟨sl,ob⟩).sl,(cF (λ i=>Nat.beq i k) ⟨sl,ob⟩).ob⟩):bA C o K ⟨sl,ob⟩:=by
 have hby':1<=ie.bytes:=Nat.succ_le_of_lt (by simpa using hby);have h3:(l0.length+l.length)*1<=(l0.length+l.length)*ie.bytes:=Nat.mul_le_mul_left _ hby';refine nv ho hd hn hi BK hie hj hjk hx hX hk hy hY (λ y hy=>?_) (by simpa using hys) h1s h0 hzl (by rw [bx,bx]; exact Bw) (by rw [bx,bx]; omega) ?_
 ·obtain ⟨x,_,rfl⟩:=List.mem_map.1 hy;exact By x
 ·rw [<- List.map_append];exact hK
theorem lM {s0:AS}{x y:AV}{rest:List (Nat×AV)}{ob1:List (Nat×List AV)}(h:∀ K':AS->Prop,K' ⟨(d,x)::rest,ob1⟩->bA C o K' s0)(hs:x.sub y)(hK:K ⟨(d,y)::rest,ob1⟩):bA C o K s0:=by
 refine jw (s2:=⟨(d,y)::rest,ob1⟩) h (cr ⟨λ j z hz=>?_,λ id cs hc=>⟨cs,hc,n6 _,λ i c d h1 h2=>by rw [h1] at h2; cases h2; exact AV.sub_refl _⟩⟩) hK;simp only [ba] at hz;simp only [AS.get,ba];by_cases e:d=j
 ·rw [if_pos e] at hz ⊢
  cases hz
  exact hs
 ·rw [if_neg e] at hz ⊢;rw [hz];exact AV.sub_refl _
end
theorem eJ {P:Program}(w:World)(dT sT ty elem:TypeId)(g o dLen dCap:Nat)(a:Addr)(sLen sCap sz:Nat)(cur:Array Value)(t:TypeId)(cs:List Value)
  (hu:P.underlying dT=some (.slice elem)) (hs:(P.info? elem).map (·.size)=some sz)
  (hg:w.heap[g]? = some (.cells cur t (0,0))) (hn:cs.length=Nat.min sLen dLen*sz)
  (hsrc:∀ j v,cs[j]? = some v->w.cell? (a.add j)=some v) (hfit:o+cs.length<=cur.size) (h1:∀ v∈cs,v.oneCell'=true) :
  (Builtin.copy_ #[dT,sT] ty #[.slice (some ⟨g,o,none⟩) dLen dCap,.slice (some a) sLen sCap]).run P w =
   .ok (goInt (Nat.min sLen dLen)) (w.setRow g (cur.toList.take o++cs++cur.toList.drop (o+cs.length)).toArray):=by
 have hl:=run_loadCells_list (P:=P) w a cs hsrc;have BH:=run_storeCells_at P g o t cs 0 cur w hg (by simpa using hfit) h1
 cases hq:P.info? elem with
 | none=>simp [hq] at hs
 | some i=>
  have hi:i.size=sz:=by simpa [hq] using hs
  simp [Builtin.copy_,run_underlying hu,Builtin.lenOf,Builtin.firstCells,sizeOf,typeInfo,hq,hi,<- hn,hl,BH]
theorem j4 {P:Program}(w:World)(tS tR e:TypeId)(ht:P.underlying tS=some (.slice e))(size:Nat)(hz:∀ w,(Go.sizeOf e).run P w=.ok size w)
  (a b:Addr) (la ca lb cb:Nat) (BL:a.block≠b.block) {cA cB:Array Value} {tA tB:TypeId} {fA:Nat×Nat} (ha:w.heap[a.block]? = some (.cells cA tA fA)) (hb:w.heap[b.block]? = some (.cells cB tB (0,0))) (hA:cA.size≠0) :
  (Extern.SlicesOverlaps.overlaps #[tS,tS] #[tR] #[.slice (some a) la ca,.slice (some b) lb cb]).run P w=.ok (.bool false) w:=by
 have E0:(a.block !=b.block)=true:=by simpa using BL
 have hnb':(a.block==b.block)=false:=by simpa using BL
 have hsa:w.shape? a.block=some (tA,cA.size):=by simp [World.shape?,ha]
 have hsb:w.shape? b.block=some (tB,cB.size):=by simp [World.shape?,hb]
 have hfb:∀ o s,w.frozen? ⟨b.block,o,s⟩=false:=λ o s=>by simp [World.frozen?,hb]
 have hfb':w.frozen? b=false:=hfb b.off b.spot
 change Sem.run P (α:=Value) (do
  let some t:=(#[tS,tS]:Array TypeId)[0]?|stuck "slices.overlaps: no parameter types"
  let .slice elem <- underlying t|stuck "slices.overlaps: slice type expected"
  let size <- sizeOf elem
  match (some a:Option Addr),(some b:Option Addr) with
  | some a,some b=>
   if la=0\/lb=0\/size=0 then pure (Value.bool false)
   else if a.block !=b.block&&(<- frozen a)&&(<- frozen b) then unsupported .addressObserved
   else do
    if a.block !=b.block then do
     noView a; noView b
     if <- mayBeOne a b then return Value.bool ((<- choose (.extern "sameAddr.stringBytes" 2))==1)
    pure (Value.bool (a.block==b.block&&a.off<b.off+lb*size&&b.off<a.off+la*size))
  | _,_=>pure (Value.bool false)) w=_
 by_cases h0:la=0\/lb=0\/size=0
 ·simp [run_underlying ht,hz,h0]
 ·cases hk:cA.size with
  | zero=>exact absurd hk hA
  | succ kA=>
   rw [hk] at hsa
   cases hfa:w.frozen? a <;> simp [run_underlying ht,hz,h0,E0,hnb',frozen,noView,viewAt,mayBeOne,stringish,shape,Sem.run,hsa,hsb,hfa,hfb]
def vS (c c':Array Value)(k n:Nat)(news:List Value):Prop :=(∀ j,j<k->c'[j]? = c[j]?)/\(∀ j,j<news.length->c'[k+j]? = news[j]?)/\(∀ j,k<=j->j<n->c'[news.length+j]? = c[j]?)
structure rT (w w':World)(B:Nat)(c':Array Value)(e:TypeId):Prop where
 os:w'.os=w.os
 out:w'.output=w.output
 tape:w'.tape=w.tape
 size:w.heap.size<=w'.heap.size
 here:w'.heap[B]? = some (.cells c' e (0,0))
 other:∀ k,k<w.heap.size->k≠B->w'.heap[k]? = w.heap[k]?
def ghI (g:Gh)(B m:Nat):Gh:=⟨λ b o=>g.st b o\/(b=B/\o=m),λ i=>if i=2000000 then some B else if M1<=i/\i<2*M1 then g.ow i else none⟩
theorem rY {g:Gh}{B m i b:Nat}(h:(ghI g B m).ow i=some b):(i=2000000/\B=b)\/(M1<=i/\i<2*M1/\g.ow i=some b):=by
 simp only [ghI] at h;split at h
 ·cases h; exact .inl ⟨‹_›,rfl⟩
 ·split at h
  ·rename_i h1; exact .inr ⟨h1.1,h1.2,h⟩
  ·cases h
theorem si {w w':World}{g:Gh}{B m:Nat}{c':Array Value}{e:TypeId}(hok:Ok0 w g.st)(hm:c'.size=m)(h:rT w w' B c' e)
  (hold:(∃ c e0,w.heap[B]? = some (.cells c e0 (0,0))/\c.size=c'.size/\∀ o,g.st B o->o=m)\/w.heap.size<=B):Ev w g.st w' (ghI g B m).st:=by
 intro k o hk;refine ⟨.inl hk,?_⟩;have hlt:=hok.lt k o hk;by_cases e1:k=B
 ·subst e1;rcases hold with ⟨c,e0,h1,h2,h3⟩|h1
  ·have:=h3 o hk;simp only [World.cell?,h.here,h1];rw [Array.getElem?_eq_none O,Array.getElem?_eq_none O]
  ·omega
 ·simp only [World.cell?,h.other k hlt e1]
theorem nQ {w w':World}{g:Gh}{B m:Nat}{c':Array Value}{e:TypeId}(hok:Ok0 w g.st)(hown:∀ i b,g.ow i=some b->b<w.heap.size/\i<2*M1)
  (hinj:∀ i j b,g.ow i=some b->g.ow j=some b->i=j) (hnst:∀ i b,M1<=i->g.ow i=some b->∀ o,¬ g.st b o) (hm:c'.size=m) (h:rT w w' B c' e)
  (hold:(g.ow 900000=some B/\∃ c e0,w.heap[B]? = some (.cells c e0 (0,0))/\c.size=c'.size/\∀ o,g.st B o->o=m)\/w.heap.size<=B):lh w g w' (ghI g B m):=by
 have hB:B<w'.heap.size:=by
  have:=h.here;exact (Array.getElem?_eq_some_iff.1 this).1
 have hnew:∀ i,M1<=i->g.ow i≠some B:=by
  intro i hi e1;rcases hold with ⟨h1,_⟩|h1
  ·have:=hinj _ _ _ e1 h1; unfold M1 at *; omega
  ·have:=(hown _ _ e1).1; omega
 refine ⟨h.os,h.out,h.tape,h.size,λ k hk hno=>h.other k hk (λ e=>?_),λ i k hi=>?_,λ i j k hi hj=>?_,λ k o hk=>?_,λ k hk hno o=>⟨λ hs=>?_,λ hs=>.inl hs⟩,λ i h1 h2=>?_,λ i k c e h1 h2 h3=>?_,λ i k hi hk o hs=>?_,si hok hm h (hold.imp_left And.right)⟩
 ·subst e;rcases hold with ⟨h1,_⟩|h1
  ·exact hno _ h1
  ·omega
 ·rcases rY hi with ⟨_,rfl⟩|⟨_,_,h1⟩
  ·refine ⟨hB,?_⟩;rcases hold with ⟨h1,_⟩|h1
   ·exact .inr ⟨_,h1⟩
   ·exact .inl h1
  ·exact ⟨Nat.lt_of_lt_of_le (hown _ _ h1).1 h.size,.inr ⟨_,h1⟩⟩
 ·rcases rY hi with ⟨e1,h1⟩|⟨a1,a2,h1⟩ <;> rcases rY hj with ⟨e2,h2⟩|⟨b1,b2,h2⟩
  ·omega
  ·subst h1; exact absurd h2 (hnew j b1)
  ·subst h2; exact absurd h1 (hnew i a1)
  ·exact hinj _ _ _ h1 h2
 ·rcases hk with hk|⟨rfl,_⟩
  ·exact Nat.lt_of_lt_of_le (hok.lt _ _ hk) h.size
  ·exact hB
 ·rcases hs with hs|⟨rfl,_⟩
  ·exact hs
  ·rcases hold with ⟨h1,_⟩|h1
   ·exact absurd h1 (hno _)
   ·omega
 ·simp only [ghI];rw [if_neg (by unfold M1 at *; omega),if_pos ⟨h1,h2⟩]
 ·have:=hnew i h1;exact ⟨c,(h.other k (hown _ _ h2).1 (λ e=>this (e ▸ h2))).trans h3,Z⟩
 ·rcases hs with hs|⟨rfl,_⟩
  ·exact hnst i k hi hk o hs
  ·exact hnew i hi hk
theorem pY {c c1 c2:Array Value}{k nn s:Nat}{news mid:List Value}(hk:k<=nn)(hnl:news.length=s)(hml:mid.length=nn-k)(hm:∀ (j:Nat) (v:Value),mid[j]? = some v->c[k+j]? = some v)
  (h1:∀ j,c1[j]? = if k+s<=j/\j<k+s+mid.length then mid[j-(k+s)]? else c[j]?) (h2:∀ j,c2[j]? = if k<=j/\j<k+news.length then news[j-k]? else c1[j]?):vS c c2 k nn news:=by
 refine ⟨λ j hj=>?_,λ j hj=>?_,λ j h3 h4=>?_⟩
 ·rw [h2,if_neg O,h1,if_neg O]
 ·rw [h2,if_pos O]; congr 1; omega
 ·rw [h2,if_neg O,h1,if_pos O,show news.length+j-(k+s)=j-k by omega];have hl:j-k<mid.length:=by omega
  rw [List.getElem?_eq_getElem hl];have:=hm _ _ (List.getElem?_eq_getElem hl);rw [show k+(j-k)=j by omega] at this;exact this.symm
theorem tc {c c2:Array Value}{k:Nat}{news:List Value}(h2:∀ j,c2[j]? = if k<=j/\j<k+news.length then news[j-k]? else c[j]?):vS c c2 k k news:=by
 refine ⟨λ j hj=>?_,λ j hj=>?_,λ j h3 h4=>by omega⟩
 ·rw [h2,if_neg O]
 ·rw [h2,if_pos O]; congr 1; omega
theorem rL {c ROW c1 c2:Array Value}{k nn s:Nat}{news mid:List Value}(hk:k<=nn)(hnl:news.length=s)(hml:mid.length=nn-k)(hm:∀ (j:Nat) (v:Value),mid[j]? = some v->c[k+j]? = some v)(h0:∀ j,j<k->ROW[j]? = c[j]?)
  (h1:∀ j,c1[j]? = if k<=j/\j<k+news.length then news[j-k]? else ROW[j]?) (h2:∀ j,c2[j]? = if k+s<=j/\j<k+s+mid.length then mid[j-(k+s)]? else c1[j]?):vS c c2 k nn news:=by
 refine ⟨λ j hj=>?_,λ j hj=>?_,λ j h3 h4=>?_⟩
 ·rw [h2,if_neg O,h1,if_neg O]; exact h0 j hj
 ·rw [h2,if_neg O,h1,if_pos O]; congr 1; omega
 ·rw [h2,if_pos O,show news.length+j-(k+s)=j-k by omega];have hl:j-k<mid.length:=by omega
  rw [List.getElem?_eq_getElem hl];have:=hm _ _ (List.getElem?_eq_getElem hl);rw [show k+(j-k)=j by omega] at this;exact this.symm
theorem setRow_size (w:World)(b:Nat)(c:Array Value):(w.setRow b c).heap.size=w.heap.size:=by unfold World.setRow; simp
theorem s8 {w:World}{b:Nat}{c:Array Value}{e0:TypeId}(hb:w.heap[b]? = some (.cells c e0 (0,0)))(c2:Array Value):rT w (w.setRow b c2) b c2 e0 :=
 ⟨Z,Z,Z,Nat.le_of_eq (setRow_size _ _ _).symm,setRow_heap w b c c2 e0 (0,0) hb,λ k _ hk=>setRow_other w b k c2 hk⟩
theorem rx {w:World}{b:Nat}{c:Array Value}{e0:TypeId}(hb:w.heap[b]? = some (.cells c e0 (0,0)))(c2:Array Value):rT w (w.drew.setRow b c2) b c2 e0 :=
 ⟨Z,Z,Z,Nat.le_of_eq (setRow_size w.drew _ _).symm,setRow_heap w.drew b c c2 e0 (0,0) hb,λ k _ hk=>setRow_other w.drew b k c2 hk⟩
theorem oO (w:World)(c:Array Value)(e:TypeId):rT w (w.drew.alloc (.cells c e)) w.heap.size c e :=
 ⟨Z,Z,Z,by show w.heap.size<=(w.heap.push _).size; simp,bR (w:=w.drew),λ k hk _=>Lib.alloc_old w.drew _ k hk⟩
theorem oU (w:World)(ROW:Array Value)(e:TypeId)(c1 c2:Array Value):rT w ((((w.alloc (.cells ROW e)).drew.setRow w.heap.size c1).drew).setRow w.heap.size c2) w.heap.size c2 e:=by
 have h0:((w.alloc (.cells ROW e)).drew).heap[w.heap.size]? = some (.cells ROW e (0,0)):=bR (w:=w);have h1:(((w.alloc (.cells ROW e)).drew.setRow w.heap.size c1).drew).heap[w.heap.size]? = some (.cells c1 e (0,0)):=setRow_heap _ _ ROW c1 e (0,0) h0;refine ⟨Z,Z,Z,?_,setRow_heap _ _ c1 c2 e (0,0) h1,λ k hk BL=>?_⟩
 ·rw [setRow_size];show w.heap.size<=((w.alloc (.cells ROW e)).drew.setRow w.heap.size c1).heap.size;rw [setRow_size];show w.heap.size<=(w.heap.push _).size;simp
 ·rw [setRow_other _ _ k c2 BL];show (((w.alloc (.cells ROW e)).drew.setRow w.heap.size c1)).heap[k]? = _;rw [setRow_other _ _ k c1 BL];exact Lib.alloc_old w _ k hk
structure uZ (P:Program)(F:FuncId)(e:TypeId)(sz bytes:Nat):Prop where
 room:∀ (w:World) (b n cap i vb voff vc:Nat) (c:Array Value) (e0:TypeId) (news:List Value) (cA:Array Value) (tA:TypeId) (fA:Nat×Nat),w.heap[b]? = some (.cells c e0 (0,0))->c.size=cap*sz->i<=n->n+1<=cap->n+1<=9223372036854775807->vb≠b ->
  news.length=sz->(∀ j v,news[j]? = some v->w.cell? ⟨vb,voff+j,none⟩=some v)->(∀ v∈news,v.oneCell'=true)->(∀ j v,j<n*sz->c[j]? = some v->v.oneCell'=true)->w.heap[vb]? = some (.cells cA tA fA) ->
  Calls P F #[.slice (some ⟨b,0,none⟩) n cap,.int .i64 i,.slice (some ⟨vb,voff,none⟩) 1 vc] w λ ed w'=>ed=.returned (.slice (some ⟨b,0,none⟩) (n+1) cap)/\∃ c',rT w w' b c' e0/\w'.heap.size=w.heap.size/\c'.size=c.size/\vS c c' (i*sz) (n*sz) news
 grow:∀ (w:World) (base:Option Addr) (n cap i vb voff vc:Nat) (c:Array Value) (news:List Value),(n=0/\cap=0\/∃ b e0,base=some ⟨b,0,none⟩/\w.heap[b]? = some (.cells c e0 (0,0))/\c.size=cap*sz)->i<=n->n<=cap->cap<n+1->(n+1)*bytes<=140737488355328 ->
  news.length=sz->(∀ j v,news[j]? = some v->w.cell? ⟨vb,voff+j,none⟩=some v)->(∀ v∈news,v.oneCell'=true)->(∀ j v,j<n*sz->c[j]? = some v->v.oneCell'=true) ->
  Calls P F #[.slice base n cap,.int .i64 i,.slice (some ⟨vb,voff,none⟩) 1 vc] w λ ed w'=>∃ G0z c',ed=.returned (.slice (some ⟨w.heap.size,0,none⟩) (n+1) G0z)/\rT w w' w.heap.size c' e/\n+1<=G0z/\c'.size=G0z*sz/\vS c c' (i*sz) (n*sz) news
def jZ {α:Type}(l:List α)(i:Nat)(x:α):List α:=l.take i++x::l.drop i
theorem xO {α:Type}{l:List α}{i:Nat}{x:α}(hi:i<=l.length)(k:Nat):(jZ l i x)[k]? = if k<i then l[k]? else if k=i then some x else l[k-1]?:=by
 unfold jZ;rw [List.getElem?_append];have:(l.take i).length=i:=by rw [sm]; omega
 rw [this];split
 ·rename_i h; rw [List.getElem?_take,if_pos h]
 ·rename_i h;split
  ·rename_i h2; subst h2; simp
  ·rename_i h2;rw [List.getElem?_cons,if_neg O,List.getElem?_drop];congr 1; omega
theorem sS {α β:Type}(f:α->β)(l:List α)(i:Nat)(x:α):jZ (l.map f) i (f x)=(jZ l i x).map f:=by
 unfold jZ; simp [List.map_take,List.map_drop]
theorem sJ {α:Type}{l:List α}{i:Nat}{x:α}(hi:i<=l.length):(jZ l i x).length=l.length+1:=by
 unfold jZ;rw [cl,sm,n8,List.length_drop]; omega
theorem nh {α:Type}{l:List α}{i:Nat}{x y:α}(h:y∈jZ l i x):y=x\/y∈l:=by
 unfold jZ at h;rcases List.mem_append.1 h with h|h
 ·exact .inr (List.mem_of_mem_take h)
 ·rcases ur.1 h with h|h
  ·exact .inl h
  ·exact .inr (List.mem_of_mem_drop h)
theorem sD {w w':World}{g:Gh}{B G0z sz:Nat}{c c':Array Value}{e:TypeId}{es:List PV}{i:Nat}{y:PV}{news:List Value}(hP:rT w w' B c' e)(hC:vS c c' (i*sz) (es.length*sz) news)(BF:Ev w g.st w' (ghI g B (G0z*sz)).st)
  (BH:∀ o,g.st B o->o=G0z*sz) (hi:i<=es.length) (hG:es.length+1<=G0z) (hs:c'.size=G0z*sz) (hn:news.length=sz) (hes:∀ x∈es,x.cells.length=sz) (hy:y.cells.length=sz) (BB:∀ x∈es,∀ c∈x.cells,c.one=true) (hyo:∀ c∈y.cells,c.one=true)
  (hr:∀ (i:Nat) x (j:Nat) p,es[i]? = some x->x.cells[j]? = some p->∃ v,c[i*sz+j]? = some v/\PRep w g.st p v) (hy2:∀ (j:Nat) p,y.cells[j]? = some p->∃ v,news[j]? = some v/\PRep w g.st p v) :
  ARep w' (ghI g B (G0z*sz)) (.stk 2000000 sz (jZ es i y)) (.slice (some ⟨B,0,none⟩) (es.length+1) G0z):=by
 rw [<- sJ (x:=y) hi];refine .stk (by simp [ghI]) hP.here hs (by rw [sJ hi]; exact hG) (λ x hx=>?_) (λ x hx c hc=>?_) (λ o=>⟨λ h=>?_,λ h=>.inr ⟨rfl,h⟩⟩) (λ k x j p hx hp=>?_)
 ·rcases nh hx with rfl|hx
  ·exact hy
  ·exact hes x hx
 ·rcases nh hx with rfl|hx
  ·exact hyo c hc
  ·exact BB x hx c hc
 ·rcases h with h|⟨_,h⟩
  ·exact BH o h
  ·exact h
 ·have hjl:j<x.cells.length:=(List.getElem?_eq_some_iff.1 hp).1;rw [xO hi] at hx;split at hx
  ·rename_i hk;obtain ⟨u,hu,hur⟩:=hr k x j p hx hp;rw [hes x (List.mem_of_getElem? hx)] at hjl;exact ⟨u,by rw [hC.1 _ (mf hk hjl)]; exact hu,hur.mono BF⟩
  ·split at hx
   ·rename_i hk
    cases hx; subst hk
    obtain ⟨u,hu,hur⟩:=hy2 j p hp;exact ⟨u,by rw [hC.2.1 j O]; exact hu,hur.mono BF⟩
   ·rename_i Eu Fa;obtain ⟨u,hu,hur⟩:=hr (k-1) x j p hx hp;rw [hes x (List.mem_of_getElem? hx)] at hjl;have hkl:k-1<es.length:=(List.getElem?_eq_some_iff.1 hx).1;have h1:=mf hkl hjl;have h2:i*sz<=(k-1)*sz:=Nat.mul_le_mul_right _ O
    have h3:k*sz=(k-1)*sz+sz:=by
     obtain ⟨m,rfl⟩:∃ m,k=m+1:=⟨k-1,by omega⟩
     rw [Nat.add_sub_cancel,Nat.succ_mul]
    refine ⟨u,?_,hur.mono BF⟩;rw [show k*sz+j=news.length+((k-1)*sz+j) by omega,hC.2.2 _ O h1];exact hu
theorem pB {P:Program}{F:FuncId}{e:TypeId}{sz bytes:Nat}(R:uZ P F e sz bytes)(h0:0<sz)(es:List PV)(i:Nat)(y:PV)(hi:i<=es.length)
  (Bw:(es.length+1)*bytes<=140737488355328) (hlen':es.length+1<=9223372036854775807) (hysz:y.cells.length=sz) :
  cR P F [.stk 900000 sz es,.p (.val (.int .i64 i)),.p (.slice [y])] [] (λ x q=>x=.stk 2000000 sz (jZ es i y)/\q=[]):=by
 intro w g vs hok hown hinj hnst hvs hargs _
 obtain ⟨a,b,v,rfl⟩:∃ a b v,vs=#[a,b,v]:=by
  obtain ⟨l,rfl⟩:∃ l:List Value,vs=l.toArray:=⟨vs.toList,by simp⟩
  match l,hvs with
  | [a,b,v],_=>exact ⟨a,b,v,Z⟩
 have ha:=hargs 0 _ _ Z Z;have hb:=hargs 1 _ _ Z Z;have hv:=hargs 2 _ _ Z Z;replace ha:ARep w g (.stk 900000 sz es) a:=ha;replace hb:ARep w g (.p (.val (.int .i64 i))) b:=hb;replace hv:ARep w g (.p (.slice [y])) v:=hv
 have eb:b=.int .i64 i:=by
  cases hb with
  | p h=>cases h; rfl
 subst eb
 clear hargs hb
 obtain ⟨vb,voff,vc,cf,rfl,hc,hone1,hr1⟩:∃ (vb voff vc:Nat) (cf:Nat->Value),v=.slice (some ⟨vb,voff,none⟩) 1 vc/\(∀ (j:Nat) p,y.cells[j]? = some p->g.st vb (voff+j)/\w.cell? ⟨vb,voff+j,none⟩=some (cf j))/\(∀ c∈y.cells,c.one=true)/\(∀ (j:Nat) p,y.cells[j]? = some p->PRep w g.st p (cf j)):=by
  cases hv with
  | p h=>
   cases h with
   | slice sz' cf hcap By BB hc hr=>
    refine ⟨_,_,_,cf 0,Z,λ j p hp=>?_,BB y G,λ j p hp=>hr 0 y j p Z hp⟩;have:=hc 0 y j p Z hp;simpa using this
 have hnews:∀ j,j<sz->∃ p,y.cells[j]? = some p:=λ j hj=>⟨y.cells[j],List.getElem?_eq_getElem O⟩
 let news:=(List.range sz).map cf
 have hnl:news.length=sz:=by simp [news]
 have hnget:∀ j v,news[j]? = some v->j<sz/\v=cf j:=by
  intro j v hj;have hl:j<news.length:=(List.getElem?_eq_some_iff.1 hj).1;rw [hnl] at hl;simp [news,hl] at hj;exact ⟨hl,hj.symm⟩
 have hncell:∀ j v,news[j]? = some v->w.cell? ⟨vb,voff+j,none⟩=some v:=by
  intro j v hj;obtain ⟨hl,rfl⟩:=hnget j v hj;obtain ⟨p,hp⟩:=hnews j hl;exact (hc j p hp).2
 have hn1:∀ v∈news,v.oneCell'=true:=by
  intro v hv;obtain ⟨j,hj⟩:=List.mem_iff_getElem?.1 hv;obtain ⟨hl,rfl⟩:=hnget j v hj;obtain ⟨p,hp⟩:=hnews j hl;exact PV.one_rep (hr1 j p hp) (hone1 p (List.mem_of_getElem? hp))
 have hy2:∀ (j:Nat) p,y.cells[j]? = some p->∃ v,news[j]? = some v/\PRep w g.st p v:=by
  intro j p hp;have hl:j<sz:=by have:=(List.getElem?_eq_some_iff.1 hp).1; omega
  exact ⟨cf j,by simp [news,hl],hr1 j p hp⟩
 have hempty:∀ base:Option Addr,es=[]->a=.slice base 0 0->Calls P F #[a,.int .i64 i,.slice (some ⟨vb,voff,none⟩) 1 vc] w λ ed w'=>∃ v r obs' g',ed=.returned v/\(r=AV.stk 2000000 sz (jZ es i y)/\obs'=([]:List (Nat×List AV)))/\ARep w' g' r v/\(∀ p∈obs',ix w' g' p.1 p.2)/\lh w g w' g':=by
  rintro base rfl rfl;have hi0:i=0:=by simpa using hi
  subst hi0;refine (R.grow w base 0 0 0 vb voff vc #[] news (.inl ⟨rfl,rfl⟩) (n6 _) (n6 _) (Nat.lt_succ_self _) (by simpa using Bw) hnl hncell hn1 (λ j v hj=>by simp at hj)).mono ?_;rintro ed w' ⟨G0z,c',rfl,hP,hG,hs,hC⟩;have BF:=si hok hs hP (.inr (n6 _));have hrep:=sD (es:=[]) (i:=0) (y:=y) hP hC BF (λ o h=>absurd (hok.lt _ _ h) (Nat.lt_irrefl _)) (n6 _) hG hs hnl G hysz G hone1 (λ i x j p hx=>by simp at hx) hy2;exact ⟨_,_,[],ghI g w.heap.size (G0z*sz),rfl,⟨rfl,rfl⟩,hrep,by simp,nQ hok hown hinj hnst hs hP (.inr (n6 _))⟩
 cases ha with
 | stkn=>exact hempty none Z Z
 | stke=>exact hempty _ Z Z
 | @stk _ _ _ b0 cap c e0 how hb BD hlenc hszc BB BH hr=>
  have hcone:∀ j v,j<es.length*sz->c[j]? = some v->v.oneCell'=true:=by
   intro j v hj hjv;have hd:j / sz<es.length:=Nat.div_lt_of_lt_mul (by rw [Nat.mul_comm]; exact hj);have hm:j%sz<sz:=Nat.mod_lt _ h0;have hx:=hszc es[j / sz] (List.getElem_mem hd);obtain ⟨u,hu,hur⟩:=hr (j / sz) es[j / sz] (j%sz) _ (List.getElem?_eq_getElem hd) (List.getElem?_eq_getElem O);have e1:j / sz*sz+j%sz=j:=Nat.div_add_mod' _ _;rw [e1,hjv] at hu
   cases hu
   exact PV.one_rep hur (BB _ (List.getElem_mem hd) _ (List.getElem_mem _))
  by_cases hroom:es.length+1<=cap
  ·obtain ⟨p0,hp0⟩:=hnews 0 h0;obtain ⟨hst0,hcell0⟩:=hc 0 p0 hp0
   have BL:vb≠b0:=by
    intro e1; subst e1;have:=(BH _).1 hst0;simp only [World.cell?,hb] at hcell0;rw [Array.getElem?_eq_none O] at hcell0
    cases hcell0
   obtain ⟨cA,tA,fA,hA⟩:∃ cA tA fA,w.heap[vb]? = some (.cells cA tA fA):=by
    simp only [World.cell?] at hcell0
    cases hh:w.heap[vb]? with
    | none=>rw [hh] at hcell0; cases hcell0
    | some o=>
     rw [hh] at hcell0
     cases o with
     | cells cA tA fA=>exact ⟨cA,tA,fA,Z⟩
     | _=>cases hcell0
   refine (R.room w b0 es.length cap i vb voff vc c e0 news cA tA fA hb BD hi hroom hlen' BL hnl hncell hn1 hcone hA).mono ?_;rintro ed w' ⟨rfl,c',hP,hsz',hs,hC⟩;have hold:(∃ c e0,w.heap[b0]? = some (.cells c e0 (0,0))/\c.size=c'.size/\∀ o,g.st b0 o->o=cap*sz):=⟨c,e0,hb,hs.symm,λ o h=>(BH o).1 h⟩
   have hs':c'.size=cap*sz:=hs.trans BD;have BF:=si hok hs' hP (.inl hold);have hrep:=sD (es:=es) (i:=i) (y:=y) hP hC BF (λ o h=>(BH o).1 h) hi hroom hs' hnl hszc hysz BB hone1 hr hy2;exact ⟨_,_,[],ghI g b0 (cap*sz),Z,⟨Z,Z⟩,hrep,by simp,nQ hok hown hinj hnst hs' hP (.inl ⟨how,hold⟩)⟩
  ·refine (R.grow w (some ⟨b0,0,none⟩) es.length cap i vb voff vc c news (.inr ⟨b0,e0,rfl,hb,BD⟩) hi hlenc O Bw hnl hncell hn1 hcone).mono ?_;rintro ed w' ⟨G0z,c',rfl,hP,hG,hs,hC⟩;have BF:=si hok hs hP (.inr (n6 _));have hrep:=sD (es:=es) (i:=i) (y:=y) hP hC BF (λ o h=>absurd (hok.lt _ _ h) (Nat.lt_irrefl _)) hi hG hs hnl hszc hysz BB hone1 hr hy2;exact ⟨_,_,[],ghI g w.heap.size (G0z*sz),rfl,⟨rfl,rfl⟩,hrep,by simp,nQ hok hown hinj hnst hs hP (.inr (n6 _))⟩
def za:AV->Bool|.p (.val _)=>true|_=>false
def xg:AV->Bool|.p (.val _)=>true|.tuple cs=>cs.all za|_=>false
theorem vW {w w':World}{g g':Gh}{r:AV}{v:Value}(hf:za r=true)(h:ARep w g r v):ARep w' g' r v:=by
 cases h with
 | p h=>
  cases h with
  | val v=>exact .p (.val v)
  | _=>cases hf
 | _=>cases hf
theorem yf {w w':World}{g g':Gh}{r:AV}{v:Value}(hf:xg r=true)(h:ARep w g r v):ARep w' g' r v:=by
 cases h with
 | p h=>
  cases h with
  | val v=>exact .p (.val v)
  | _=>cases hf
 | tuple hl h=>exact .tuple hl (λ i c v hc hv=>vW (List.all_eq_true.1 hf c (List.mem_of_getElem? hc)) (h i c v hc hv))
 | _=>cases hf
section
variable {C:Cx} {o:Oper} {K:AS->Prop} {sl:List (Nat×AV)} {ob:List (Nat×List AV)} {d:Nat}
theorem uF {f:FuncId}{args:Array Operand}{ts:Array TypeId}{l l' q:List AV}{r0:AV}(hc:fw C.P f q (·=r0))(hfl:xg r0=true)(ho:o.op=.call { callee:=.value (.func f),args:=args,argTypes:=ts })
  (hd:o.dst=some d) (hn:Nat.blt d C.n=true) (hl:jN sl args.toList=some l) (hl':sb l=some l') (hq:lr l' q) (henter:∀ vs w,(callFunc f vs).run C.P w=.ok (.enter f vs) w)
  (hK:K ⟨(d,r0)::sl,ob⟩):bA C o K ⟨sl,ob⟩:=by
 intro g a w hs;obtain ⟨a1,a2⟩:=kh hs _ l hl;obtain ⟨m1,m2⟩:=vf hl';obtain ⟨b1,b2⟩:=ic hq;have hEv:Ev w g.st w (pA w g l):=λ b o h=>⟨.inl h,rfl⟩
 have hok:Ok0 w (pA w g l):=by
  refine ⟨λ b o h=>?_,hs.ok0.gl.mono hEv⟩;rcases h with h|⟨_,c,e,h,_⟩
  ·exact hs.lt b o h
  ·exact (Array.getElem?_eq_some_iff.1 h).1
 have Bw:=a1.symm.trans (m1.trans b1)
 have hcall:=hc w (pA w g l) (args.map a.eval) hok (by simpa using Bw) (λ i c v hc hv=>by
  have hi':i<l'.length:=by have:=(List.getElem?_eq_some_iff.1 hc).1; omega
  have hi:i<l.length:=by omega
  have hv':(args.toList.map a.eval)[i]? = some v:=by rw [<- Array.toList_map]; simpa using hv
  have h1:=a2 i _ v (List.getElem?_eq_getElem hi) hv';have h2:=yW (l:=l) (List.getElem_mem hi) h1 (m2 i _ _ (List.getElem?_eq_getElem hi) (List.getElem?_eq_getElem hi'))
  exact b2 i _ c (List.getElem?_eq_getElem hi') hc w _ v h2)
 unfold Oper.wp;have hrun:(execOp a.eval o).run C.P w=.ok (.enter f (args.map a.eval)) w:=by simp [execOp,ho,resolve,Act.eval,Deferred.ofValue,invoke,henter]
 rw [hrun];simp only [Oper.upon];refine hcall.mono λ e w' ⟨v,r,g',he,hR,hr,hA⟩=>?_;subst he;subst hR
 have hs':St C.n C.w0 C.F g ⟨sl,ob⟩ a w':=by
  refine hs.evolve0 (λ b o h=>?_) (λ id b h=>?_) hs.inj (λ i b h=>?_) (λ b o h=>?_) (λ b h=>?_) hA.os hA.out hA.tape hA.size (λ b hb o=>Iff.rfl) (λ _ _=>rfl)
  ·have hlt:=hs.lt b o h;exact ⟨h,by simp only [World.cell?,hA.fr b hlt]⟩
  ·have hlt:=(hs.own id b h).1;exact ⟨h,hA.fr b hlt,λ o ho=>ho⟩
  ·have:=hs.own i b h; have:=hA.size; exact ⟨by omega,(hs.own i b h).2⟩
  ·have:=hs.lt b o h; have:=hA.size; omega
  ·have:=hs.fl b h; have:=hs.size; exact hA.fr b O
 have hp:=hs'.put (d:=o.dst) (x:=r) (v:=v) (λ t ht=>by rw [hd] at ht; cases ht; exact mv ▸ hn) (yf hfl hr);rw [hd] at hp;simp only;rw [hd];exact ⟨_,_,hp,hK⟩
theorem tW {α:Type} [Inhabited α] (f:α->PV)(l:List α)(cf:α->List PV)(q j:Nat){cs:List AV}{d:Nat}{t:TypeId}{x:Operand}{i:TI}{id sz:Nat}{n:Int}(ho:o.op=.load t x)(hd:o.dst=some d)(hn:Nat.blt d C.n=true)
  (hi:look C.tt t=some i) (hia:i.k.isAgg=true) (hx:evo sl x=some (.ptr id (n.toNat*sz))) (hq:look ob q=some cs) (hj:cs[j]? = some (.stk id sz (l.map f))) (By:i.size=sz) (hb:0<=n/\n<(l.length:Int)) (hcf:∀ x,(f x).cells=cf x)
  (hK:K ⟨(d,.p (.agg (cf (lat l n))))::sl,ob⟩):bA C o K ⟨sl,ob⟩:=by
 obtain ⟨m,rfl⟩:∃ m:Nat,n=m:=⟨n.toNat,by omega⟩
 have hm:m<l.length:=by omega
 have hy:(l.map f)[m]? = some (f (lat l (m:Int))):=by rw [List.getElem?_map,List.getElem?_eq_getElem hm,ez l m hm]; rfl
 rw [<- hcf] at hK;rw [Int.toNat_natCast] at hx;generalize f (lat l (m:Int))=y at hy hK;refine ok_one hd hn (λ g a w hs=>?_) hK;have h5:=bP hs hx;generalize hv:a.eval x=v at h5
 cases h5 with
 | ptr how=>
  rename_i b;obtain ⟨_,c0,_,_,_,_,_,hcs0⟩:=hs.ob q cs hq;obtain ⟨u0,_,h6⟩:=hcs0 j _ hj;generalize l.map f=es at h6 hy
  cases h6 with
  | stkn=>simp at hy
  | stke=>simp at hy
  | @stk _ _ _ b2 cap c e how2 hb BD Bw hszc BB BH hr=>
   rw [how] at how2; cases how2;have hyl:=hszc y (List.mem_of_getElem? hy)
   have hc:∀ j,j<i.size->w.cell? ⟨b,m*sz+j,none⟩=some (c.getD (m*sz+j) Go.undef):=by
    intro j hj;have hj':j<y.cells.length:=by omega
    obtain ⟨u,hu,_⟩:=hr m y j _ hy (List.getElem?_eq_getElem hj');rw [kf hs hb,Array.getD_eq_getD_getElem?,hu]
    rfl
   have hld:=ko C.good hi hia (f:=λ j=>c.getD (m*sz+j) Go.undef) hc;refine ⟨.agg ((List.range i.size).map λ j=>c.getD (m*sz+j) Go.undef).toArray,by simp only [execOp,ho,hv,Instr.loadAt,Instr.sureAddr,Sem.run_bind,Sem.run_pure,Result.andThen_ok,hld],.p (.agg (by simp; omega) λ j y' v h1 h2=>?_)⟩;have hj:j<i.size:=by have:=(List.getElem?_eq_some_iff.1 h1).1; omega
   simp only [List.getElem?_toArray,List.getElem?_map,List.getElem?_range hj,Option.map_some,aq] at h2;subst h2;obtain ⟨u,hu,hr2⟩:=hr m y j y' hy h1;rw [Array.getD_eq_getD_getElem?,hu];exact hr2
theorem sV {α:Type}(f:α->PV)(l:List α)(y:α)(id j:Nat){cs:List AV}{t:TypeId}{x v:Operand}{i:TI}{tok sz:Nat}{n:Int}{Y0z:AV}{sl':List (Nat×AV)}{ob1 ob':List (Nat×List AV)}(ho:o.op=.store t x v)(hd:o.dst=none)
  (hi:look C.tt t=some i) (hiz:i.size=sz) (hx:evo sl x=some (.ptr tok (n.toNat*sz))) (hq:look ob id=some cs) (hj:cs[j]? = some (.stk tok sz (l.map f))) (hb:0<=n/\n<(l.length:Int))
  (hv:evo sl v=some Y0z) (hY:Y0z.sub (.p (f y))) (hc:(AV.p (f y)).cellsA=some ((f y).cells.map .p)) (hcl:∀ x,(f x).cells.length=sz) (htok:Nat.blt tok M1=true)
  (h1:sl'=sl.map λ p=>(p.1,upK tok sz n.toNat (f y) p.2)) (h2:rQ tok sz n.toNat (f y) ob=some ob1) (h3:ob1=ob') (hK:K ⟨sl',ob'⟩):bA C o K ⟨sl,ob⟩:=by
 subst h1 h3;exact oQ f l y id j ho hd hi hiz hx hq hj hb hv hY hc (by simp [hcl y]) htok rfl h2 hK
end
open Go.Proofs Go.RowKit Go
theorem kp:Tryz.prog.follows .mixedOrders=true:=by kernel_rfl
theorem ge (c:Array Value)(o:Nat)(l:List Value)(h:o+l.length<=c.size)(j:Nat):((c.toList.take o++l++c.toList.drop (o+l.length)).toArray)[j]? = if o<=j/\j<o+l.length then l[j-o]? else c[j]?:=by
 have:=gB c.toList l o (by simpa using h) j;simpa using this
theorem cZ (c:Array Value)(o:Nat)(l:List Value)(h:o+l.length<=c.size):(c.toList.take o++l++c.toList.drop (o+l.length)).toArray.size=c.size:=by
 simp; omega
theorem nJ:(Tryz.prog.info? 104).map (λ i=>(i.zero,i.size,i.bytes))=some (some (.agg #[.int .i64 0,.slice none 0 0,.slice none 0 0]),3,56):=by kernel_rfl
set_option maxRecDepth 100000 in
theorem qU (w:World)(b n cap vb voff m vc:Nat)(c:Array Value)(e0:TypeId)(news:List Value)(hb:w.heap[b]? = some (.cells c e0 (0,0)))(BD:c.size=cap*3)(hm0:0<m)(hroom:n+m<=cap)
  (hnl:news.length=m*3) (hn:∀ j v,news[j]? = some v->w.cell? ⟨vb,voff+j,none⟩=some v) (h1:∀ v∈news,v.oneCell'=true) (c':Array Value) (hc':c'=(c.toList.take (n*3)++news++c.toList.drop (n*3+news.length)).toArray) :
  Calls Tryz.prog 95 #[.slice (some ⟨b,0,none⟩) n cap,.int .i64 n,.slice (some ⟨vb,voff,none⟩) m vc] w λ ed w'=>
   ed=.returned (.slice (some ⟨b,0,none⟩) (n+m) cap)/\w'=w.setRow b c':=by
 have mixed:=kp;obtain ⟨i0,hi0,hz⟩:=n7.1 nJ;have hzs:i0.size=3:=congrArg (λ x=>x.2.1) hz;have hz1:¬ ((m:Int)=0):=by omega
 have hsrc:Src Tryz.prog i0.size 102 (.slice (some ⟨vb,voff,none⟩) m vc) m news w:=by
  rw [hzs];exact Src.ofSlice w Tryz.underlying102 ⟨vb,voff,none⟩ m vc news O (λ j u hj=>by rw [Addr.add_lit]; exact hn j u hj) h1
 have hstc:=run_storeCells_at Tryz.prog b (n*3) e0 news 0 c w hb (by simp only [Nat.add_zero]; omega) h1;simp only [Nat.add_zero] at hstc;rw [<- hc'] at hstc
 have hrun:∀ ty,(Builtin.append_ #[102,102] ty #[.slice (some ⟨b,0,none⟩) n cap,.slice (some ⟨vb,voff,none⟩) m vc]).run Tryz.prog w=.ok (.slice (some ⟨b,0,none⟩) (n+m) cap) _:=λ ty=>
  fE _ _ ty _ i0 Tryz.underlying102 hi0 b n cap _ m news hsrc hroom (by rw [hzs]; first|exact hstc|(rw [Nat.mul_one]; exact hstc))
 clear hc' hstc hsrc hnl hn h1 hb BD
 go_enter Tryz.func95,Tryz.ntmps95
 go_wp2_with (at_builtin; refine Lib.wpList_append_run _ Z _ _ _ _ Z _ _ Z Z _ _ (hrun _) ?_)
 go_ret
 exact ⟨Z,Z⟩
set_option maxRecDepth 100000 in
theorem uC (w:World)(b n cap i vb voff m vc:Nat)(c:Array Value)(e0:TypeId)(news mid:List Value)(cA:Array Value)(tA:TypeId)(fA:Nat×Nat)(hb:w.heap[b]? = some (.cells c e0 (0,0)))(BD:c.size=cap*3)(hi:i<n)(hm0:0<m)(hroom:n+m<=cap)(hn63:n+m<=9223372036854775807)(hvb:vb≠b)
  (hnl:news.length=m*3) (hn:∀ j v,news[j]? = some v->w.cell? ⟨vb,voff+j,none⟩=some v) (h1:∀ v∈news,v.oneCell'=true) (hml:mid.length=(n-i)*3) (hm:∀ (j:Nat) (v:Value),mid[j]? = some v->c[i*3+j]? = some v) (hm1:∀ v∈mid,v.oneCell'=true)
  (hA:w.heap[vb]? = some (.cells cA tA fA)) (hA0:cA.size≠0)
  (c1 c2:Array Value) (hc1:c1=(c.toList.take ((i+m)*3)++mid++c.toList.drop ((i+m)*3+mid.length)).toArray) (hc2:c2=(c1.toList.take (i*3)++news++c1.toList.drop (i*3+news.length)).toArray) :
  Calls Tryz.prog 95 #[.slice (some ⟨b,0,none⟩) n cap,.int .i64 i,.slice (some ⟨vb,voff,none⟩) m vc] w λ ed w'=>
   ed=.returned (.slice (some ⟨b,0,none⟩) (n+m) cap)/\w'=w.drew.setRow b c2:=by
 have mixed:=kp;have hinf:(Tryz.prog.info? 104).map (·.size)=some 3:=by kernel_rfl
 have hz1:¬ ((m:Int)=0):=by omega
 have hz2:¬ ((i:Int)=(n:Int)):=by omega
 have hfit:(i+m)*3+mid.length<=c.size:=by omega
 have hs1:c1.size=c.size:=by rw [hc1]; exact cZ c _ mid hfit
 have hov:∀ lb cb,(callFunc 124 #[.slice (some ⟨vb,voff,none⟩) m vc,.slice (some ⟨b,(i+m)*3,none⟩) lb cb]).run Tryz.prog w=.ok (.value (.bool false)) w:=λ lb cb=>by
  rw [run_callFunc_extern Tryz.func124 (by kernel_rfl) (by kernel_rfl) (by kernel_rfl) (e:=Extern.SlicesOverlaps.overlaps #[102,102] #[4]) (by kernel_rfl),
   j4 w 102 4 104 Tryz.underlying102 3 (λ w=>by kernel_rfl) ⟨vb,voff,none⟩ ⟨b,(i+m)*3,none⟩ m vc lb cb hvb hA hb hA0]
  rfl
 have hcp1:∀ ty dc sc,(Builtin.copy_ #[102,102] ty #[.slice (some ⟨b,(i+m)*3,none⟩) (n+m-(i+m)) dc,.slice (some ⟨b,i*3,none⟩) (n+m-i) sc]).run Tryz.prog w.drew=.ok (goInt (Nat.min (n+m-i) (n+m-(i+m)))) (w.drew.setRow b c1):=λ ty dc sc=>by
  rw [hc1]
  exact eJ w.drew _ _ ty _ b ((i+m)*3) (n+m-(i+m)) dc ⟨b,i*3,none⟩ (n+m-i) sc 3 c e0 mid Tryz.underlying102 hinf hb (by rw [hml]; simp only [Nat.min_def]; split <;> omega)
   (λ j v hj=>by rw [Addr.add_lit]; rw [World.cell?_drew]; simp only [World.cell?,hb]; exact hm j v hj) hfit hm1
 have hcp2:∀ (W:World),W.heap=(w.drew.setRow b c1).heap->∀ ty dc,(Builtin.copy_ #[102,102] ty #[.slice (some ⟨b,i*3,none⟩) (n+m-i) dc,.slice (some ⟨vb,voff,none⟩) m vc]).run Tryz.prog W=.ok (goInt (Nat.min m (n+m-i))) (W.setRow b c2):=λ W hW ty dc=>by
  have hWb:W.heap[b]? = some (.cells c1 e0 (0,0)):=by rw [hW]; exact setRow_heap w.drew b c c1 e0 (0,0) hb
  rw [hc2]
  exact eJ W _ _ ty _ b (i*3) (n+m-i) dc ⟨vb,voff,none⟩ m vc 3 c1 e0 news Tryz.underlying102 hinf hWb (by rw [hnl]; simp only [Nat.min_def]; split <;> omega)
   (λ j v hj=>by
    rw [Addr.add_lit];have:=hn j v hj;simp only [World.cell?] at this ⊢;rw [hW,setRow_other w.drew b vb c1 hvb]
    exact this) O h1
 have hw1:IntKind.i64.wrap ((i:Int)+(m:Int))=(i:Int)+(m:Int):=by rw [IntKind.wrap_i64]; omega
 have hb1:(0:Int)<=(i:Int)+(m:Int):=by omega
 have hin:i<=n:=by omega
 have htn:((i:Int)+(m:Int)).toNat=i+m:=by omega
 have hb2:¬ (cap=i+m):=by omega
 have hb3:(i:Int)<=(n:Int)+(m:Int):=by omega
 have hb4:¬ (cap=i):=by omega
 clear BD hfit hs1 hml hm hm1 hnl hn h1 hc1 hc2 hinf hA hA0 hb
 go_enter Tryz.func95,Tryz.ntmps95
 go_wp2_with (simp only [hov])
 go_region_law_o (refine step_copy_runI Z _ _ 102 102 Z _ _ (by simp [Act.eval,Act.put]) (by simp [Act.eval,Act.put]) (hcp1 _ _ _) ?_)
 go_wp2_with (at_builtin; refine wpList_copy_runI _ Z _ _ 102 102 Z _ _ Z Z (hcp2 _ Z _ _) ?_)
 go_ret
 exact ⟨Z,by rw [setRow_setRow]⟩
set_option maxRecDepth 100000 in
theorem qV (w:World)(base:Option Addr)(n cap vb voff m vc:Nat)(olds news:List Value)(hm0:0<m)(hnc:n<=cap)(hroom:cap<n+m)(hbig:(n+m)*56<=140737488355328)(hold:(Builtin.firstCells 3 n (.slice base n cap)).run Tryz.prog w.drew=.ok olds.toArray w.drew)
  (hnil:base=none->n=0) (hnl:news.length=m*3) (hn:∀ j v,news[j]? = some v->w.cell? ⟨vb,voff+j,none⟩=some v) (h1:∀ v∈news,v.oneCell'=true) :
  Calls Tryz.prog 95 #[.slice base n cap,.int .i64 n,.slice (some ⟨vb,voff,none⟩) m vc] w λ ed w'=>
   ed=.returned (.slice (some ⟨w.heap.size,0,none⟩) (n+m) (grownCap w (n+m) cap 104))/\w'=w.drew.alloc (.cells ((olds++news).toArray++Builtin.zeroCells (.agg #[.int .i64 0,.slice none 0 0,.slice none 0 0]:Value).cells (grownCap w (n+m) cap 104-(n+m))) 104):=by
 have mixed:=kp;obtain ⟨i0,hi0,hz⟩:=n7.1 nJ;have hzz:i0.zero=some (.agg #[.int .i64 0,.slice none 0 0,.slice none 0 0]):=congrArg Prod.fst hz;have hzs:i0.size=3:=congrArg (λ x=>x.2.1) hz;have hzb:i0.bytes=56:=congrArg (λ x=>x.2.2) hz;have hz1:¬ ((m:Int)=0):=by omega
 have hsrc:Src Tryz.prog i0.size 102 (.slice (some ⟨vb,voff,none⟩) m vc) m news w:=by
  rw [hzs];exact Src.ofSlice w Tryz.underlying102 ⟨vb,voff,none⟩ m vc news O (λ j u hj=>by rw [Addr.add_lit]; exact hn j u hj) h1
 have hrun:∀ ty,(Builtin.append_ #[102,102] ty #[.slice base n cap,.slice (some ⟨vb,voff,none⟩) m vc]).run Tryz.prog w=_:=λ ty=>
  run_append_grow_src w 102 102 ty 104 i0 _ Tryz.underlying102 hi0 hzz base n cap olds (by rw [hzs]; exact hold) _ m news hsrc hroom O (by rw [hzb]; exact growslice_fits hroom hbig)
 clear hsrc hnl hn h1 hold hzz hzs hzb hz hi0 hbig
 go_enter Tryz.func95,Tryz.ntmps95
 cases base with
 | none=>
  have h0:=hnil rfl;subst h0
  go_wp2_with (at_builtin; refine Lib.wpList_append_run _ Z _ _ _ _ Z _ _ Z Z _ _ (hrun _) ?_)
  all_goals (go_ret; exact ⟨Z,Z⟩)
 | some a=>
  obtain ⟨ab,ao,asp⟩:=a
  go_wp2_with (at_builtin; refine Lib.wpList_append_run _ Z _ _ _ _ Z _ _ Z Z _ _ (hrun _) ?_)
  all_goals (go_ret; exact ⟨Z,Z⟩)
set_option maxRecDepth 100000 in
theorem wc (w:World)(b n cap i vb voff m vc:Nat)(c:Array Value)(e0:TypeId)(pre news mid:List Value)(hb:w.heap[b]? = some (.cells c e0 (0,0)))(hvw:vb<w.heap.size)(hi:i<n)(hm0:0<m)(hnc:n<=cap)(hroom:cap<n+m)(hbig:(n+m)*56<=140737488355328)
  (hnl:news.length=m*3) (hn:∀ j v,news[j]? = some v->w.cell? ⟨vb,voff+j,none⟩=some v) (h1:∀ v∈news,v.oneCell'=true) (hpl:pre.length=i*3) (hp:∀ (j:Nat) (v:Value),pre[j]? = some v->c[j]? = some v)
  (hml:mid.length=(n-i)*3) (hm:∀ (j:Nat) (v:Value),mid[j]? = some v->c[i*3+j]? = some v) (hm1:∀ v∈mid,v.oneCell'=true) (G0z:Nat) (hG:G0z=grownCap w (n+m) cap 104) (ROW c1 c2:Array Value)
  (hROW:ROW=pre.toArray++Builtin.zeroCells (.agg #[.int .i64 0,.slice none 0 0,.slice none 0 0]:Value).cells (n+m-i)++Builtin.zeroCells (.agg #[.int .i64 0,.slice none 0 0,.slice none 0 0]:Value).cells (G0z-(n+m))) (hRl:ROW.size=G0z*3)
  (hc1:c1=(ROW.toList.take (i*3)++news++ROW.toList.drop (i*3+news.length)).toArray) (hc2:c2=(c1.toList.take ((i+m)*3)++mid++c1.toList.drop ((i+m)*3+mid.length)).toArray) :
  Calls Tryz.prog 95 #[.slice (some ⟨b,0,none⟩) n cap,.int .i64 i,.slice (some ⟨vb,voff,none⟩) m vc] w λ ed w'=>
   ed=.returned (.slice (some ⟨w.heap.size,0,none⟩) (n+m) G0z)/\w'=(((w.alloc (.cells ROW 104)).drew.setRow w.heap.size c1).drew).setRow w.heap.size c2:=by
 have mixed:=kp;obtain ⟨i0,hi0,hz⟩:=n7.1 nJ;have hzz:i0.zero=some (.agg #[.int .i64 0,.slice none 0 0,.slice none 0 0]):=congrArg Prod.fst hz;have hzs:i0.size=3:=congrArg (λ x=>x.2.1) hz;have hzb:i0.bytes=56:=congrArg (λ x=>x.2.2) hz;have hinf:(Tryz.prog.info? 104).map (·.size)=some 3:=by kernel_rfl
 have hz1:¬ ((m:Int)=0):=by omega
 have hz2:¬ ((i:Int)=(n:Int)):=by omega
 have hz3:(cap:Int)<(n:Int)+(m:Int):=by omega
 have hbw:b<w.heap.size:=(Array.getElem?_eq_some_iff.1 hb).1;have hkk:(n:Int)+(m:Int)-(i:Int)=((n+m-i:Nat):Int):=by omega
 have BK:i+(n+m-i)=n+m:=by omega
 have hold:(Builtin.firstCells i0.size i (.slice (some ⟨b,0,none⟩) i cap)).run Tryz.prog w.drew=.ok pre.toArray w.drew:=by
  rw [hzs]
  exact run_firstCells_some w.drew 3 i ⟨b,0,none⟩ i cap pre O (λ j v hj=>by
   rw [Addr.add_lit,ro,World.cell?_drew]; simp only [World.cell?,hb]; exact hp j v hj)
 have hrz:∀ ty,(Builtin.append_ #[102,3] ty #[.slice (some ⟨b,0,none⟩) i cap,.int .i64 ((n:Int)+(m:Int)-(i:Int))]).run Tryz.prog w =
   .ok (.slice (some ⟨w.heap.size,0,none⟩) (n+m) G0z) (w.drew.alloc (.cells ROW 104)):=λ ty=>by
  have h:=Lib.run_append_grow_zeros w 102 3 ty 104 i0 _ .i64 .i64 Tryz.underlying102 Tryz.underlying3 hi0 hzz (some ⟨b,0,none⟩) i cap pre hold (n+m-i) O O O O  (by rw [hzb]; omega) (by rw [hzb,BK]; exact growslice_fits hroom hbig);rw [BK,<- hG,<- hROW] at h;rw [hkk];exact h
 have hGn:n+m<=G0z:=by rw [hG]; exact grownCap_ge w _ _ _
 have hG63:G0z<=9223372036854775807:=by
  have:=grownCap_le_maxLen w (n+m) cap 104 (by unfold maxLen; omega);rw [<- hG] at this;unfold maxLen at this;omega
 have hfit1:i*3+news.length<=ROW.size:=by rw [hRl,hnl]; omega
 have hs1:c1.size=ROW.size:=by rw [hc1]; exact cZ ROW _ news hfit1
 have hcpA:∀ (W:World),W.heap=(w.drew.alloc (.cells ROW 104)).heap->∀ ty dc,(Builtin.copy_ #[102,102] ty #[.slice (some ⟨w.heap.size,i*3,none⟩) (n+m-i) dc,.slice (some ⟨vb,voff,none⟩) m vc]).run Tryz.prog W=.ok (goInt (Nat.min m (n+m-i))) (W.setRow w.heap.size c1):=λ W hW ty dc=>by
  have hWb:W.heap[w.heap.size]? = some (.cells ROW 104 (0,0)):=by rw [hW]; exact bR (w:=w.drew)
  rw [hc1]
  exact eJ W _ _ ty _ w.heap.size (i*3) (n+m-i) dc ⟨vb,voff,none⟩ m vc 3 ROW 104 news Tryz.underlying102 hinf hWb (by rw [hnl]; simp only [Nat.min_def]; split <;> omega)
   (λ j v hj=>by
    rw [Addr.add_lit];have:=hn j v hj;simp only [World.cell?] at this ⊢;rw [hW,Lib.alloc_old w.drew _ vb hvw]
    exact this) hfit1 h1
 have hcpB:∀ (W:World),W.heap=((w.drew.alloc (.cells ROW 104)).setRow w.heap.size c1).heap->∀ ty dc sc,(Builtin.copy_ #[102,102] ty #[.slice (some ⟨w.heap.size,(i+m)*3,none⟩) (n+m-(i+m)) dc,.slice (some ⟨b,i*3,none⟩) (n-i) sc]).run Tryz.prog W=.ok (goInt (Nat.min (n-i) (n+m-(i+m)))) (W.setRow w.heap.size c2):=λ W hW ty dc sc=>by
  have hWb:W.heap[w.heap.size]? = some (.cells c1 104 (0,0)):=by rw [hW]; exact setRow_heap _ _ ROW c1 104 (0,0) (bR (w:=w.drew))
  rw [hc2]
  exact eJ W _ _ ty _ w.heap.size ((i+m)*3) (n+m-(i+m)) dc ⟨b,i*3,none⟩ (n-i) sc 3 c1 104 mid Tryz.underlying102 hinf hWb (by rw [hml]; simp only [Nat.min_def]; split <;> omega)
   (λ j v hj=>by
    rw [Addr.add_lit];simp only [World.cell?];rw [hW,setRow_other _ _ b c1 O,Lib.alloc_old w.drew _ b hbw];have:w.drew.heap[b]? = some (.cells c e0 (0,0)):=hb;rw [this]
    exact hm j v hj) (by rw [hs1,hRl,hml]; omega) hm1
 have hGi:¬ (G0z=i):=by omega
 have hGim:¬ (G0z=i+m):=by omega
 have hci:¬ (cap=i):=by omega
 have hw1:IntKind.i64.wrap ((i:Int)+(m:Int))=(i:Int)+(m:Int):=by rw [IntKind.wrap_i64]; omega
 have hb1:(0:Int)<=(i:Int)+(m:Int):=by omega
 have hin:i<=n:=by omega
 have htn:((i:Int)+(m:Int)).toNat=i+m:=by omega
 have hb3:(i:Int)<=(n:Int):=by omega
 have hE1:((w.alloc (.cells ROW 104)).drew).heap=(w.drew.alloc (.cells ROW 104)).heap:=rfl;have hF1:(((w.alloc (.cells ROW 104)).drew.setRow w.heap.size c1).drew).heap=((w.drew.alloc (.cells ROW 104)).setRow w.heap.size c1).heap:=rfl
 clear hkk BK hold hROW hG hRl hc1 hc2 hfit1 hs1 hml hm hm1 hnl hn h1 hpl hp hb hinf hzz hzs hzb hz hi0 hbig
 go_enter Tryz.func95,Tryz.ntmps95
 go_wp2_with (first
  | (at_builtin; refine Lib.wpList_append_run _ Z _ _ _ _ Z _ _ Z Z _ _ (hrz _) ?_)
  | (at_builtin; refine wpList_copy_runI _ Z _ _ 102 102 Z _ _ Z Z (hcpA _ hE1 _ _) ?_)
  | (at_builtin; refine wpList_copy_runI _ Z _ _ 102 102 Z _ _ Z Z (hcpB _ Z _ _ _) ?_))
 go_region_law_o (refine step_copy_runI Z _ _ 102 102 Z (.slice (some ⟨w.heap.size,(i+m)*3,none⟩) (n+m-(i+m)) (G0z-(i+m))) (.slice (some ⟨b,i*3,none⟩) (n-i) (cap-i)) (by simp [Act.eval,Act.put]) (by simp [Act.eval,Act.put]) (hcpB _ hF1 3 (G0z-(i+m)) (cap-i)) ?_)
 go_wp2
 go_ret
 exact ⟨Z,Z⟩
theorem xd:uZ Tryz.prog 95 104 3 56 where
 room:=by
  intro w b n cap i vb voff vc c e0 news cA tA fA hb BD hi hroom hn63 hvb hnl hn h1 BB hA;rcases Nat.lt_or_ge i n with hlt|hge
  ·have hA0:cA.size≠0:=by
    have:0<news.length:=by omega
    have:=hn 0 _ (List.getElem?_eq_getElem this);simp only [World.cell?,hA] at this;intro h0;rw [Array.getElem?_eq_none O] at this
    cases this
   obtain ⟨mid,hmid⟩:∃ mid,mid=(c.toList.drop (i*3)).take ((n-i)*3):=⟨_,rfl⟩
   have hml:mid.length=(n-i)*3:=by
    rw [hmid,sm,List.length_drop,th]; omega
   have hm:∀ (j:Nat) (v:Value),mid[j]? = some v->c[i*3+j]? = some v:=by
    intro j v hj;have hjl:j<(n-i)*3:=by have:=(List.getElem?_eq_some_iff.1 hj).1; omega
    rw [hmid,List.getElem?_take,if_pos hjl,List.getElem?_drop] at hj;simpa using hj
   have hm1:∀ v∈mid,v.oneCell'=true:=by
    intro v hv;obtain ⟨j,hj⟩:=List.mem_iff_getElem?.1 hv;have hjl:j<(n-i)*3:=by have:=(List.getElem?_eq_some_iff.1 hj).1; omega
    exact BB (i*3+j) v O (hm j v hj)
   refine (uC w b n cap i vb voff 1 vc c e0 news mid cA tA fA hb BD hlt (by decide) hroom O hvb O hn h1 hml hm hm1 hA hA0 _ _ rfl rfl).mono ?_;rintro ed w' ⟨rfl,rfl⟩;have hfit:(i+1)*3+mid.length<=c.size:=by omega
   have hs1:=cZ c ((i+1)*3) mid hfit;have hfit2:=Nat.le_of_eq hs1.symm;refine ⟨Z,_,rx hb _,setRow_size _ _ _,(cZ _ (i*3) news O).trans hs1,?_⟩;refine pY (s:=3) (mid:=mid) O hnl O hm (λ j=>?_) (λ j=>ge _ _ news O j);have:=ge c ((i+1)*3) mid hfit j;rw [show (i+1)*3=i*3+3 by omega] at this ⊢;exact this
  ·obtain rfl:i=n:=by omega
   refine (qU w b i cap vb voff 1 vc c e0 news hb BD (by decide) hroom O hn h1 _ rfl).mono ?_;rintro ed w' ⟨rfl,rfl⟩;refine ⟨rfl,_,s8 hb _,setRow_size _ _ _,cZ c _ news O,?_⟩;exact tc (λ j=>ge c _ news O j)
 grow:=by
  intro w base n cap i vb voff vc c news hbase hi hncap hroom hbig hnl hn h1 BB
  have hvw:vb<w.heap.size:=by
   have:0<news.length:=by omega
   exact block_lt_of_cell (hn 0 _ (List.getElem?_eq_getElem this))
  have hgn:=grownCap_ge w (n+1) cap 104;rcases Nat.lt_or_ge i n with hlt|hge
  ·obtain ⟨b,e0,rfl,hb,BD⟩:∃ b e0,base=some ⟨b,0,none⟩/\w.heap[b]? = some (.cells c e0 (0,0))/\c.size=cap*3:=by
    rcases hbase with h|h
    ·omega
    ·exact h
   obtain ⟨mid,hmid⟩:∃ mid,mid=(c.toList.drop (i*3)).take ((n-i)*3):=⟨_,rfl⟩
   have hml:mid.length=(n-i)*3:=by
    rw [hmid,sm,List.length_drop,th]; omega
   have hm:∀ (j:Nat) (v:Value),mid[j]? = some v->c[i*3+j]? = some v:=by
    intro j v hj;have hjl:j<(n-i)*3:=by have:=(List.getElem?_eq_some_iff.1 hj).1; omega
    rw [hmid,List.getElem?_take,if_pos hjl,List.getElem?_drop] at hj;simpa using hj
   have hm1:∀ v∈mid,v.oneCell'=true:=by
    intro v hv;obtain ⟨j,hj⟩:=List.mem_iff_getElem?.1 hv;have hjl:j<(n-i)*3:=by have:=(List.getElem?_eq_some_iff.1 hj).1; omega
    exact BB (i*3+j) v O (hm j v hj)
   obtain ⟨pre,hpre⟩:∃ pre,pre=c.toList.take (i*3):=⟨_,rfl⟩
   have hpl:pre.length=i*3:=by
    rw [hpre,sm,th]; omega
   have hp:∀ (j:Nat) (v:Value),pre[j]? = some v->c[j]? = some v:=by
    intro j v hj;have hjl:j<i*3:=by have:=(List.getElem?_eq_some_iff.1 hj).1; omega
    rw [hpre,List.getElem?_take,if_pos hjl] at hj;simpa using hj
   obtain ⟨G0z,hG⟩:∃ G0z,G0z=grownCap w (n+1) cap 104:=⟨_,rfl⟩
   rw [<- hG] at hgn;obtain ⟨ROW,hROW⟩:∃ ROW:Array Value,ROW=pre.toArray++Builtin.zeroCells (.agg #[.int .i64 0,.slice none 0 0,.slice none 0 0]:Value).cells (n+1-i)++Builtin.zeroCells (.agg #[.int .i64 0,.slice none 0 0,.slice none 0 0]:Value).cells (G0z-(n+1)):=⟨_,rfl⟩
   have hzc:(.agg #[.int .i64 0,.slice none 0 0,.slice none 0 0]:Value).cells.size=3:=by kernel_rfl
   have hRl:ROW.size=G0z*3:=by
    rw [hROW];simp only [Array.size_append,List.size_toArray,hpl,size_zeroCells,hzc];omega
   refine (wc w b n cap i vb voff 1 vc c e0 pre news mid hb hvw hlt (by decide) hncap hroom hbig O hn h1 hpl hp hml hm hm1 G0z hG ROW _ _ hROW hRl rfl rfl).mono ?_;rintro ed w' ⟨rfl,rfl⟩;have hfit1:i*3+news.length<=ROW.size:=by omega
   have hs1:=cZ ROW (i*3) news hfit1;have hfit2:(i+1)*3+mid.length<=ROW.size:=by omega
   refine ⟨G0z,_,Z,oU w ROW 104 _ _,hgn,((cZ _ ((i+1)*3) mid O).trans hs1).trans hRl,?_⟩;refine rL (s:=3) (mid:=mid) (ROW:=ROW) O hnl O hm (λ j hj=>?_) (λ j=>ge ROW _ news hfit1 j) (λ j=>?_)
   ·have hj':j<pre.length:=by omega
    rw [hROW,Array.append_assoc,Array.getElem?_append,if_pos (by simpa using hj'),List.getElem?_toArray,List.getElem?_eq_getElem hj',hp j _ (List.getElem?_eq_getElem hj')]
   ·have:=ge (ROW.toList.take (i*3)++news++ROW.toList.drop (i*3+news.length)).toArray ((i+1)*3) mid (by rw [hs1]; exact hfit2) j;rw [show (i+1)*3=i*3+3 by omega] at this ⊢;exact this
  ·obtain rfl:i=n:=by omega
   obtain ⟨olds,hol,hold,hoc⟩:∃ olds:List Value,olds.length=i*3/\(Builtin.firstCells 3 i (.slice base i cap)).run Tryz.prog w.drew=.ok olds.toArray w.drew/\(∀ j,j<i*3->olds[j]? = c[j]?):=by
    rcases hbase with ⟨rfl,rfl⟩|⟨b,e0,rfl,hb,BD⟩
    ·refine ⟨[],Z,?_,λ j hj=>by omega⟩
     cases base with
     | none=>exact run_firstCells_none w.drew 3 0 0 0
     | some a=>exact run_firstCells_some w.drew 3 0 a 0 0 [] Z (λ j v hj=>by simp at hj)
    ·have hl:(c.toList.take (i*3)).length=i*3:=by rw [sm,th]; omega
     refine ⟨c.toList.take (i*3),hl,run_firstCells_some w.drew 3 i ⟨b,0,none⟩ i cap _ O (λ j v hj=>?_),λ j hj=>by rw [List.getElem?_take,if_pos hj]; simp⟩;have hjl:j<i*3:=by have:=(List.getElem?_eq_some_iff.1 hj).1; omega
     rw [List.getElem?_take,if_pos hjl] at hj;rw [Addr.add_lit,ro,World.cell?_drew]; simp only [World.cell?,hb]; simpa using hj
   have hnil:base=none->i=0:=by
    rintro rfl;rcases hbase with ⟨h,_⟩|⟨b,e0,h,_⟩
    ·exact h
    ·cases h
   refine (qV w base i cap vb voff 1 vc olds news (by decide) hncap hroom hbig hold hnil O hn h1).mono ?_;rintro ed w' ⟨rfl,rfl⟩;obtain ⟨G0z,hG⟩:∃ G0z,G0z=grownCap w (i+1) cap 104:=⟨_,rfl⟩
   rw [<- hG] at hgn ⊢;have hzc:(.agg #[.int .i64 0,.slice none 0 0,.slice none 0 0]:Value).cells.size=3:=by kernel_rfl
   refine ⟨G0z,_,Z,oO w _ 104,hgn,?_,?_,?_,λ j h3 h4=>by omega⟩
   ·simp only [Array.size_append,List.size_toArray,cl,hol,hnl,size_zeroCells,hzc]; omega
   ·intro j hj;rw [Array.getElem?_append,if_pos (by simp only [List.size_toArray,cl]; omega),List.getElem?_toArray,List.getElem?_append,if_pos O];exact hoc j hj
   ·intro j hj;rw [Array.getElem?_append,if_pos (by simp only [List.size_toArray,cl]; omega),List.getElem?_toArray,List.getElem?_append,if_neg O];congr 1; omega
def cL (Bt:List ak)(Bz:Int)(v_2:List ak):Option (List ak) :=ck ((0:Int)<=Bz/\Bz<=(Bt.length:Int))<|ck (v_2.length=1)<|ck ((Bt.length+1)*56<=140737488355328)<|some (jZ Bt Bz.toNat (v_2.headD default))
theorem ia (Bt:List ak)(Bz:Int)(v_2:List ak)(r:List ak)(h0:cL Bt Bz v_2=some r):cR Tryz.prog 95 [.stk 900000 3 (Bt.map aA),.p (eI Bz),.p (eL aA v_2)] [] (λ x y=>x=.stk 2000000 3 (r.map aA)/\y=[]):=by
 unfold cL at h0;obtain ⟨Eu,h1⟩:=ig h0;obtain ⟨Fa,h2⟩:=ig h1;obtain ⟨E8,h3⟩:=ig h2
 cases h3
 obtain ⟨z,rfl⟩:∃ z,v_2=[z]:=by
  match v_2,Fa with
  | [z],_=>exact ⟨z,Z⟩
 obtain ⟨i,rfl⟩:∃ i:Nat,Bz=i:=⟨Bz.toNat,by omega⟩
 have hi:i<=(Bt.map aA).length:=by rw [bx]; omega
 have h:=pB xd (by decide) (Bt.map aA) i (aA z) hi (by rw [bx]; omega) (by rw [bx]; omega) ((congrArg List.length (ak.AD z)).trans (by cases z with|mk=>rfl));rw [sS] at h;exact h
theorem oh:(Tryz.prog.info? 9).map (λ i=>(i.zero,i.size,i.bytes))=some (some (.string ⟨#[]⟩),1,16):=by kernel_rfl
set_option maxRecDepth 100000 in
theorem qB (w:World)(b n cap vb voff m vc:Nat)(c:Array Value)(e0:TypeId)(news:List Value)(hb:w.heap[b]? = some (.cells c e0 (0,0)))(BD:c.size=cap)(hm0:0<m)(hroom:n+m<=cap)
  (hnl:news.length=m) (hn:∀ j v,news[j]? = some v->w.cell? ⟨vb,voff+j,none⟩=some v) (h1:∀ v∈news,v.oneCell'=true) (c':Array Value) (hc':c'=(c.toList.take (n)++news++c.toList.drop (n+news.length)).toArray) :
  Calls Tryz.prog 94 #[.slice (some ⟨b,0,none⟩) n cap,.int .i64 n,.slice (some ⟨vb,voff,none⟩) m vc] w λ ed w'=>
   ed=.returned (.slice (some ⟨b,0,none⟩) (n+m) cap)/\w'=w.setRow b c':=by
 have mixed:=kp;obtain ⟨i0,hi0,hz⟩:=n7.1 oh;have hzs:i0.size=1:=congrArg (λ x=>x.2.1) hz;have hz1:¬ ((m:Int)=0):=by omega
 have hsrc:Src Tryz.prog i0.size 29 (.slice (some ⟨vb,voff,none⟩) m vc) m news w:=by
  rw [hzs];exact Src.ofSlice w Tryz.underlying29 ⟨vb,voff,none⟩ m vc news O (λ j u hj=>by rw [Addr.add_lit]; exact hn j u hj) h1
 have hstc:=run_storeCells_at Tryz.prog b (n) e0 news 0 c w hb (by simp only [Nat.add_zero]; omega) h1;simp only [Nat.add_zero] at hstc;rw [<- hc'] at hstc
 have hrun:∀ ty,(Builtin.append_ #[29,29] ty #[.slice (some ⟨b,0,none⟩) n cap,.slice (some ⟨vb,voff,none⟩) m vc]).run Tryz.prog w=.ok (.slice (some ⟨b,0,none⟩) (n+m) cap) _:=λ ty=>
  fE _ _ ty _ i0 Tryz.underlying29 hi0 b n cap _ m news hsrc hroom (by rw [hzs]; first|exact hstc|(rw [Nat.mul_one]; exact hstc))
 clear hc' hstc hsrc hnl hn h1 hb BD
 go_enter Tryz.func94,Tryz.ntmps94
 go_wp2_with (at_builtin; refine Lib.wpList_append_run _ Z _ _ _ _ Z _ _ Z Z _ _ (hrun _) ?_)
 go_ret
 exact ⟨Z,Z⟩
set_option maxRecDepth 100000 in
theorem uj (w:World)(b n cap i vb voff m vc:Nat)(c:Array Value)(e0:TypeId)(news mid:List Value)(cA:Array Value)(tA:TypeId)(fA:Nat×Nat)(hb:w.heap[b]? = some (.cells c e0 (0,0)))(BD:c.size=cap)(hi:i<n)(hm0:0<m)(hroom:n+m<=cap)(hn63:n+m<=9223372036854775807)(hvb:vb≠b)
  (hnl:news.length=m) (hn:∀ j v,news[j]? = some v->w.cell? ⟨vb,voff+j,none⟩=some v) (h1:∀ v∈news,v.oneCell'=true) (hml:mid.length=(n-i)) (hm:∀ (j:Nat) (v:Value),mid[j]? = some v->c[i+j]? = some v) (hm1:∀ v∈mid,v.oneCell'=true)
  (hA:w.heap[vb]? = some (.cells cA tA fA)) (hA0:cA.size≠0)
  (c1 c2:Array Value) (hc1:c1=(c.toList.take ((i+m))++mid++c.toList.drop ((i+m)+mid.length)).toArray) (hc2:c2=(c1.toList.take (i)++news++c1.toList.drop (i+news.length)).toArray) :
  Calls Tryz.prog 94 #[.slice (some ⟨b,0,none⟩) n cap,.int .i64 i,.slice (some ⟨vb,voff,none⟩) m vc] w λ ed w'=>
   ed=.returned (.slice (some ⟨b,0,none⟩) (n+m) cap)/\w'=w.drew.setRow b c2:=by
 have mixed:=kp;have hinf:(Tryz.prog.info? 9).map (·.size)=some 1:=by kernel_rfl
 have hz1:¬ ((m:Int)=0):=by omega
 have hz2:¬ ((i:Int)=(n:Int)):=by omega
 have hfit:(i+m)+mid.length<=c.size:=by omega
 have hs1:c1.size=c.size:=by rw [hc1]; exact cZ c _ mid hfit
 have hov:∀ lb cb,(callFunc 122 #[.slice (some ⟨vb,voff,none⟩) m vc,.slice (some ⟨b,(i+m),none⟩) lb cb]).run Tryz.prog w=.ok (.value (.bool false)) w:=λ lb cb=>by
  rw [run_callFunc_extern Tryz.func122 (by kernel_rfl) (by kernel_rfl) (by kernel_rfl) (e:=Extern.SlicesOverlaps.overlaps #[29,29] #[4]) (by kernel_rfl),
   j4 w 29 4 9 Tryz.underlying29 1 (λ w=>by kernel_rfl) ⟨vb,voff,none⟩ ⟨b,(i+m),none⟩ m vc lb cb hvb hA hb hA0]
  rfl
 have hcp1:∀ ty dc sc,(Builtin.copy_ #[29,29] ty #[.slice (some ⟨b,(i+m),none⟩) (n+m-(i+m)) dc,.slice (some ⟨b,i,none⟩) (n+m-i) sc]).run Tryz.prog w.drew=.ok (goInt (Nat.min (n+m-i) (n+m-(i+m)))) (w.drew.setRow b c1):=λ ty dc sc=>by
  rw [hc1]
  exact eJ w.drew _ _ ty _ b ((i+m)) (n+m-(i+m)) dc ⟨b,i,none⟩ (n+m-i) sc 1 c e0 mid Tryz.underlying29 hinf hb (by rw [hml]; simp only [Nat.min_def]; split <;> omega)
   (λ j v hj=>by rw [Addr.add_lit]; rw [World.cell?_drew]; simp only [World.cell?,hb]; exact hm j v hj) hfit hm1
 have hcp2:∀ (W:World),W.heap=(w.drew.setRow b c1).heap->∀ ty dc,(Builtin.copy_ #[29,29] ty #[.slice (some ⟨b,i,none⟩) (n+m-i) dc,.slice (some ⟨vb,voff,none⟩) m vc]).run Tryz.prog W=.ok (goInt (Nat.min m (n+m-i))) (W.setRow b c2):=λ W hW ty dc=>by
  have hWb:W.heap[b]? = some (.cells c1 e0 (0,0)):=by rw [hW]; exact setRow_heap w.drew b c c1 e0 (0,0) hb
  rw [hc2]
  exact eJ W _ _ ty _ b (i) (n+m-i) dc ⟨vb,voff,none⟩ m vc 1 c1 e0 news Tryz.underlying29 hinf hWb (by rw [hnl]; simp only [Nat.min_def]; split <;> omega)
   (λ j v hj=>by
    rw [Addr.add_lit];have:=hn j v hj;simp only [World.cell?] at this ⊢;rw [hW,setRow_other w.drew b vb c1 hvb]
    exact this) O h1
 have hw1:IntKind.i64.wrap ((i:Int)+(m:Int))=(i:Int)+(m:Int):=by rw [IntKind.wrap_i64]; omega
 have hb1:(0:Int)<=(i:Int)+(m:Int):=by omega
 have hin:i<=n:=by omega
 have htn:((i:Int)+(m:Int)).toNat=i+m:=by omega
 have hb2:¬ (cap=i+m):=by omega
 have hb3:(i:Int)<=(n:Int)+(m:Int):=by omega
 have hb4:¬ (cap=i):=by omega
 clear BD hfit hs1 hml hm hm1 hnl hn h1 hc1 hc2 hinf hA hA0 hb
 go_enter Tryz.func94,Tryz.ntmps94
 go_wp2_with (simp only [hov])
 go_region_law_o (refine step_copy_runI Z _ _ 29 29 Z _ _ (by simp [Act.eval,Act.put]) (by simp [Act.eval,Act.put]) (hcp1 _ _ _) ?_)
 go_wp2_with (at_builtin; refine wpList_copy_runI _ Z _ _ 29 29 Z _ _ Z Z (hcp2 _ Z _ _) ?_)
 go_ret
 exact ⟨Z,by rw [setRow_setRow]⟩
set_option maxRecDepth 100000 in
theorem qG (w:World)(base:Option Addr)(n cap vb voff m vc:Nat)(olds news:List Value)(hm0:0<m)(hnc:n<=cap)(hroom:cap<n+m)(hbig:(n+m)*16<=140737488355328)(hold:(Builtin.firstCells 1 n (.slice base n cap)).run Tryz.prog w.drew=.ok olds.toArray w.drew)
  (hnil:base=none->n=0) (hnl:news.length=m) (hn:∀ j v,news[j]? = some v->w.cell? ⟨vb,voff+j,none⟩=some v) (h1:∀ v∈news,v.oneCell'=true) :
  Calls Tryz.prog 94 #[.slice base n cap,.int .i64 n,.slice (some ⟨vb,voff,none⟩) m vc] w λ ed w'=>
   ed=.returned (.slice (some ⟨w.heap.size,0,none⟩) (n+m) (grownCap w (n+m) cap 9))/\w'=w.drew.alloc (.cells ((olds++news).toArray++Builtin.zeroCells (.string ⟨#[]⟩:Value).cells (grownCap w (n+m) cap 9-(n+m))) 9):=by
 have mixed:=kp;obtain ⟨i0,hi0,hz⟩:=n7.1 oh;have hzz:i0.zero=some (.string ⟨#[]⟩):=congrArg Prod.fst hz;have hzs:i0.size=1:=congrArg (λ x=>x.2.1) hz;have hzb:i0.bytes=16:=congrArg (λ x=>x.2.2) hz;have hz1:¬ ((m:Int)=0):=by omega
 have hsrc:Src Tryz.prog i0.size 29 (.slice (some ⟨vb,voff,none⟩) m vc) m news w:=by
  rw [hzs];exact Src.ofSlice w Tryz.underlying29 ⟨vb,voff,none⟩ m vc news O (λ j u hj=>by rw [Addr.add_lit]; exact hn j u hj) h1
 have hrun:∀ ty,(Builtin.append_ #[29,29] ty #[.slice base n cap,.slice (some ⟨vb,voff,none⟩) m vc]).run Tryz.prog w=_:=λ ty=>
  run_append_grow_src w 29 29 ty 9 i0 _ Tryz.underlying29 hi0 hzz base n cap olds (by rw [hzs]; exact hold) _ m news hsrc hroom O (by rw [hzb]; exact growslice_fits hroom hbig)
 clear hsrc hnl hn h1 hold hzz hzs hzb hz hi0 hbig
 go_enter Tryz.func94,Tryz.ntmps94
 cases base with
 | none=>
  have h0:=hnil rfl;subst h0
  go_wp2_with (at_builtin; refine Lib.wpList_append_run _ Z _ _ _ _ Z _ _ Z Z _ _ (hrun _) ?_)
  all_goals (go_ret; exact ⟨Z,Z⟩)
 | some a=>
  obtain ⟨ab,ao,asp⟩:=a
  go_wp2_with (at_builtin; refine Lib.wpList_append_run _ Z _ _ _ _ Z _ _ Z Z _ _ (hrun _) ?_)
  all_goals (go_ret; exact ⟨Z,Z⟩)
set_option maxRecDepth 100000 in
theorem wC (w:World)(b n cap i vb voff m vc:Nat)(c:Array Value)(e0:TypeId)(pre news mid:List Value)(hb:w.heap[b]? = some (.cells c e0 (0,0)))(hvw:vb<w.heap.size)(hi:i<n)(hm0:0<m)(hnc:n<=cap)(hroom:cap<n+m)(hbig:(n+m)*16<=140737488355328)
  (hnl:news.length=m) (hn:∀ j v,news[j]? = some v->w.cell? ⟨vb,voff+j,none⟩=some v) (h1:∀ v∈news,v.oneCell'=true) (hpl:pre.length=i) (hp:∀ (j:Nat) (v:Value),pre[j]? = some v->c[j]? = some v)
  (hml:mid.length=(n-i)) (hm:∀ (j:Nat) (v:Value),mid[j]? = some v->c[i+j]? = some v) (hm1:∀ v∈mid,v.oneCell'=true) (G0z:Nat) (hG:G0z=grownCap w (n+m) cap 9) (ROW c1 c2:Array Value)
  (hROW:ROW=pre.toArray++Builtin.zeroCells (.string ⟨#[]⟩:Value).cells (n+m-i)++Builtin.zeroCells (.string ⟨#[]⟩:Value).cells (G0z-(n+m))) (hRl:ROW.size=G0z)
  (hc1:c1=(ROW.toList.take (i)++news++ROW.toList.drop (i+news.length)).toArray) (hc2:c2=(c1.toList.take ((i+m))++mid++c1.toList.drop ((i+m)+mid.length)).toArray) :
  Calls Tryz.prog 94 #[.slice (some ⟨b,0,none⟩) n cap,.int .i64 i,.slice (some ⟨vb,voff,none⟩) m vc] w λ ed w'=>
   ed=.returned (.slice (some ⟨w.heap.size,0,none⟩) (n+m) G0z)/\w'=(((w.alloc (.cells ROW 9)).drew.setRow w.heap.size c1).drew).setRow w.heap.size c2:=by
 have mixed:=kp;obtain ⟨i0,hi0,hz⟩:=n7.1 oh;have hzz:i0.zero=some (.string ⟨#[]⟩):=congrArg Prod.fst hz;have hzs:i0.size=1:=congrArg (λ x=>x.2.1) hz;have hzb:i0.bytes=16:=congrArg (λ x=>x.2.2) hz;have hinf:(Tryz.prog.info? 9).map (·.size)=some 1:=by kernel_rfl
 have hz1:¬ ((m:Int)=0):=by omega
 have hz2:¬ ((i:Int)=(n:Int)):=by omega
 have hz3:(cap:Int)<(n:Int)+(m:Int):=by omega
 have hbw:b<w.heap.size:=(Array.getElem?_eq_some_iff.1 hb).1;have hkk:(n:Int)+(m:Int)-(i:Int)=((n+m-i:Nat):Int):=by omega
 have BK:i+(n+m-i)=n+m:=by omega
 have hold:(Builtin.firstCells i0.size i (.slice (some ⟨b,0,none⟩) i cap)).run Tryz.prog w.drew=.ok pre.toArray w.drew:=by
  rw [hzs]
  exact run_firstCells_some w.drew 1 i ⟨b,0,none⟩ i cap pre O (λ j v hj=>by
   rw [Addr.add_lit,ro,World.cell?_drew]; simp only [World.cell?,hb]; exact hp j v hj)
 have hrz:∀ ty,(Builtin.append_ #[29,3] ty #[.slice (some ⟨b,0,none⟩) i cap,.int .i64 ((n:Int)+(m:Int)-(i:Int))]).run Tryz.prog w =
   .ok (.slice (some ⟨w.heap.size,0,none⟩) (n+m) G0z) (w.drew.alloc (.cells ROW 9)):=λ ty=>by
  have h:=Lib.run_append_grow_zeros w 29 3 ty 9 i0 _ .i64 .i64 Tryz.underlying29 Tryz.underlying3 hi0 hzz (some ⟨b,0,none⟩) i cap pre hold (n+m-i) O O O O  (by rw [hzb]; omega) (by rw [hzb,BK]; exact growslice_fits hroom hbig);rw [BK,<- hG,<- hROW] at h;rw [hkk];exact h
 have hGn:n+m<=G0z:=by rw [hG]; exact grownCap_ge w _ _ _
 have hG63:G0z<=9223372036854775807:=by
  have:=grownCap_le_maxLen w (n+m) cap 9 (by unfold maxLen; omega);rw [<- hG] at this;unfold maxLen at this;omega
 have hfit1:i+news.length<=ROW.size:=by rw [hRl,hnl]; omega
 have hs1:c1.size=ROW.size:=by rw [hc1]; exact cZ ROW _ news hfit1
 have hcpA:∀ (W:World),W.heap=(w.drew.alloc (.cells ROW 9)).heap->∀ ty dc,(Builtin.copy_ #[29,29] ty #[.slice (some ⟨w.heap.size,i,none⟩) (n+m-i) dc,.slice (some ⟨vb,voff,none⟩) m vc]).run Tryz.prog W=.ok (goInt (Nat.min m (n+m-i))) (W.setRow w.heap.size c1):=λ W hW ty dc=>by
  have hWb:W.heap[w.heap.size]? = some (.cells ROW 9 (0,0)):=by rw [hW]; exact bR (w:=w.drew)
  rw [hc1]
  exact eJ W _ _ ty _ w.heap.size (i) (n+m-i) dc ⟨vb,voff,none⟩ m vc 1 ROW 9 news Tryz.underlying29 hinf hWb (by rw [hnl]; simp only [Nat.min_def]; split <;> omega)
   (λ j v hj=>by
    rw [Addr.add_lit];have:=hn j v hj;simp only [World.cell?] at this ⊢;rw [hW,Lib.alloc_old w.drew _ vb hvw]
    exact this) hfit1 h1
 have hcpB:∀ (W:World),W.heap=((w.drew.alloc (.cells ROW 9)).setRow w.heap.size c1).heap->∀ ty dc sc,(Builtin.copy_ #[29,29] ty #[.slice (some ⟨w.heap.size,(i+m),none⟩) (n+m-(i+m)) dc,.slice (some ⟨b,i,none⟩) (n-i) sc]).run Tryz.prog W=.ok (goInt (Nat.min (n-i) (n+m-(i+m)))) (W.setRow w.heap.size c2):=λ W hW ty dc sc=>by
  have hWb:W.heap[w.heap.size]? = some (.cells c1 9 (0,0)):=by rw [hW]; exact setRow_heap _ _ ROW c1 9 (0,0) (bR (w:=w.drew))
  rw [hc2]
  exact eJ W _ _ ty _ w.heap.size ((i+m)) (n+m-(i+m)) dc ⟨b,i,none⟩ (n-i) sc 1 c1 9 mid Tryz.underlying29 hinf hWb (by rw [hml]; simp only [Nat.min_def]; split <;> omega)
   (λ j v hj=>by
    rw [Addr.add_lit];simp only [World.cell?];rw [hW,setRow_other _ _ b c1 O,Lib.alloc_old w.drew _ b hbw];have:w.drew.heap[b]? = some (.cells c e0 (0,0)):=hb;rw [this]
    exact hm j v hj) (by rw [hs1,hRl,hml]; omega) hm1
 have hGi:¬ (G0z=i):=by omega
 have hGim:¬ (G0z=i+m):=by omega
 have hci:¬ (cap=i):=by omega
 have hw1:IntKind.i64.wrap ((i:Int)+(m:Int))=(i:Int)+(m:Int):=by rw [IntKind.wrap_i64]; omega
 have hb1:(0:Int)<=(i:Int)+(m:Int):=by omega
 have hin:i<=n:=by omega
 have htn:((i:Int)+(m:Int)).toNat=i+m:=by omega
 have hb3:(i:Int)<=(n:Int):=by omega
 have hE1:((w.alloc (.cells ROW 9)).drew).heap=(w.drew.alloc (.cells ROW 9)).heap:=rfl;have hF1:(((w.alloc (.cells ROW 9)).drew.setRow w.heap.size c1).drew).heap=((w.drew.alloc (.cells ROW 9)).setRow w.heap.size c1).heap:=rfl
 clear hkk BK hold hROW hG hRl hc1 hc2 hfit1 hs1 hml hm hm1 hnl hn h1 hpl hp hb hinf hzz hzs hzb hz hi0 hbig
 go_enter Tryz.func94,Tryz.ntmps94
 go_wp2_with (first
  | (at_builtin; refine Lib.wpList_append_run _ Z _ _ _ _ Z _ _ Z Z _ _ (hrz _) ?_)
  | (at_builtin; refine wpList_copy_runI _ Z _ _ 29 29 Z _ _ Z Z (hcpA _ hE1 _ _) ?_)
  | (at_builtin; refine wpList_copy_runI _ Z _ _ 29 29 Z _ _ Z Z (hcpB _ Z _ _ _) ?_))
 go_region_law_o (refine step_copy_runI Z _ _ 29 29 Z (.slice (some ⟨w.heap.size,(i+m),none⟩) (n+m-(i+m)) (G0z-(i+m))) (.slice (some ⟨b,i,none⟩) (n-i) (cap-i)) (by simp [Act.eval,Act.put]) (by simp [Act.eval,Act.put]) (hcpB _ hF1 3 (G0z-(i+m)) (cap-i)) ?_)
 go_wp2
 go_ret
 exact ⟨Z,Z⟩
theorem yh:uZ Tryz.prog 94 9 1 16 where
 room:=by
  intro w b n cap i vb voff vc c e0 news cA tA fA hb BD hi hroom hn63 hvb hnl hn h1 BB hA;simp only [Nat.mul_one] at *;rcases Nat.lt_or_ge i n with hlt|hge
  ·have hA0:cA.size≠0:=by
    have:0<news.length:=by omega
    have:=hn 0 _ (List.getElem?_eq_getElem this);simp only [World.cell?,hA] at this;intro h0;rw [Array.getElem?_eq_none O] at this
    cases this
   obtain ⟨mid,hmid⟩:∃ mid,mid=(c.toList.drop (i)).take ((n-i)):=⟨_,rfl⟩
   have hml:mid.length=(n-i):=by
    rw [hmid,sm,List.length_drop,th]; omega
   have hm:∀ (j:Nat) (v:Value),mid[j]? = some v->c[i+j]? = some v:=by
    intro j v hj;have hjl:j<(n-i):=by have:=(List.getElem?_eq_some_iff.1 hj).1; omega
    rw [hmid,List.getElem?_take,if_pos hjl,List.getElem?_drop] at hj;simpa using hj
   have hm1:∀ v∈mid,v.oneCell'=true:=by
    intro v hv;obtain ⟨j,hj⟩:=List.mem_iff_getElem?.1 hv;have hjl:j<(n-i):=by have:=(List.getElem?_eq_some_iff.1 hj).1; omega
    exact BB (i+j) v O (hm j v hj)
   refine (uj w b n cap i vb voff 1 vc c e0 news mid cA tA fA hb BD hlt (by decide) hroom O hvb O hn h1 hml hm hm1 hA hA0 _ _ rfl rfl).mono ?_;rintro ed w' ⟨rfl,rfl⟩;have hfit:(i+1)+mid.length<=c.size:=by omega
   have hs1:=cZ c ((i+1)) mid hfit;have hfit2:=Nat.le_of_eq hs1.symm;refine ⟨Z,_,rx hb _,setRow_size _ _ _,(cZ _ (i) news O).trans hs1,?_⟩;refine pY (s:=1) (mid:=mid) O hnl O hm (λ j=>?_) (λ j=>ge _ _ news O j);have:=ge c ((i+1)) mid hfit j;exact this
  ·obtain rfl:i=n:=by omega
   refine (qB w b i cap vb voff 1 vc c e0 news hb BD (by decide) hroom O hn h1 _ rfl).mono ?_;rintro ed w' ⟨rfl,rfl⟩;refine ⟨rfl,_,s8 hb _,setRow_size _ _ _,cZ c _ news O,?_⟩;exact tc (λ j=>ge c _ news O j)
 grow:=by
  intro w base n cap i vb voff vc c news hbase hi hncap hroom hbig hnl hn h1 BB;simp only [Nat.mul_one] at *
  have hvw:vb<w.heap.size:=by
   have:0<news.length:=by omega
   exact block_lt_of_cell (hn 0 _ (List.getElem?_eq_getElem this))
  have hgn:=grownCap_ge w (n+1) cap 9;rcases Nat.lt_or_ge i n with hlt|hge
  ·obtain ⟨b,e0,rfl,hb,BD⟩:∃ b e0,base=some ⟨b,0,none⟩/\w.heap[b]? = some (.cells c e0 (0,0))/\c.size=cap:=by
    rcases hbase with h|h
    ·omega
    ·exact h
   obtain ⟨mid,hmid⟩:∃ mid,mid=(c.toList.drop (i)).take ((n-i)):=⟨_,rfl⟩
   have hml:mid.length=(n-i):=by
    rw [hmid,sm,List.length_drop,th]; omega
   have hm:∀ (j:Nat) (v:Value),mid[j]? = some v->c[i+j]? = some v:=by
    intro j v hj;have hjl:j<(n-i):=by have:=(List.getElem?_eq_some_iff.1 hj).1; omega
    rw [hmid,List.getElem?_take,if_pos hjl,List.getElem?_drop] at hj;simpa using hj
   have hm1:∀ v∈mid,v.oneCell'=true:=by
    intro v hv;obtain ⟨j,hj⟩:=List.mem_iff_getElem?.1 hv;have hjl:j<(n-i):=by have:=(List.getElem?_eq_some_iff.1 hj).1; omega
    exact BB (i+j) v O (hm j v hj)
   obtain ⟨pre,hpre⟩:∃ pre,pre=c.toList.take (i):=⟨_,rfl⟩
   have hpl:pre.length=i:=by
    rw [hpre,sm,th]; omega
   have hp:∀ (j:Nat) (v:Value),pre[j]? = some v->c[j]? = some v:=by
    intro j v hj;have hjl:j<i:=by have:=(List.getElem?_eq_some_iff.1 hj).1; omega
    rw [hpre,List.getElem?_take,if_pos hjl] at hj;simpa using hj
   obtain ⟨G0z,hG⟩:∃ G0z,G0z=grownCap w (n+1) cap 9:=⟨_,rfl⟩
   rw [<- hG] at hgn;obtain ⟨ROW,hROW⟩:∃ ROW:Array Value,ROW=pre.toArray++Builtin.zeroCells (.string ⟨#[]⟩:Value).cells (n+1-i)++Builtin.zeroCells (.string ⟨#[]⟩:Value).cells (G0z-(n+1)):=⟨_,rfl⟩
   have hzc:(.string ⟨#[]⟩:Value).cells.size=1:=by kernel_rfl
   have hRl:ROW.size=G0z:=by
    rw [hROW];simp only [Array.size_append,List.size_toArray,hpl,size_zeroCells,hzc];omega
   refine (wC w b n cap i vb voff 1 vc c e0 pre news mid hb hvw hlt (by decide) hncap hroom hbig O hn h1 hpl hp hml hm hm1 G0z hG ROW _ _ hROW hRl rfl rfl).mono ?_;rintro ed w' ⟨rfl,rfl⟩;have hfit1:i+news.length<=ROW.size:=by omega
   have hs1:=cZ ROW (i) news hfit1;have hfit2:(i+1)+mid.length<=ROW.size:=by omega
   refine ⟨G0z,_,Z,oU w ROW 9 _ _,hgn,((cZ _ ((i+1)) mid O).trans hs1).trans hRl,?_⟩;refine rL (s:=1) (mid:=mid) (ROW:=ROW) O hnl O hm (λ j hj=>?_) (λ j=>ge ROW _ news hfit1 j) (λ j=>?_)
   ·have hj':j<pre.length:=by omega
    rw [hROW,Array.append_assoc,Array.getElem?_append,if_pos (by simpa using hj'),List.getElem?_toArray,List.getElem?_eq_getElem hj',hp j _ (List.getElem?_eq_getElem hj')]
   ·have:=ge (ROW.toList.take (i)++news++ROW.toList.drop (i+news.length)).toArray ((i+1)) mid (by rw [hs1]; exact hfit2) j;exact this
  ·obtain rfl:i=n:=by omega
   obtain ⟨olds,hol,hold,hoc⟩:∃ olds:List Value,olds.length=i/\(Builtin.firstCells 1 i (.slice base i cap)).run Tryz.prog w.drew=.ok olds.toArray w.drew/\(∀ j,j<i->olds[j]? = c[j]?):=by
    rcases hbase with ⟨rfl,rfl⟩|⟨b,e0,rfl,hb,BD⟩
    ·refine ⟨[],Z,?_,λ j hj=>by omega⟩
     cases base with
     | none=>exact run_firstCells_none w.drew 1 0 0 0
     | some a=>exact run_firstCells_some w.drew 1 0 a 0 0 [] Z (λ j v hj=>by simp at hj)
    ·have hl:(c.toList.take (i)).length=i:=by rw [sm,th]; omega
     refine ⟨c.toList.take (i),hl,run_firstCells_some w.drew 1 i ⟨b,0,none⟩ i cap _ O (λ j v hj=>?_),λ j hj=>by rw [List.getElem?_take,if_pos hj]; simp⟩;have hjl:j<i:=by have:=(List.getElem?_eq_some_iff.1 hj).1; omega
     rw [List.getElem?_take,if_pos hjl] at hj;rw [Addr.add_lit,ro,World.cell?_drew]; simp only [World.cell?,hb]; simpa using hj
   have hnil:base=none->i=0:=by
    rintro rfl;rcases hbase with ⟨h,_⟩|⟨b,e0,h,_⟩
    ·exact h
    ·cases h
   refine (qG w base i cap vb voff 1 vc olds news (by decide) hncap hroom hbig hold hnil O hn h1).mono ?_;rintro ed w' ⟨rfl,rfl⟩;obtain ⟨G0z,hG⟩:∃ G0z,G0z=grownCap w (i+1) cap 9:=⟨_,rfl⟩
   rw [<- hG] at hgn ⊢;have hzc:(.string ⟨#[]⟩:Value).cells.size=1:=by kernel_rfl
   refine ⟨G0z,_,Z,oO w _ 9,hgn,?_,?_,?_,λ j h3 h4=>by omega⟩
   ·simp only [Array.size_append,List.size_toArray,cl,hol,hnl,size_zeroCells,hzc]; omega
   ·intro j hj;rw [Array.getElem?_append,if_pos (by simp only [List.size_toArray,cl]; omega),List.getElem?_toArray,List.getElem?_append,if_pos O];exact hoc j hj
   ·intro j hj;rw [Array.getElem?_append,if_pos (by simp only [List.size_toArray,cl]; omega),List.getElem?_toArray,List.getElem?_append,if_neg O];congr 1; omega
def dz (Bt:List Bk)(Bz:Int)(v_2:List Bk):Option (List Bk) :=ck ((0:Int)<=Bz/\Bz<=(Bt.length:Int))<|ck (v_2.length=1)<|ck ((Bt.length+1)*16<=140737488355328)<|some (jZ Bt Bz.toNat (v_2.headD default))
theorem jl (Bt:List Bk)(Bz:Int)(v_2:List Bk)(r:List Bk)(h0:dz Bt Bz v_2=some r):cR Tryz.prog 94 [.stk 900000 1 (Bt.map eS),.p (eI Bz),.p (eL eS v_2)] [] (λ x y=>x=.stk 2000000 1 (r.map eS)/\y=[]):=by
 unfold dz at h0;obtain ⟨Eu,h1⟩:=ig h0;obtain ⟨Fa,h2⟩:=ig h1;obtain ⟨E8,h3⟩:=ig h2
 cases h3
 obtain ⟨z,rfl⟩:∃ z,v_2=[z]:=by
  match v_2,Fa with
  | [z],_=>exact ⟨z,Z⟩
 obtain ⟨i,rfl⟩:∃ i:Nat,Bz=i:=⟨Bz.toNat,by omega⟩
 have hi:i<=(Bt.map eS).length:=by rw [bx]; omega
 have h:=pB yh (by decide) (Bt.map eS) i (eS z) hi (by rw [bx]; omega) (by rw [bx]; omega) (rfl);rw [sS] at h;exact h
end Go.Ab
end
section
namespace Go.Ab.R06
open Go.Proofs Go.Ab Go.Ab.RB
attribute [local irreducible] awp iE bA aC cR AV.sub M dx
def d6 (Bt:Bk):Nat->Int->(List UInt8)->Option (List UInt8)|0,_,_=>none|m+1,t37,DK=>if t37<(Bt.length:Int) then ck ((0:Int)<=t37/\t37<(Bt.length:Int))<|(if byt Bt t37=10 then(aU (aG.mk DK) ([92,110]:Bk)).bind λ r42=>some r42.2.2.AK else if byt Bt t37=13 then(aU (aG.mk DK) ([92,114]:Bk)).bind λ r45=>some r45.2.2.AK else if byt Bt t37=9 then(aU (aG.mk DK) ([92,116]:Bk)).bind λ r48=>some r48.2.2.AK else(if byt Bt t37=34 then some true else some (decide (byt Bt t37=92)) : Option Bool).bind λ t51=>if t51=true then(bH (aG.mk DK) 92).bind λ r53=>(bH (aG.mk r53.2.AK) (byt Bt t37)).bind λ r55=>some r55.2.AK else(if byt Bt t37<32 then some true else some (decide (byt Bt t37=127)) : Option Bool).bind λ t58=>if t58=true then ck (inR (byt Bt t37))<|(gp (byt Bt t37) 16).bind λ Ha=>ck (([92,117,123]:Bk).length+Ha.length<=9223372036854775807)<|ck ((([92,117,123]:Bk)++Ha).length+([125]:Bk).length<=9223372036854775807)<|(aU (aG.mk DK) ((([92,117,123]:Bk)++Ha)++([125]:Bk))).bind λ r65=>some r65.2.2.AK else(bH (aG.mk DK) (byt Bt t37)).bind λ r67=>some r67.2.AK : Option (List UInt8)).bind λ CV=>ck (inR (t37+1))<|d6 Bt m (t37+1) CV else some DK
def gP (n:Nat)(Bt:Bk):Option Bk :=(bH (aG.mk []) 34).bind λ r1=>(d6 Bt n 0 r1.2.AK).bind λ Ca=>(bH (aG.mk Ca) 34).bind λ r74=>(dN (aG.mk r74.2.AK)).bind λ r76=>some r76.1
theorem lu (n:Nat)(Bt:Bk)(r:Bk)(h0:gP n Bt=some r):aC Tryz.prog 140 [eS Bt] (·=.p (eS r)):=by
 unfold gP at h0;refine aT good Tryz.func140 Z Z Z λ w0=>mP (λ v:Bk=>.p (eS v)) ?_;refine nx 6 Z (mO Z (rm Z Z Z Z Z Z Z ?_));refine nx 3 Z (bd h0 λ r1 e2 h0=>?_);refine mO Z (bJ [3] [890000] 101000 101001 (cz (aG.mk []) 34 _ e2) Z Z Z Z Z ⟨sr,sr,trivial⟩ Z Z ⟨⟨_,Z,⟨sr,AV.sub_nilvec _ _ _,trivial⟩⟩,trivial⟩ Z Z Z Z Z Z Z Z Tryz.call170 Z Z ?_);refine nx 5 Z (oLs Z ?_);refine nx 3 Z (bd h0 λ Hp h1 h0=>?_);refine kE 0 Hp (λ v83=>⟨[(3,.ptr 3 0)],[(3,[.bptr 140 2 3,.vec 108000 1 (5+1) (v83.map eU)])]⟩) ?_ ?_
 ·refine nx 3 Z (bd h0 λ r74 e75 h0=>?_);refine mO Z (bJ [3] [108000] 116000 116001 (cz (aG.mk Hp) 34 _ e75) Z Z Z Z Z ⟨sr,sr,trivial⟩ Z Z ⟨⟨_,Z,⟨sr,sr,trivial⟩⟩,trivial⟩ Z Z Z Z Z Z Z Z Tryz.call170 Z Z ?_);refine nx 3 Z (bd h0 λ r76 e77 h0=>?_);refine mO Z (bJ [3] [116000] 117000 117000 (gU (aG.mk r74.2.AK) _ e77) Z Z Z Z Z ⟨sr,trivial⟩ Z Z ⟨⟨_,Z,⟨sr,sr,trivial⟩⟩,trivial⟩ Z Z Z Z Z Z Z Z Tryz.call78 Z Z ?_);exact nx 3 Z (mQ (oi h0) Z (sr))
 refine lG (λ (Hc:Int×(List UInt8))=>⟨[(0,.p (eS Bt)),(3,.ptr 3 0),(8,.p (eI (Bt.length:Int))),(9,.p (eI Hc.1))],[(3,[.bptr 140 2 3,.vec 108000 1 (5+1) (Hc.2.map eU)])]⟩) (λ m (Hc:Int×(List UInt8))=>d6 Bt m Hc.1 Hc.2) Y (0,r1.2.AK) h1 (a8 (bz 101000 108000 rfl rfl rfl rfl rfl) (gE rfl rfl)) ?_;rintro m ⟨t37,DK⟩ h1;replace h1:d6 Bt (m+1) t37 DK=some Hp:=h1;rw [d6] at h1;refine nx 5 rfl (fD [10] h1 rfl (λ c39 h1=>?_) λ c39 h1=>?_)
 ·refine nx 13 Z (oI h1 Z λ E4 h1=>?_);refine nx 2 Z (bd h1 λ o85 h2 h1=>?_);refine kN o85 (λ v86=>⟨[(0,.p (eS Bt)),(3,.ptr 3 0),(8,.p (eI (Bt.length:Int))),(9,.p (eI t37))],[(3,[.bptr 140 2 3,.vec 115000 1 (5+1) (v86.map eU)])]⟩) ?_ ?_
  ·refine nx 2 Z (oA h1 Z Z λ HM h1=>?_);exact nx 2 Z (eX (t37+1,o85) h1 (a8 (bz 115000 108000 Z Z Z Z Z) (gE Z Z)))
  refine nx 7 Z (fD [17,19] h2 Z (λ c41 h2=>?_) λ c41 h2=>?_)
  ·refine nx 2 Z (bd h2 λ r42 e43 h2=>?_);refine mO Z (bJ [3] [108000] 109000 109001 (bs (aG.mk DK) ([92,110]:Bk) _ e43) Z Z Z Z Z ⟨sr,sr,trivial⟩ Z Z ⟨⟨_,Z,⟨sr,sr,trivial⟩⟩,trivial⟩ Z Z Z Z Z Z Z Z Tryz.call77 Z Z ?_);exact nx 1 Z (eX _ (oi h2).symm (a8 (bz 109000 115000 Z Z Z Z Z) (gE Z Z)))
  refine nx 7 Z (fD [21,23] h2 Z (λ c44 h2=>?_) λ c44 h2=>?_)
  ·refine nx 2 Z (bd h2 λ r45 e46 h2=>?_);refine mO Z (bJ [3] [108000] 110000 110001 (bs (aG.mk DK) ([92,114]:Bk) _ e46) Z Z Z Z Z ⟨sr,sr,trivial⟩ Z Z ⟨⟨_,Z,⟨sr,sr,trivial⟩⟩,trivial⟩ Z Z Z Z Z Z Z Z Tryz.call77 Z Z ?_);exact nx 1 Z (eX _ (oi h2).symm (a8 (bz 110000 115000 Z Z Z Z Z) (gE Z Z)))
  refine nx 7 Z (fD [25,27] h2 Z (λ c47 h2=>?_) λ c47 h2=>?_)
  ·refine nx 2 Z (bd h2 λ r48 e49 h2=>?_);refine mO Z (bJ [3] [108000] 111000 111001 (bs (aG.mk DK) ([92,116]:Bk) _ e49) Z Z Z Z Z ⟨sr,sr,trivial⟩ Z Z ⟨⟨_,Z,⟨sr,sr,trivial⟩⟩,trivial⟩ Z Z Z Z Z Z Z Z Tryz.call77 Z Z ?_);exact nx 1 Z (eX _ (oi h2).symm (a8 (bz 111000 115000 Z Z Z Z Z) (gE Z Z)))
  refine nx 2 Z (bd h2 λ Ho h3 h2=>?_);refine kN Ho (λ v88=>⟨[(0,.p (eS Bt)),(3,.ptr 3 0),(5,.p (eK .u8 (byt Bt t37))),(8,.p (eI (Bt.length:Int))),(9,.p (eI t37)),(29,.p (eB v88))],[(3,[.bptr 140 2 3,.vec 108000 1 (5+1) (DK.map eU)])]⟩) ?_ ?_
  ·refine nx 1 Z (fB [29] h2 Z (λ c52 h2=>?_) λ c52 h2=>?_)
   ·refine nx 3 Z (bd h2 λ r53 e54 h2=>?_);refine mO Z (bJ [3] [108000] 112000 112001 (cz (aG.mk DK) 92 _ e54) Z Z Z Z Z ⟨sr,sr,trivial⟩ Z Z ⟨⟨_,Z,⟨sr,sr,trivial⟩⟩,trivial⟩ Z Z Z Z Z Z Z Z Tryz.call170 Z Z ?_);refine nx 3 Z (bd h2 λ r55 e56 h2=>?_);refine mO Z (bJ [3] [112000] 113000 113001 (cz (aG.mk r53.2.AK) (byt Bt t37) _ e56) Z Z Z Z Z ⟨sr,sr,trivial⟩ Z Z ⟨⟨_,Z,⟨sr,sr,trivial⟩⟩,trivial⟩ Z Z Z Z Z Z Z Z Tryz.call170 Z Z ?_);exact nx 1 Z (eX _ (oi h2).symm (a8 (bz 113000 115000 Z Z Z Z Z) (gE Z Z)))
   refine nx 2 Z (bd h2 λ o89 h3 h2=>?_);refine kN o89 (λ v90=>⟨[(0,.p (eS Bt)),(3,.ptr 3 0),(5,.p (eK .u8 (byt Bt t37))),(8,.p (eI (Bt.length:Int))),(9,.p (eI t37)),(39,.p (eB v90))],[(3,[.bptr 140 2 3,.vec 108000 1 (5+1) (DK.map eU)])]⟩) ?_ ?_
   ·refine nx 1 Z (fB [39] h2 Z (λ c59 h2=>?_) λ c59 h2=>?_)
    ·refine nx 3 Z (cc' h2 λ hk60 h2=>?_);refine mO Z (eC Z Z Z Z Z Z Z Z (hQ hk60) ?_);refine bd h2 λ Ha e62 h2=>oK (l4 (byt Bt t37) 16 _ e62) Z ⟨sr,sr,trivial⟩ Tryz.call171 Z (oC h2 Z λ HQ h2=>?_);refine oC h2 Z λ HP h2=>bd h2 λ r65 e66 h2=>mO Z (bJ [3] [108000] 114000 114001 (bs (aG.mk DK) ((([92,117,123]:Bk)++Ha)++([125]:Bk)) _ e66) Z Z Z Z Z ⟨sr,sr,trivial⟩ Z Z ⟨⟨_,Z,⟨sr,sr,trivial⟩⟩,trivial⟩ Z Z Z Z Z Z Z Z Tryz.call77 Z Z ?_);exact nx 1 Z (eX _ (oi h2).symm (a8 (bz 114000 115000 Z Z Z Z Z) (gE Z Z)))
    refine nx 3 Z (bd h2 λ r67 e68 h2=>?_);refine mO Z (bJ [3] [108000] 115000 115001 (cz (aG.mk DK) (byt Bt t37) _ e68) Z Z Z Z Z ⟨sr,sr,trivial⟩ Z Z ⟨⟨_,Z,⟨sr,sr,trivial⟩⟩,trivial⟩ Z Z Z Z Z Z Z Z Tryz.call170 Z Z ?_);exact nx 1 Z (eX _ (oi h2).symm (gE Z Z))
   refine nx 4 Z (fD [41,42] h3 Z (λ c57 h3=>?_) λ c57 h3=>?_)
   ·exact nx 5 Z (eX _ (oi h3).symm (gE Z Z))
   exact nx 5 Z (eX _ (oi h3).symm (gE Z Z))
  refine nx 4 Z (fD [31,32] h3 Z (λ c50 h3=>?_) λ c50 h3=>?_)
  ·exact nx 5 Z (eX _ (oi h3).symm (gE Z Z))
  exact nx 5 Z (eX _ (oi h3).symm (gE Z Z))
 exact nx 2 Z (eXi _ (oi h1).symm (gE Z Z))
def jp (EX:Int):Option Bk :=(strconv_Itoa EX).bind λ r1=>some r1
theorem nI (EX:Int)(r:Bk)(h0:jp EX=some r):aC Tryz.prog 155 [eI EX] (·=.p (eS r)):=by
 unfold jp at h0;refine aT good Tryz.func155 Z Z Z λ w0=>mP (λ v:Bk=>.p (eS v)) ?_;refine nx 7 Z (bd h0 λ r1 e2 h0=>?_);refine oK (fY EX _ e2) Z ⟨sr,trivial⟩ Tryz.call47 Z (nx 3 Z ?_);exact mQ (oi h0) Z (sr)
end Go.Ab.R06
end
section
namespace Go.Ab.R06
open Go.Ab Go.Ab.RB
section
variable {α β:Type} {P:α->Prop}
theorem az {g:Nat->Nat->Option β}{k:Nat->Nat->β->Option α}(x:β)(h:Ev2 g (·=x))(hk:Ev2 (λ n m=>k n m x) P):Ev2 (λ n m=>(g n m).bind (k n m)) P :=
 aM (·=x) h λ y hy=>by subst hy; exact hk
end
def mI (p:Nat->Bool):Nat->Nat->Bool|_,0=>true|i,k+1=>p i&&mI p (i+1) k
theorem eqB {a b:Bool}(h:a=true↔b=true):a=b:=Bool.eq_iff_iff.2 h
end Go.Ab.R06
namespace Go.Ab.R06
open Go.Ab Go.Ab.RB Go.Lib
end Go.Ab.R06
namespace Go.Ab.R06
open Go.Ab Go.Ab.RB Go.Lib
theorem t63:(List.range 256).all (λ n=>fg .u8 (n:Int) 63==((n%64:Nat):Int))=true:=by kernel_rfl
theorem tab {f g:Nat->Int}{m:Nat}(h:(List.range m).all (λ n=>f n==g n)=true)(n:Nat)(hn:n<m):f n=g n:=eq_of_beq (List.all_eq_true.1 h n (List.mem_range.2 hn))
def xy (r:Int):Prop:=(0<=r/\r<55296)\/(57343<r/\r<=1114111)
theorem bY (l:Bk)(h:l≠[]):decodeGo (str l)=decodeL l:=by
 unfold decodeGo;rw [if_neg]
 ·rfl
 ·rw [kK]; intro q; exact h (List.length_eq_zero_iff.1 q)
theorem wh (l:Bk)(h:l≠[]):1<=(decodeL l).2/\(decodeL l).2<=l.length/\(¬ ((decodeL l).1=65533/\(decodeL l).2=1)->xy ((decodeL l).1:Int)/\encodeRune ((decodeL l).1:Int)=l.take (decodeL l).2):=by
 have hl:0<l.length:=List.length_pos_iff.2 h;have hd:=decN l.length (l.getD 0 0).toNat (l.getD 1 0).toNat (l.getD 2 0).toNat (l.getD 3 0).toNat O (UInt8.toNat_lt _);rw [<- decodeL_N] at hd;refine ⟨hd.1,hd.2.1,λ q=>⟨?_,encode_decode l h q⟩⟩;have:=hd.2.2.2.2.2;unfold xy; omega
theorem ui (l:Bk)(h:l≠[]):validD l=true↔¬ ((decodeL l).1=65533/\(decodeL l).2=1)/\validD (l.drop (decodeL l).2)=true:=by
 rw [validD_step l h];by_cases q:(decodeL l).1=65533/\(decodeL l).2=1
 ·simp [q]
 ·simp [q]
end Go.Ab.R06
namespace Go.Ab.R06
open Go.Ab Go.Ab.RB Go.Lib
theorem rS (f x:Bk)(h:f.length+x.length<=100000000000):aU (aG.mk f) x=some ((x.length:Int),false,aG.mk (f++x)):=by
 unfold aU cV;rw [Option.bind_some,en (by simp only; omega)]
theorem sU (f:Bk)(b:UInt8)(h:f.length<=100000000000):bH (aG.mk f) (b.toNat:Int)=some (false,aG.mk (f++[b])):=by
 have:=b.toNat_lt;unfold bH cV;rw [Option.bind_some,en O,en (by simp; omega),zW]
theorem bstr (f:Bk)(h:f.length<=1000000000000):dN (aG.mk f)=some (f,aG.mk f):=by
 unfold dN;rw [en (by simp only; omega)]
def kr (b:UInt8):Bk :=if b.toNat=10 then [92,110] else if b.toNat=13 then [92,114] else if b.toNat=9 then [92,116] else if b.toNat=34\/b.toNat=92 then [92,b] else if b.toNat<32\/b.toNat=127 then [92,117,123]++gt b.toNat++[125] else [b]
def nU (s:Bk):Bk:=34::(s.flatMap kr++[34])
theorem Af {b:UInt8}(h:b.toNat=10):kr b=[92,110]:=by unfold kr; rw [if_pos h]
theorem z7 {b:UInt8}(h:b.toNat=13):kr b=[92,114]:=by unfold kr; rw [if_neg O,if_pos h]
theorem zZ {b:UInt8}(h:b.toNat=9):kr b=[92,116]:=by unfold kr; rw [if_neg O,if_neg O,if_pos h]
theorem Am {b:UInt8}(h:b.toNat=34\/b.toNat=92):kr b=[92,b]:=by unfold kr; rw [if_neg O,if_neg O,if_neg O,if_pos h]
theorem Aa {b:UInt8}(h1:b.toNat≠10)(h2:b.toNat≠13)(h3:b.toNat≠9)(h:b.toNat<32\/b.toNat=127):kr b=[92,117,123]++gt b.toNat++[125]:=by
 unfold kr; rw [if_neg h1,if_neg h2,if_neg h3,if_neg O,if_pos h]
theorem Ak {b:UInt8}(h1:b.toNat≠34)(h2:b.toNat≠92)(h:¬ (b.toNat<32\/b.toNat=127)):kr b=[b]:=by
 unfold kr; rw [if_neg O,if_neg O,if_neg O,if_neg O,if_neg h]
theorem oR (n:Nat):1<=(gt n).length/\(gt n).length<=2:=by
 unfold gt; split <;> simp
theorem tb (b:UInt8):1<=(kr b).length/\(kr b).length<=6:=by
 have:=oR b.toNat;unfold kr
 repeat' split
 all_goals (simp; try omega)
theorem ti (s:Bk):s.length<=(s.flatMap kr).length/\(s.flatMap kr).length<=6*s.length:=by
 induction s with
 | nil=>simp
 | cons b r ih=>have:=tb b; simp only [List.flatMap_cons,cl,n8]; omega
theorem w8 (s:Bk)(hs:s.length<=1000000000):∀ (k i:Nat) (f:Bk),i+k=s.length->f.length<=6*i+1->Ev2 (λ _ m=>d6 s m (i:Int) f) (·=f++(s.drop i).flatMap kr):=by
 intro k
 induction k with
 | zero=>
  intro i f hi hf;refine bQ ?_;simp only [d6];refine bb O (ac ?_);rw [List.drop_of_length_le O]; simp
 | succ k ih=>
  intro i f hi hf;refine bQ ?_;simp only [d6];refine bo O (av O ?_);have hb:byt s i=((s.getD i 0).toNat:Int):=pr s i;rw [hb]
  have hd:s.drop i=s.getD i 0::s.drop (i+1):=by
   rw [List.getD_eq_getElem?_getD,List.getElem?_eq_getElem O,rg];exact List.drop_eq_getElem_cons O
  rw [hd,List.flatMap_cons];generalize s.getD i 0=b;have hbl:=b.toNat_lt;have he:=tb b;refine az (f++kr b) ?_ ?_
  ·refine ar (λ h1=>?_) (λ h1=>ar (λ h2=>?_) (λ h2=>ar (λ h3=>?_) (λ h3=>?_)))
   ·rw [Af O];exact az _ (dd (rS f [92,110] (by simp only [n8,qr]; omega)) rfl) (ac rfl)
   ·rw [z7 O];exact az _ (dd (rS f [92,114] (by simp only [n8,qr]; omega)) rfl) (ac rfl)
   ·rw [zZ O];exact az _ (dd (rS f [92,116] (by simp only [n8,qr]; omega)) rfl) (ac rfl)
   refine az (decide (b.toNat=34\/b.toNat=92)) ?_ ?_
   ·by_cases h:b.toNat=34
    ·exact bo O (ac (by simp [h]))
    ·exact bb O (ac (eqB (by rw [decide_eq_true_eq,decide_eq_true_eq]; omega)))
   by_cases h4:b.toNat=34\/b.toNat=92
   ·rw [Am h4];refine bo (by simp [h4]) ?_;refine az _ (dd (sU f 92 O) rfl) (az _ (dd (sU (f++[92]) b (by simp only [cl,n8,qr]; omega)) rfl) (ac ?_));simp
   refine bb (by simp only [decide_eq_true_eq]; exact h4) ?_;refine az (decide (b.toNat<32\/b.toNat=127)) ?_ ?_
   ·by_cases h:b.toNat<32
    ·exact bo O (ac (by simp [h]))
    ·exact bb O (ac (eqB (by rw [decide_eq_true_eq,decide_eq_true_eq]; omega)))
   by_cases h5:b.toNat<32\/b.toNat=127
   ·rw [Aa O O O h5];refine bo (by simp [h5]) (av (aZ O O) ?_)
    have hx:gp (b.toNat:Int) 16=some (gt b.toNat):=by
     unfold gp;rw [en ⟨Z,by omega,by omega⟩]; rfl
    have hxl:=oR b.toNat;refine az _ (dd hx Z) (av (by simp only [n8,qr]; omega) (av (by simp only [cl,n8,qr]; omega) ?_));exact az _ (dd (rS f _ (by simp only [cl,n8,qr]; omega)) Z) (ac G)
   ·rw [Ak O O  h5];refine bb (by simp only [decide_eq_true_eq]; exact h5) ?_;exact az _ (dd (sU f b O) rfl) (ac rfl)
  ·refine av (aZ O O) ?_;have:=ih (i+1) (f++kr b) O (by rw [cl]; omega);rw [Int.natCast_add,Int.natCast_one] at this;simpa using this
theorem sW (s:Bk)(hs:s.length<=1000000000):Ev2 (λ n _=>gP n s) (·=nU s):=by
 simp only [gP];have hf:=ti s;refine az _ (dd (sU [] 34 G) rfl) ?_;have l:=w8 s hs s.length 0 [34] O G;rw [List.drop_zero] at l;refine az _ (bM l) ?_;refine az _ (dd (sU _ 34 (by simp only [cl,n8,qr]; omega)) rfl) (az _ (dd (bstr _ (by simp only [cl,n8,qr]; omega)) rfl) (ac ?_));simp [nU]
end Go.Ab.R06
namespace Go.Ab.R06
open Go.Ab Go.Ab.RB Go.Lib
end Go.Ab.R06
namespace Go.Ab.R06
open Go.Ab Go.Ab.RB Go.Lib
def badR (c:Nat×Nat):Prop:=(c.1=65533/\c.2=1)\/c.1<32\/c.1=127
instance (c:Nat×Nat):Decidable (badR c):=inferInstanceAs (Decidable (_\/_))
theorem u9:∀ (k u:Nat),u<10^(k+1)->(decDigits u).length<=k+1:=by
 intro k
 induction k with
 | zero=>intro u h; rw [decDigits,dif_pos (by simpa using h)]; simp
 | succ k ih=>
  intro u h;rw [decDigits];split
  ·simp
  ·have:=ih (u / 10) (by rw [Nat.pow_succ] at h; omega);rw [cl]; simp; omega
end Go.Ab.R06
end
section
namespace Go.Ab.R06
open Go.Proofs Go.Ab Go.Ab.RB
attribute [local irreducible] awp iE bA aC cR AV.sub M dx
def dY (Bt:Bk)(Bz:Int)(lo_2:Int)(hi_3:Int):Option Bool :=(if Bz<(Bt.length:Int) then ck ((0:Int)<=Bz/\Bz<(Bt.length:Int))<|if lo_2<=byt Bt Bz then ck ((0:Int)<=Bz/\Bz<(Bt.length:Int))<|some (decide (byt Bt Bz<=hi_3))else some false else some false : Option Bool).bind λ t5=>some t5
theorem gj (Bt:Bk)(Bz:Int)(lo_2:Int)(hi_3:Int)(r:Bool)(h0:dY Bt Bz lo_2 hi_3=some r):aC Tryz.prog 198 [eS Bt,eI Bz,eK .u8 lo_2,eK .u8 hi_3] (·=.p (eB r)):=by
 unfold dY at h0;refine aT good Tryz.func198 Z Z Z λ w0=>mP (λ v:Bool=>.p (eB v)) ?_;refine nx 5 Z (bd h0 λ o7 h1 h0=>?_);refine kN o7 (λ v8=>⟨[(8,.p (eB v8))],[]⟩) ?_ ?_
 ·exact nx 2 Z (mQ (oi h0) Z (sr))
 refine nx 3 Z (oLs Z ?_);refine nx 2 Z (fD [12,13] h1 Z (λ c1 h1=>?_) λ c1 h1=>?_)
 ·refine nx 2 Z (oI h1 Z λ Fa h1=>?_);refine nx 4 Z (fD [18,19,20] h1 Z (λ c3 h1=>?_) λ c3 h1=>?_)
  ·refine nx 2 Z (oI h1 Z λ FG h1=>?_);exact nx 5 Z (eX _ (oi h1).symm (gE Z Z))
  exact nx 8 Z (eX _ (oi h1).symm (gE Z Z))
 exact nx 15 Z (eX _ (oi h1).symm (gE Z Z))
def iN (Bt:Bk)(Bz:Int):Option (Int×Int) :=(if Bz<0 then some true else some (decide ((Bt.length:Int)<=Bz)) : Option Bool).bind λ t2=>if t2=true then some (0,0)else ck ((0:Int)<=Bz/\Bz<(Bt.length:Int))<|if byt Bt Bz<128 then ck (inR (byt Bt Bz))<|some (byt Bt Bz,1)else(if 194<=byt Bt Bz then if byt Bt Bz<=223 then ck (inR (Bz+1))<|(dY Bt (Bz+1) 128 191).bind λ C1=>some C1 else some false else some false : Option Bool).bind λ t12=>if t12=true then ck (inR (fg .u8 (byt Bt Bz) 31))<|ck ((0:Int)<=6)<|ck (inR (Bz+1))<|ck ((0:Int)<=Bz+1/\Bz+1<(Bt.length:Int))<|ck (inR (fg .u8 (byt Bt (Bz+1)) 63))<|some (iOr .i64 (iD .i64 (fg .u8 (byt Bt Bz) 31) 6) (fg .u8 (byt Bt (Bz+1)) 63),2)else(if byt Bt Bz=224 then some 160 else some 128 : Option Int).bind λ lo20=>(if byt Bt Bz=237 then some 159 else some 191 : Option Int).bind λ hi22=>(if 224<=byt Bt Bz then if byt Bt Bz<=239 then ck (inR (Bz+1))<|(dY Bt (Bz+1) lo20 hi22).bind λ BZ=>if BZ=true then ck (inR (Bz+2))<|(dY Bt (Bz+2) 128 191).bind λ F'=>some F' else some false else some false else some false : Option Bool).bind λ t32=>if t32=true then ck (inR (fg .u8 (byt Bt Bz) 15))<|ck ((0:Int)<=12)<|ck (inR (Bz+1))<|ck ((0:Int)<=Bz+1/\Bz+1<(Bt.length:Int))<|ck (inR (fg .u8 (byt Bt (Bz+1)) 63))<|ck ((0:Int)<=6)<|ck (inR (Bz+2))<|ck ((0:Int)<=Bz+2/\Bz+2<(Bt.length:Int))<|ck (inR (fg .u8 (byt Bt (Bz+2)) 63))<|some (iOr .i64 (iOr .i64 (iD .i64 (fg .u8 (byt Bt Bz) 15) 12) (iD .i64 (fg .u8 (byt Bt (Bz+1)) 63) 6)) (fg .u8 (byt Bt (Bz+2)) 63),3)else(if byt Bt Bz=240 then some 144 else some 128 : Option Int).bind λ lo44=>(if byt Bt Bz=244 then some 143 else some 191 : Option Int).bind λ hi46=>(if 240<=byt Bt Bz then if byt Bt Bz<=244 then ck (inR (Bz+1))<|(dY Bt (Bz+1) lo44 hi46).bind λ r50=>if r50=true then ck (inR (Bz+2))<|(dY Bt (Bz+2) 128 191).bind λ r54=>if r54=true then ck (inR (Bz+3))<|(dY Bt (Bz+3) 128 191).bind λ BW=>some BW else some false else some false else some false else some false : Option Bool).bind λ t60=>if t60=true then ck (inR (fg .u8 (byt Bt Bz) 7))<|ck ((0:Int)<=18)<|ck (inR (Bz+1))<|ck ((0:Int)<=Bz+1/\Bz+1<(Bt.length:Int))<|ck (inR (fg .u8 (byt Bt (Bz+1)) 63))<|ck ((0:Int)<=12)<|ck (inR (Bz+2))<|ck ((0:Int)<=Bz+2/\Bz+2<(Bt.length:Int))<|ck (inR (fg .u8 (byt Bt (Bz+2)) 63))<|ck ((0:Int)<=6)<|ck (inR (Bz+3))<|ck ((0:Int)<=Bz+3/\Bz+3<(Bt.length:Int))<|ck (inR (fg .u8 (byt Bt (Bz+3)) 63))<|some (iOr .i64 (iOr .i64 (iOr .i64 (iD .i64 (fg .u8 (byt Bt Bz) 7) 18) (iD .i64 (fg .u8 (byt Bt (Bz+1)) 63) 12)) (iD .i64 (fg .u8 (byt Bt (Bz+2)) 63) 6)) (fg .u8 (byt Bt (Bz+3)) 63),4)else some (0,0)
theorem pj (Bt:Bk)(Bz:Int)(r:Int×Int)(h0:iN Bt Bz=some r):aC Tryz.prog 185 [eS Bt,eI Bz] (·=.tuple [.p (eI r.1),.p (eI r.2)]):=by
 unfold iN at h0;refine aT good Tryz.func185 Z Z Z λ w0=>mP (λ v:Int×Int=>.tuple [.p (eI v.1),.p (eI v.2)]) ?_;refine nx 7 Z (bd h0 λ o83 h1 h0=>?_);refine kN o83 (λ v84=>⟨[(0,.p (eS Bt)),(1,.p (eI Bz)),(16,.p (eB v84))],[]⟩) ?_ ?_
 ·refine nx 1 Z (fB [16] h0 Z (λ c3 h0=>?_) λ c3 h0=>?_)
  ·exact nx 7 Z (mQ (oi h0) Z (ci ⟨sr,sr,trivial⟩))
  refine nx 6 Z (oI h0 Z λ FG h0=>?_);refine nx 8 Z (fD [21] h0 Z (λ c5 h0=>?_) λ c5 h0=>?_)
  ·refine nx 4 Z (cc' h0 λ GY h0=>?_);refine mO Z (eC Z Z Z Z Z Z Z Z (hQ GY) ?_);exact nx 4 Z (mQ (oi h0) Z (ci ⟨sr,sr,trivial⟩))
  refine nx 4 Z (bd h0 λ o85 h1 h0=>?_);refine kN o85 (λ v86=>⟨[(0,.p (eS Bt)),(1,.p (eI Bz)),(6,.p (eK .u8 (byt Bt Bz))),(35,.p (eB v86))],[]⟩) ?_ ?_
  ·refine nx 1 Z (fB [35] h0 Z (λ DT h0=>?_) λ DT h0=>?_)
   ·refine nx 5 Z (cc' h0 λ DJ h0=>?_);refine mO Z (eC Z Z Z Z Z Z Z Z (hQ DJ) ?_);refine cc' h0 λ Df h0=>mO Z (qu Z Z Z Z Z Z Df ?_);refine nx 2 Z (oA h0 Z Z λ CZ h0=>?_);refine oI h0 Z λ Es h0=>nx 1 Z (cc' h0 λ Ds h0=>?_);refine mO Z (eC Z Z Z Z Z Z Z Z (hQ Ds) ?_);exact nx 5 Z (mQ (oi h0) Z (ci ⟨sr,sr,trivial⟩))
   refine nx 8 Z (bd h0 λ Ho h1 h0=>?_);refine kN Ho (λ v88=>⟨[(0,.p (eS Bt)),(1,.p (eI Bz)),(6,.p (eK .u8 (byt Bt Bz))),(7,.p (eK .u8 v88)),(8,.p (eK .u8 191))],[]⟩) ?_ ?_
   ·refine nx 2 Z (bd h0 λ o89 h1 h0=>?_);refine kN o89 (λ v90=>⟨[(0,.p (eS Bt)),(1,.p (eI Bz)),(6,.p (eK .u8 (byt Bt Bz))),(7,.p (eK .u8 Ho)),(8,.p (eK .u8 v90))],[]⟩) ?_ ?_
    ·refine nx 3 Z (bd h0 λ o91 h1 h0=>?_);refine kN o91 (λ v92=>⟨[(0,.p (eS Bt)),(1,.p (eI Bz)),(6,.p (eK .u8 (byt Bt Bz))),(70,.p (eB v92))],[]⟩) ?_ ?_
     ·refine nx 1 Z (fB [70] h0 Z (λ H2 h0=>?_) λ H2 h0=>?_)
      ·refine nx 2 Z (cc' h0 λ FI h0=>?_);refine cc' h0 λ D1 h0=>cc' h0 λ E6 h0=>cc' h0 λ FH h0=>cc' h0 λ E5 h0=>cc' h0 λ DI h0=>cc' h0 λ E4 h0=>cc' h0 λ HU h0=>cc' h0 λ E3 h0=>mD [(0,.p (eS Bt)),(1,.p (eI Bz)),(6,.p (eK .u8 (byt Bt Bz)))] Z ⟨Z,Z,Z,trivial⟩ Z (dR 2 Z ?_);refine dq (.p (eI (fg .u8 (byt Bt Bz) 15))) [72] Z (λ _ e _ q=>ae Z (eC Z Z Z Z Z Z Z (e _ _ Z) (hQ FI) q)) Z (dq (.p (eI (iD .i64 (fg .u8 (byt Bt Bz) 15) 12))) [73] Z (λ _ e _ q=>ae Z (qu Z Z Z (e _ _ Z) Z Z D1 q)) Z ?_);refine dR 2 Z (dq (.p (eI (Bz+1))) [76] Z (λ _ e _ q=>ae Z (nB Z Z Z (e _ _ Z) Z Z E6 q)) Z ?_);refine dq (.p (eK .u8 (byt Bt (Bz+1)))) [75,77] Z (λ _ e _ q=>ae Z (jW Z Z Z Z Z (e _ _ Z) (e _ _ Z) FH q)) Z (dR 1 Z ?_);refine dq (.p (eI (fg .u8 (byt Bt (Bz+1)) 63))) [79] Z (λ _ e _ q=>ae Z (eC Z Z Z Z Z Z Z (e _ _ Z) (hQ E5) q)) Z (dq (.p (eI (iD .i64 (fg .u8 (byt Bt (Bz+1)) 63) 6))) [80] Z (λ _ e _ q=>ae Z (qu Z Z Z (e _ _ Z) Z Z DI q)) Z ?_);refine dR 3 Z (dq (.p (eI (Bz+2))) [84] Z (λ _ e _ q=>ae Z (nB Z Z Z (e _ _ Z) Z Z E4 q)) Z ?_);refine dq (.p (eK .u8 (byt Bt (Bz+2)))) [83,85] Z (λ _ e _ q=>ae Z (jW Z Z Z Z Z (e _ _ Z) (e _ _ Z) HU q)) Z (dR 1 Z ?_);refine dq (.p (eI (fg .u8 (byt Bt (Bz+2)) 63))) [87] Z (λ _ e _ q=>ae Z (eC Z Z Z Z Z Z Z (e _ _ Z) (hQ E3) q)) Z (dR 3 Z ?_);refine dE Z (nx 2 Z ?_);exact mQ (oi h0) Z (ci ⟨sr,sr,trivial⟩)
      refine nx 8 Z (bd h0 λ o93 h1 h0=>?_);refine kN o93 (λ v94=>⟨[(0,.p (eS Bt)),(1,.p (eI Bz)),(6,.p (eK .u8 (byt Bt Bz))),(7,.p (eK .u8 v94)),(8,.p (eK .u8 191))],[]⟩) ?_ ?_
      ·refine nx 2 Z (bd h0 λ o95 h1 h0=>?_);refine kN o95 (λ v96=>⟨[(0,.p (eS Bt)),(1,.p (eI Bz)),(6,.p (eK .u8 (byt Bt Bz))),(7,.p (eK .u8 o93)),(8,.p (eK .u8 v96))],[]⟩) ?_ ?_
       ·refine nx 3 Z (bd h0 λ o97 h1 h0=>?_);refine kN o97 (λ v98=>⟨[(0,.p (eS Bt)),(1,.p (eI Bz)),(6,.p (eK .u8 (byt Bt Bz))),(119,.p (eB v98))],[]⟩) ?_ ?_
        ·refine nx 1 Z (fB [119] h0 Z (λ c61 h0=>?_) λ c61 h0=>?_)
         ·refine nx 2 Z (cc' h0 λ Gr h0=>?_);refine cc' h0 λ HQ h0=>cc' h0 λ HP h0=>cc' h0 λ hk65 h0=>cc' h0 λ hk66 h0=>cc' h0 λ hk67 h0=>cc' h0 λ hk68 h0=>cc' h0 λ HO h0=>cc' h0 λ HM h0=>cc' h0 λ hk71 h0=>cc' h0 λ hk72 h0=>cc' h0 λ FD h0=>cc' h0 λ FC h0=>?_;refine mD [(0,.p (eS Bt)),(1,.p (eI Bz)),(6,.p (eK .u8 (byt Bt Bz)))] Z ⟨Z,Z,Z,trivial⟩ Z (dR 2 Z ?_);refine dq (.p (eI (fg .u8 (byt Bt Bz) 7))) [121] Z (λ _ e _ q=>ae Z (eC Z Z Z Z Z Z Z (e _ _ Z) (hQ Gr) q)) Z (dq (.p (eI (iD .i64 (fg .u8 (byt Bt Bz) 7) 18))) [122] Z (λ _ e _ q=>ae Z (qu Z Z Z (e _ _ Z) Z Z HQ q)) Z ?_);refine dR 2 Z (dq (.p (eI (Bz+1))) [125] Z (λ _ e _ q=>ae Z (nB Z Z Z (e _ _ Z) Z Z HP q)) Z ?_);refine dq (.p (eK .u8 (byt Bt (Bz+1)))) [124,126] Z (λ _ e _ q=>ae Z (jW Z Z Z Z Z (e _ _ Z) (e _ _ Z) hk65 q)) Z (dR 1 Z ?_);refine dq (.p (eI (fg .u8 (byt Bt (Bz+1)) 63))) [128] Z (λ _ e _ q=>ae Z (eC Z Z Z Z Z Z Z (e _ _ Z) (hQ hk66) q)) Z (dq (.p (eI (iD .i64 (fg .u8 (byt Bt (Bz+1)) 63) 12))) [129] Z (λ _ e _ q=>ae Z (qu Z Z Z (e _ _ Z) Z Z hk67 q)) Z ?_);refine dR 3 Z (dq (.p (eI (Bz+2))) [133] Z (λ _ e _ q=>ae Z (nB Z Z Z (e _ _ Z) Z Z hk68 q)) Z ?_);refine dq (.p (eK .u8 (byt Bt (Bz+2)))) [132,134] Z (λ _ e _ q=>ae Z (jW Z Z Z Z Z (e _ _ Z) (e _ _ Z) HO q)) Z (dR 1 Z ?_);refine dq (.p (eI (fg .u8 (byt Bt (Bz+2)) 63))) [136] Z (λ _ e _ q=>ae Z (eC Z Z Z Z Z Z Z (e _ _ Z) (hQ HM) q)) Z (dq (.p (eI (iD .i64 (fg .u8 (byt Bt (Bz+2)) 63) 6))) [137] Z (λ _ e _ q=>ae Z (qu Z Z Z (e _ _ Z) Z Z hk71 q)) Z ?_);refine dR 3 Z (dq (.p (eI (Bz+3))) [141] Z (λ _ e _ q=>ae Z (nB Z Z Z (e _ _ Z) Z Z hk72 q)) Z ?_);refine dq (.p (eK .u8 (byt Bt (Bz+3)))) [140,142] Z (λ _ e _ q=>ae Z (jW Z Z Z Z Z (e _ _ Z) (e _ _ Z) FD q)) Z (dR 1 Z ?_);refine dq (.p (eI (fg .u8 (byt Bt (Bz+3)) 63))) [144] Z (λ _ e _ q=>ae Z (eC Z Z Z Z Z Z Z (e _ _ Z) (hQ FC) q)) Z (dR 3 Z ?_);refine dE Z (nx 1 Z ?_);refine mG (gE (t:=⟨[(4,.p (eI (iOr .i64 (iOr .i64 (iOr .i64 (iD .i64 (fg .u8 (byt Bt Bz) 7) 18) (iD .i64 (fg .u8 (byt Bt (Bz+1)) 63) 12)) (iD .i64 (fg .u8 (byt Bt (Bz+2)) 63) 6)) (fg .u8 (byt Bt (Bz+3)) 63)))),(5,.p (eI 4))],[]⟩) Z Z) (nx 1 Z ?_);exact mQ (oi h0) Z (ci ⟨sr,sr,trivial⟩)
         exact nx 8 Z (mQ (oi h0) Z (ci ⟨sr,sr,trivial⟩))
        refine nx 4 Z (fD [95,96] h1 Z (λ c47 h1=>?_) λ c47 h1=>?_)
        ·refine nx 4 Z (fD [98,99,100] h1 Z (λ c48 h1=>?_) λ c48 h1=>?_)
         ·refine nx 2 Z (oA h1 Z Z λ HT h1=>?_);refine nx 2 Z (bd h1 λ r50 e51 h1=>?_);refine oK (gj Bt (Bz+1) o93 o95 _ e51) Z ⟨sr,sr,sr,sr,trivial⟩ Tryz.call198 Z (nx 2 Z ?_);refine fB [106,107,108] h1 Z (λ c52 h1=>?_) λ c52 h1=>?_
          ·refine nx 2 Z (oA h1 Z Z λ HR h1=>?_);refine bd h1 λ r54 e55 h1=>oK (gj Bt (Bz+2) 128 191 _ e55) Z ⟨sr,sr,sr,sr,trivial⟩ Tryz.call198 Z (nx 2 Z ?_);refine fB [112,113,114] h1 Z (λ c56 h1=>?_) λ c56 h1=>?_
           ·refine nx 2 Z (oA h1 Z Z λ hk57 h1=>?_);refine bd h1 λ BW e59 h1=>oK (gj Bt (Bz+3) 128 191 _ e59) Z ⟨sr,sr,sr,sr,trivial⟩ Tryz.call198 Z (nx 2 Z ?_);exact eX _ (oi h1).symm (gE Z Z)
           exact nx 6 Z (eX _ (oi h1).symm (gE Z Z))
          exact nx 12 Z (eX _ (oi h1).symm (gE Z Z))
         exact nx 20 Z (eX _ (oi h1).symm (gE Z Z))
        exact nx 24 Z (eX _ (oi h1).symm (gE Z Z))
       refine nx 5 Z (fD [93] h1 Z (λ c45 h1=>?_) λ c45 h1=>?_)
       ·exact nx 4 Z (eX _ (oi h1).symm (gE Z Z))
       exact nx 2 Z (eX _ (oi h1).symm (gE Z Z))
      refine nx 5 Z (fD [91] h1 Z (λ c43 h1=>?_) λ c43 h1=>?_)
      ·exact nx 4 Z (eX _ (oi h1).symm (gE Z Z))
      exact nx 2 Z (eX _ (oi h1).symm (gE Z Z))
     refine nx 4 Z (fD [52,53] h1 Z (λ Dz h1=>?_) λ Dz h1=>?_)
     ·refine nx 4 Z (fD [55,56,57] h1 Z (λ Ff h1=>?_) λ Ff h1=>?_)
      ·refine nx 2 Z (oA h1 Z Z λ FK h1=>?_);refine nx 2 Z (bd h1 λ BZ Gx h1=>?_);refine oK (gj Bt (Bz+1) Ho o89 _ Gx) Z ⟨sr,sr,sr,sr,trivial⟩ Tryz.call198 Z (nx 2 Z ?_);refine fB [63,64,65] h1 Z (λ FN h1=>?_) λ FN h1=>?_
       ·refine nx 2 Z (oA h1 Z Z λ Gs h1=>?_);refine bd h1 λ F' e31 h1=>oK (gj Bt (Bz+2) 128 191 _ e31) Z ⟨sr,sr,sr,sr,trivial⟩ Tryz.call198 Z (nx 2 Z ?_);exact eX _ (oi h1).symm (gE Z Z)
       exact nx 6 Z (eX _ (oi h1).symm (gE Z Z))
      exact nx 14 Z (eX _ (oi h1).symm (gE Z Z))
     exact nx 18 Z (eX _ (oi h1).symm (gE Z Z))
    refine nx 5 Z (fD [50] h1 Z (λ Ey h1=>?_) λ Ey h1=>?_)
    ·exact nx 4 Z (eX _ (oi h1).symm (gE Z Z))
    exact nx 2 Z (eX _ (oi h1).symm (gE Z Z))
   refine nx 5 Z (fD [48] h1 Z (λ Ec h1=>?_) λ Ec h1=>?_)
   ·exact nx 4 Z (eX _ (oi h1).symm (gE Z Z))
   exact nx 2 Z (eX _ (oi h1).symm (gE Z Z))
  refine nx 4 Z (fD [25,26] h1 Z (λ c7 h1=>?_) λ c7 h1=>?_)
  ·refine nx 4 Z (fD [28,29,30] h1 Z (λ c8 h1=>?_) λ c8 h1=>?_)
   ·refine nx 2 Z (oA h1 Z Z λ hk9 h1=>?_);refine bd h1 λ C1 GB h1=>oK (gj Bt (Bz+1) 128 191 _ GB) Z ⟨sr,sr,sr,sr,trivial⟩ Tryz.call198 Z (nx 2 Z ?_);exact eX _ (oi h1).symm (gE Z Z)
   exact nx 6 Z (eX _ (oi h1).symm (gE Z Z))
  exact nx 10 Z (eX _ (oi h1).symm (gE Z Z))
 refine nx 4 Z (fD [10,11] h1 Z (λ c1 h1=>?_) λ c1 h1=>?_)
 ·exact nx 6 Z (eX _ (oi h1).symm (gE Z Z))
 refine nx 2 Z (oLs Z ?_);exact nx 3 Z (eX _ (oi h1).symm (gE Z Z))
def fe (Bt:Bk):Nat->Int->Option (Unit⊕Bool)|0,_=>none|m+1,i8=>if i8<(Bt.length:Int) then(iN Bt i8).bind λ C1=>if C1.2=0 then some (.inr false)else ck (inR (i8+C1.2))<|fe Bt m (i8+C1.2)else some (.inl ())
def jG (n:Nat)(Bt:Bk):Option Bool :=if 4096<(Bt.length:Int) then some false else jn (fe Bt n 0) λ _Fi=>some true
theorem qt (n:Nat)(Bt:Bk)(r:Bool)(h0:jG n Bt=some r):aC Tryz.prog 159 [eS Bt] (·=.p (eB r)):=by
 unfold jG at h0;refine aT good Tryz.func159 Z Z Z λ w0=>mP (λ v:Bool=>.p (eB v)) ?_;refine nx 8 Z (oLs Z ?_);refine nx 2 Z (fD [8] h0 Z (λ c1 h0=>?_) λ c1 h0=>?_)
 ·exact nx 6 Z (mQ (oi h0) Z (sr))
 refine nx 8 rfl ?_;obtain ⟨EE,h1,B8,hR0⟩:=fj h0;refine kEx 0 (λ DU:Unit=>EE=.inl DU) (λ DU=>⟨[],[]⟩) (λ DU hv=>?_) ?_
 ·have h0:=B8 _ hv;exact nx 6 Z (mQ (oi h0) Z (sr))
 refine lG (λ (EQ:Int)=>⟨[(0,.p (eS Bt)),(3,.p (eI EQ))],[]⟩) (λ m (EQ:Int)=>fe Bt m EQ) Y 0 h1 (gE rfl rfl) ?_;rintro m i8 h1;replace h1:fe Bt (m+1) i8=some EE:=h1;rw [fe] at h1;refine nx 5 rfl (oLs rfl ?_);refine nx 2 rfl (fD [12] h1 rfl (λ c9 h1=>?_) λ c9 h1=>?_)
 ·refine nx 7 Z (bd h1 λ C1 GB h1=>?_);refine oK (pj Bt i8 _ GB) Z ⟨sr,sr,trivial⟩ Tryz.call185 Z (nx 12 Z ?_);refine fD [20] h1 Z (λ Eg h1=>?_) λ Eg h1=>?_
  ·exact nx 6 Z (mQ (hR0 _ (oi h1).symm) Z (sr))
  refine nx 5 Z (oA h1 Z Z λ FL h1=>?_);exact nx 2 Z (eX (i8+C1.2) h1 (gE Z Z))
 exact nx 2 Z (eXi _ (oi h1).symm (gE Z Z))
def kj (EX:Int):Option Bool :=(if (-9007199254740992)<=EX then some (decide (EX<=9007199254740992))else some false : Option Bool).bind λ t2=>some t2
theorem qz (EX:Int)(r:Bool)(h0:kj EX=some r):aC Tryz.prog 133 [eI EX] (·=.p (eB r)):=by
 unfold kj at h0;refine aT good Tryz.func133 Z Z Z λ w0=>mP (λ v:Bool=>.p (eB v)) ?_;refine nx 5 Z (bd h0 λ o4 h1 h0=>?_);refine kN o4 (λ v5=>⟨[(2,.p (eB v5))],[]⟩) ?_ ?_
 ·exact nx 2 Z (mQ (oi h0) Z (sr))
 refine nx 4 Z (fD [4,5] h1 Z (λ c1 h1=>?_) λ c1 h1=>?_)
 ·exact nx 5 Z (eX _ (oi h1).symm (gE Z Z))
 exact nx 5 Z (eX _ (oi h1).symm (gE Z Z))
end Go.Ab.R06
end
