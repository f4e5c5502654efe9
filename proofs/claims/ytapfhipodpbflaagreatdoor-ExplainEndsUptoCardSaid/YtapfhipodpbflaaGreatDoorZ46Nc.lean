/- Texts of the proof, one behind the other. No statement is proved here. -/
import Derived.WalkKit
import Derived.Lib.Builder
import Derived.Lib.UnsafeStr
import Derived.Laws.Externs
import Derived.Shelf.RegionOpenPlain
import Derived.Below
import Derived.Lib.LaidTab
import Derived.Shelf.Lays
import Derived.Shelf.Small.Utf8
import Derived.Shelf.Small.Strs
import Derived.Shelf.Strings.Prefix
import Derived.Shelf.Small.Wraps
import Derived.Shelf.LaysM
import Derived.Shelf.Strconv.Itoa3
import Derived.Shelf.LaysC
import Derived.Shelf.Strconv.ParseIntPublic10
import Derived.Shelf.Unicode.DecodeAny
import Derived.Shelf.Strings.OnBuilder
import Derived.Shelf.Strings.IndexAnyAll
import Derived.Shelf.Strings.Runes
import Derived.Shelf.Strings.IndexAny
import Derived.Test.YtapfhipodpbflaaGreatDoorProg
import Derived.Lib.AppendIntMem
import Derived.Deep.LoopGhost
import Derived.Laws.Runes
import Derived.Scope
import Derived.Deep.QuietTactic
import Derived.BigQuiet
import Derived.Laws.RangeString
import Derived.Lib.IndexAny
import Derived.Lib.TrimU
import Derived.MapKept
import Derived.Lib.AppendZeros
import Derived.Lib.OthersKept
import Derived.Defers
import Derived.Lib.AppendZerosOnto
import Derived.Lib.Overlaps
import Derived.Laws.CopyRow
import Derived.Test.YtapfhipodpbflaaGreatDoorZ46Na
import Derived.Test.YtapfhipodpbflaaGreatDoorZ46Nb
set_option maxHeartbeats 4000000
section
namespace Go.Ab
open Go.Proofs Go.RowKit Go
structure ay where
 El:Az
def cp (b:ay):Option ay:=some b
def dl (b:ay):Option (Az×ay):=ck (b.El.length<=9223372036854775807)<|some (b.El,b)
theorem CC:∃ j,Tryz.prog.info? 140=some j/\j.size=2:=by
 have h:(Tryz.prog.info? 140).map (·.size)=some 2:=by kernel_rfl
 obtain ⟨j,hj,hs⟩:=n8.1 h;exact ⟨j,hj,hs⟩
set_option maxRecDepth 100000 in
theorem rr (b:Nat)(w:World)(h0:w.cell? ⟨b,0,none⟩=some (.pointer (some ⟨b,0,none⟩))) :
  Calls Tryz.prog 111 #[.pointer (some ⟨b,0,none⟩)] w λ e w'=>e=.returned (.tuple #[])/\w'=w:=by
 obtain ⟨j,hj,_⟩:=CC
 go_enter Tryz.func111,Tryz.ntmps111
 go_wp2
 rw [Lib.run_neq_ptr_same w _ Tryz.underlying137 hj]
 go_wp2
 go_end0
 exact ⟨Z,Z⟩
set_option maxRecDepth 100000 in
theorem qF (b:Nat)(w:World)(h0:w.cell? ⟨b,0,none⟩=some (.pointer none))(hsh:w.shape? b=some (140,2))(hfz:w.frozen? ⟨b,0,none⟩=false) :
  Calls Tryz.prog 111 #[.pointer (some ⟨b,0,none⟩)] w λ e w'=>e=.returned (.tuple #[])/\w'=w.setCell ⟨b,0,none⟩ (.pointer (some ⟨b,0,none⟩)):=by
 obtain ⟨j,hj,hjs⟩:=CC
 go_enter Tryz.func111,Tryz.ntmps111
 go_wp2
 rw [Lib.run_to_unsafe w ⟨b,0,none⟩ Tryz.underlying137 Tryz.underlying196 hj (by rw [hjs]; decide) hsh (Nat.zero_lt_succ 1)];simp only [Result.andThen];rw [Oper.upon_value]
 go_wp2
 rw [run_callFunc_extern Tryz.func143 (by kernel_rfl) (by kernel_rfl) (by kernel_rfl) (e:=Extern.AbiNoEscape.same) (by kernel_rfl)];rw [Lib.run_noEscape];simp only [Result.andThen];rw [Oper.upon_value]
 go_wp2
 rw [Lib.run_from_unsafe w ⟨b,0,none⟩ Tryz.underlying196 Tryz.underlying137 hj hsh (by kernel_rfl)];simp only [Result.andThen];rw [Oper.upon_value]
 go_wp2
 go_end0
 exact ⟨Z,Z⟩
structure xS (b:Nat)(w w':World):Prop where
 os:w'.os=w.os
 out:w'.output=w.output
 tape:w'.tape=w.tape
 size:w'.heap.size=w.heap.size
 other:∀ k,k≠b->w'.heap[k]? = w.heap[k]?
def back (i:Nat):Option Nat:=if i=900000 then some 2000000 else if i=1000000 then some 1000000 else none
def ghB (g:Gh):Gh:=⟨g.st,λ i=>if i=2000000 then g.ow 900000 else if M1<=i/\i<2*M1 then g.ow i else none⟩
theorem uC {g:Gh}{i b:Nat}(h:(ghB g).ow i=some b):(i=2000000/\g.ow 900000=some b)\/(M1<=i/\i<2*M1/\g.ow i=some b):=by
 simp only [ghB] at h;split at h
 ·exact .inl ⟨‹_›,h⟩
 ·split at h
  ·rename_i h1; exact .inr ⟨h1.1,h1.2,h⟩
  ·cases h
theorem vj {g:Gh}:∀ i j b,back i=some j->g.ow i=some b->(ghB g).ow j=some b:=by
 intro i j b h hb;unfold back at h;split at h
 ·cases h; subst_vars; simp only [ghB,if_true]; exact hb
 ·split at h
  ·cases h; subst_vars
   simp only [ghB];rw [if_neg (by decide),if_pos (by decide)]; exact hb
  ·cases h
theorem xp {w w':World}{g:Gh}{b:Nat}(hok:Ok0 w g.st)(hown:∀ i b,g.ow i=some b->b<w.heap.size/\i<2*M1)
  (hinj:∀ i j b,g.ow i=some b->g.ow j=some b->i=j) (hnst:∀ i b,M1<=i->g.ow i=some b->∀ o,¬ g.st b o)
  (hb:g.ow 1000000=some b) (h:xS b w w')
  (hsh:∀ (c:Array Value) (e:TypeId),w.heap[b]? = some (.cells c e (0,0))->∃ c':Array Value,w'.heap[b]? = some (.cells c' e (0,0))/\c'.size=c.size):ml w g w' (ghB g):=by
 have hbs:∀ o,¬ g.st b o:=hnst _ b (mv _) hb
 have Fe:Ev w g.st w' g.st:=λ k o hk=>⟨hk,by
  have:k≠b:=λ e=>hbs o (e ▸ hk)
  simp only [World.cell?,h.other k this]⟩
 refine ⟨h.os,h.out,h.tape,by rw [h.size]; exact mv _,λ k hk hno=>h.other k (λ e=>hno 1000000 (e ▸ hb)),λ i k hi=>?_,λ i j k hi hj=>?_,λ k o hk=>by rw [h.size]; exact hok.lt k o hk,λ k hk _ o=>Iff.rfl,λ i h1 h2=>?_,λ i k c e h1 h2 h3=>?_,λ i k hi hk o=>hnst i k hi hk o,Fe⟩
 ·rcases uC hi with ⟨_,h1⟩|⟨_,_,h1⟩
  ·exact ⟨by rw [h.size]; exact (hown _ _ h1).1,.inr ⟨_,h1⟩⟩
  ·exact ⟨by rw [h.size]; exact (hown _ _ h1).1,.inr ⟨_,h1⟩⟩
 ·rcases uC hi with ⟨e1,h1⟩|⟨a1,a2,h1⟩ <;> rcases uC hj with ⟨e2,h2⟩|⟨b1,b2,h2⟩
  ·omega
  ·have:=hinj _ _ _ h1 h2; unfold M1 at *; omega
  ·have:=hinj _ _ _ h1 h2; unfold M1 at *; omega
  ·exact hinj _ _ _ h1 h2
 ·simp only [ghB];rw [if_neg (by unfold M1 at *; omega),if_pos ⟨h1,h2⟩]
 ·by_cases e1:k=b
  ·subst e1; exact hsh c e h3
  ·exact ⟨c,(h.other k e1).trans h3,Z⟩
theorem Ed {w w':World}{g:Gh}{b:Nat}(hbs:∀ o,¬ g.st b o)(h:xS b w w')(hc:∃ c e,w.heap[b]? = some (.cells c e (0,0)))
  (hsh:∀ (c:Array Value) (e:TypeId),w.heap[b]? = some (.cells c e (0,0))->∃ c':Array Value,w'.heap[b]? = some (.cells c' e (0,0))/\c'.size=c.size):EvO (λ _=>false) w g w' g:=by
 refine ⟨λ k o hk=>⟨hk,?_⟩,λ _ _ _ h=>h,λ id k c e _ _ hk=>?_,λ _ _ _ _ _ h=>h,λ id k es k' _ _ hk=>(h.other k (λ e=>by subst e; obtain ⟨c,t,hc⟩:=hc; rw [hc] at hk; cases hk)).trans hk,λ _ _=>rfl,λ id k o _ _ ho=>h.other k (λ e=>hbs o (e ▸ ho))⟩
 ·have:k≠b:=λ e=>hbs o (e ▸ hk);simp only [World.cell?,h.other k this]
 ·by_cases e1:k=b
  ·subst e1; exact hsh c e hk
  ·exact ⟨c,(h.other k e1).trans hk,Z⟩
theorem Bm {w:World}{g:Gh}{es:List PV}{vs:Array Value}{T ty:Nat}(E':vs.size=1)
  (hargs:∀ (i:Nat) c v,[AV.ptr 1000000 0][i]? = some c->vs[i]? = some v->ARep w g c v)
  (hobs:∀ id cs,look [(1000000,[AV.bptr T 2 1000000,AV.vec 900000 1 ty es])] id=some cs->jl w g id cs) :
  ∃ b p q,g.ow 1000000=some b/\vs=#[.pointer (some ⟨b,0,none⟩)]/\w.heap[b]? = some (.cells #[p,q] T (0,0))/\(∀ o,¬ g.st b o) /\
   (p=.pointer none\/p=.pointer (some ⟨b,0,none⟩))/\ARep w g (.vec 900000 1 ty es) q:=by
 obtain ⟨b,c,e,h1,h2,h3,h4,h5⟩:=hobs 1000000 _ rfl;obtain ⟨p,hp,hpr⟩:=h5 0 _ rfl;obtain ⟨q,hq,hqr⟩:=h5 1 _ rfl;have hv0:vs[0]? = some vs[0]:=Array.getElem?_eq_getElem O;have ha:=hargs 0 _ _ rfl hv0
 have hvs:vs=#[vs[0]]:=by
  apply Array.ext
  ·simp [E']
  ·intro i h1 h2;have:i=0:=by omega
   subst this; rfl
 have hc:∀ c1:Array Value,c1=c->c1.size=2->c=#[p,q]:=by
  rintro c1 rfl h;apply Array.ext
  ·simp [h]
  ·intro i k1 k2
   match i,k2 with
   | 0,_=>rw [Array.getElem?_eq_getElem k1] at hp; simpa using hp
   | 1,_=>rw [Array.getElem?_eq_getElem k1] at hq; simpa using hq
 have hav:vs[0]=.pointer (some ⟨b,0,none⟩):=by
  generalize vs[0]=v at ha
  cases ha with
  | ptr how=>rw [h1] at how; cases how; rfl
 refine ⟨b,p,q,h1,by rw [hvs,hav],?_,h4,?_,hqr⟩
 ·cases hpr with
  | bptrn how hb Fc=>rw [h1] at how; cases how; rw [h2] at hb; cases hb; rw [h2,hc _ rfl Fc]
  | bptr how hb Fc=>rw [h1] at how; cases how; rw [h2] at hb; cases hb; rw [h2,hc _ rfl Fc]
 ·cases hpr with
  | bptrn how hb Fc=>exact .inl Z
  | bptr how hb Fc=>rw [h1] at how; cases how; exact .inr rfl
theorem ob_B {w':World}{g:Gh}{es:List PV}{T ty b:Nat}{p q:Value}(hb:g.ow 1000000=some b)(h4:∀ o,¬ g.st b o)(h:w'.heap[b]? = some (.cells #[p,q] T (0,0)))
  (hp:p=.pointer none\/p=.pointer (some ⟨b,0,none⟩)) (hq:ARep w' g (.vec 900000 1 ty es) q):jl w' (ghB g) 1000000 [.bptr T 2 1000000,.vec 2000000 1 ty es]:=by
 have how:(ghB g).ow 1000000=some b:=vj 1000000 1000000 b Z hb;refine ⟨b,#[p,q],T,how,h,by simp,h4,λ i x hx=>?_⟩
 match i,hx with
 | 0,hx=>
  simp only [List.getElem?_cons_zero,bx] at hx; subst hx;refine ⟨p,rfl,?_⟩;rcases hp with rfl|rfl
  ·exact .bptrn how h Z
  ·exact .bptr how h Z
 | 1,hx=>
  simp only [List.getElem?_cons_succ,List.getElem?_cons_zero,bx] at hx; subst hx;exact ⟨q,rfl,jA (m:=back) (g:=g) (g':=ghB g) rfl vj hq rfl⟩
 | n+2,hx=>simp at hx
theorem fg (b_0:ay)(r:ay)(h0:cp b_0=some r):cq Tryz.prog 111 [.ptr 1000000 0] [(1000000,[.bptr 140 2 1000000,.vec 900000 1 (5+1) (b_0.El.map eU)])]
  (λ x y=>x=.tuple []/\y=[(1000000,[.bptr 140 2 1000000,.vec 2000000 1 (5+1) (r.El.map eU)])]):=by
 cases h0
 intro w g vs hok hown hinj hnst E' hargs hobs;obtain ⟨b,p,q,hb,rfl,hheap,hbs,hp,hq⟩:=Bm E' hargs hobs;have hc0:w.cell? ⟨b,0,none⟩=some p:=by simp [World.cell?,hheap]
 rcases hp with rfl|rfl
 ·refine (qF b w hc0 (by simp [World.shape?,hheap]) (by simp [World.frozen?,hheap])).mono ?_;rintro e w' ⟨rfl,rfl⟩;have hO:xS b w (w.setCell ⟨b,0,none⟩ (.pointer (some ⟨b,0,none⟩))):=⟨rfl,rfl,rfl,by simp [World.setCell],λ k hk=>Below.heap_setCell _ _ _ _ hk⟩
  have hheap':(w.setCell ⟨b,0,none⟩ (.pointer (some ⟨b,0,none⟩))).heap[b]? = some (.cells #[.pointer (some ⟨b,0,none⟩),q] 140 (0,0)):=by
   simp [World.setCell,Array.getElem?_modify,hheap]
  have hsh:∀ (c:Array Value) (e:TypeId),w.heap[b]? = some (.cells c e (0,0))->∃ c':Array Value,(w.setCell ⟨b,0,none⟩ (.pointer (some ⟨b,0,none⟩))).heap[b]? = some (.cells c' e (0,0))/\c'.size=c.size:=λ c e h=>by
   rw [hheap] at h; cases h; exact ⟨_,hheap',rfl⟩
  refine ⟨_,_,_,ghB g,Z,⟨Z,Z⟩,.tuple Z G,λ x hx=>?_,xp hok hown hinj hnst hb hO hsh⟩;simp only [List.mem_singleton] at hx; subst hx;exact ob_B hb hbs hheap' (.inr Z) (hq.mono (Ed hbs hO ⟨_,_,hheap⟩ hsh))
 ·refine (rr b w hc0).mono ?_;rintro e w' ⟨rfl,rfl⟩;have hO:xS b w' w':=⟨rfl,rfl,rfl,rfl,λ k hk=>rfl⟩
  refine ⟨_,_,_,ghB g,Z,⟨Z,Z⟩,.tuple Z G,λ x hx=>?_,xp hok hown hinj hnst hb hO (λ c e h=>⟨c,h,Z⟩)⟩;simp only [List.mem_singleton] at hx; subst hx;exact ob_B hb hbs hheap (.inr Z) hq
theorem uJ:Tryz.prog.follows .mixedOrders=true:=by kernel_rfl
theorem oB (w:World):Below w.heap.size w w.drew:=Below.drew (Below.refl _ w)
set_option maxRecDepth 100000 in
theorem wj (b:Nat)(p:Value)(w:World)(hbk:w.heap[b]? = some (.cells #[p,.slice none 0 0] 140 (0,0))) :
  Calls Tryz.prog 78 #[.pointer (some ⟨b,0,none⟩)] w λ e w'=>e=.returned (.string ⟨#[]⟩)/\Below w.heap.size w w':=by
 have mixed:=uJ;have hUS:∀ (W:World) (q:Option Addr),(Builtin.unsafeString_ #[171,3] 9 #[.pointer q,.int .i64 0]).run Tryz.prog W=.ok (.string .empty) W:=λ W q=>Lib.run_unsafeString_none W _ _ _ q
 have c1:w.drew.cell? ⟨b,1,none⟩=some (.slice none 0 0):=by
  have:w.drew.heap[b]? = some (.cells #[p,.slice none 0 0] 140 (0,0)):=hbk;rw [Lib.cell_of_heap this]; rfl
 have hSD:(Builtin.unsafeSliceData_ #[138] 171 #[.slice none 0 0]).run Tryz.prog w.drew=.ok (.pointer none) w.drew:=rfl
 go_enter Tryz.func78,Tryz.ntmps78
 go_wp2
 go_region_o
 all_goals (go_wp2; go_ret; exact ⟨Z,oB w⟩)
set_option maxRecDepth 100000 in
theorem vF (b g cap:Nat)(p:Value)(w:World)(hc0:cap≠0)(hbk:w.heap[b]? = some (.cells #[p,.slice (some ⟨g,0,none⟩) 0 cap] 140 (0,0))) :
  Calls Tryz.prog 78 #[.pointer (some ⟨b,0,none⟩)] w λ e w'=>e=.returned (.string ⟨#[]⟩)/\Below w.heap.size w w':=by
 have mixed:=uJ;have hUS:∀ (W:World) (q:Option Addr),(Builtin.unsafeString_ #[171,3] 9 #[.pointer q,.int .i64 0]).run Tryz.prog W=.ok (.string .empty) W:=λ W q=>Lib.run_unsafeString_none W _ _ _ q
 have c1:w.drew.cell? ⟨b,1,none⟩=some (.slice (some ⟨g,0,none⟩) 0 cap):=by
  have:w.drew.heap[b]? = some (.cells #[p,.slice (some ⟨g,0,none⟩) 0 cap] 140 (0,0)):=hbk;rw [Lib.cell_of_heap this]; rfl
 have hSD:(Builtin.unsafeSliceData_ #[138] 171 #[.slice (some ⟨g,0,none⟩) 0 cap]).run Tryz.prog w.drew=.ok (.pointer (some ⟨g,0,none⟩)) w.drew:=Lib.run_unsafeSliceData_row _ _ _ _ _ _ hc0
 clear hc0
 go_enter Tryz.func78,Tryz.ntmps78
 go_wp2
 go_region_o
 all_goals (go_wp2; go_ret; exact ⟨Z,oB w⟩)
set_option maxRecDepth 100000 in
theorem sG (b g:Nat)(p:Value)(cur:Array Value)(w:World)(hbk:w.heap[b]? = some (.cells #[p,.slice (some ⟨g,0,none⟩) 0 0] 140 (0,0)))(hg:w.heap[g]? = some (.cells cur 5 (0,0))) :
  Calls Tryz.prog 78 #[.pointer (some ⟨b,0,none⟩)] w λ e w'=>e=.returned (.string ⟨#[]⟩)/\Below w.heap.size w w':=by
 have mixed:=uJ;have hUS:∀ (W:World) (q:Option Addr),(Builtin.unsafeString_ #[171,3] 9 #[.pointer q,.int .i64 0]).run Tryz.prog W=.ok (.string .empty) W:=λ W q=>Lib.run_unsafeString_none W _ _ _ q
 have hlt:b<w.heap.size:=by
  rcases Nat.lt_or_ge b w.heap.size with h'|h'
  ·exact h'
  ·simp [Array.getElem?_eq_none h'] at hbk
 have c1:w.drew.cell? ⟨b,1,none⟩=some (.slice (some ⟨g,0,none⟩) 0 0):=by
  have:w.drew.heap[b]? = some (.cells #[p,.slice (some ⟨g,0,none⟩) 0 0] 140 (0,0)):=hbk;rw [Lib.cell_of_heap this]; rfl
 have hSD:(Builtin.unsafeSliceData_ #[138] 171 #[.slice (some ⟨g,0,none⟩) 0 0]).run Tryz.prog w.drew=.ok (.pointer (some ⟨w.drew.heap.size,0,none⟩)) (w.drew.alloc (.view ⟨g,0,none⟩ 5)) :=
  Lib.run_unsafeSliceData_zero w.drew _ _ 5 Tryz.underlying171 ⟨g,0,none⟩ 0 (5,cur.size) (by have hg':w.drew.heap[g]? = some (.cells cur 5 (0,0)):=hg; simp [World.shape?,hg'])
 have c2:(w.drew.alloc (.view ⟨g,0,none⟩ 5)).cell? ⟨b,1,none⟩=some (.slice (some ⟨g,0,none⟩) 0 0):=by
  have:(w.drew.alloc (.view ⟨g,0,none⟩ 5)).heap[b]? = _:=(Lib.alloc_old w.drew _ b hlt).trans hbk;rw [Lib.cell_of_heap this]; rfl
 have c3:(w.alloc (.view ⟨g,0,none⟩ 5)).drew.cell? ⟨b,1,none⟩=some (.slice (some ⟨g,0,none⟩) 0 0):=c2;have c0:w.cell? ⟨b,1,none⟩=some (.slice (some ⟨g,0,none⟩) 0 0):=c1
 go_enter Tryz.func78,Tryz.ntmps78
 go_wp2
 go_region_o
 all_goals (go_wp2; go_ret; exact ⟨Z,(oB w).alloc (mv _) _⟩)
set_option maxRecDepth 100000 in
theorem wv (b g cap:Nat)(p:Value)(cur:Array Value)(l:List UInt8)(w:World)(h0:l≠[])(hbk:w.heap[b]? = some (.cells #[p,.slice (some ⟨g,0,none⟩) l.length cap] 140 (0,0)))(hg:w.heap[g]? = some (.cells cur 5 (0,0)))
  (hnc:l.length<=cap) (Fc:cur.size=cap) (hcm:l.length<=9223372036854775807) (Fh:∀ (j:Nat) x,l[j]? = some x->w.cell? ⟨g,j,none⟩=some (.int .u8 x.toNat)) :
  Calls Tryz.prog 78 #[.pointer (some ⟨b,0,none⟩)] w λ e w'=>e=.returned (.string ⟨l.toArray⟩)/\w'=(w.drew.freeze ⟨g,0,none⟩ l.length):=by
 have mixed:=uJ;have hl0:l.length≠0:=by simpa using h0
 have c1:w.drew.cell? ⟨b,1,none⟩=some (.slice (some ⟨g,0,none⟩) l.length cap):=by
  have:w.drew.heap[b]? = some (.cells #[p,.slice (some ⟨g,0,none⟩) l.length cap] 140 (0,0)):=hbk;rw [Lib.cell_of_heap this]; rfl
 have hSD:(Builtin.unsafeSliceData_ #[138] 171 #[.slice (some ⟨g,0,none⟩) l.length cap]).run Tryz.prog w.drew=.ok (.pointer (some ⟨g,0,none⟩)) w.drew:=Lib.run_unsafeSliceData_row _ _ _ _ _ _ O
 have hUS:(Builtin.unsafeString_ #[171,3] 9 #[.pointer (some ⟨g,0,none⟩),.int .i64 l.length]).run Tryz.prog w.drew=.ok (.string ⟨l.toArray⟩) (w.drew.freeze ⟨g,0,none⟩ l.length):=by
  refine Lib.run_unsafeString_row w.drew 171 3 9 5 Tryz.underlying171 (by kernel_rfl) g cur.size (by have hg':w.drew.heap[g]? = some (.cells cur 5 (0,0)):=hg; simp [World.shape?,hg']) l h0 O hcm ?_;intro j x hx;have:=Fh j x hx;rw [add_lit,qr,World.cell?_drew]; exact this
 clear Fh Fc hcm hnc h0 hl0
 go_enter Tryz.func78,Tryz.ntmps78
 go_wp2
 go_region_o
 all_goals (go_wp2; go_ret; exact ⟨Z,Z⟩)
theorem uf (w:World)(g n k:Nat)(h:k≠g):(w.freeze ⟨g,0,none⟩ n).heap[k]? = w.heap[k]?:=by
 unfold World.freeze;split
 ·rfl
 ·simp only [Array.getElem?_modify];rw [if_neg (λ e=>h e.symm)]
theorem vz (w:World)(g n:Nat)(a:Addr):(w.freeze ⟨g,0,none⟩ n).cell? a=w.cell? a:=by
 unfold World.freeze;split
 ·rfl
 ·simp only [World.cell?,Array.getElem?_modify];by_cases h:g=a.block
  ·simp only [h,if_true]
   cases w.heap[a.block]? with
   | none=>rfl
   | some o=>cases o <;> rfl
  ·simp only [h,if_false]
theorem vL (w:World)(g n:Nat):(w.freeze ⟨g,0,none⟩ n).heap.size=w.heap.size:=by
 unfold World.freeze; split <;> simp
theorem vp (w:World)(g n:Nat):(w.freeze ⟨g,0,none⟩ n).os=w.os/\(w.freeze ⟨g,0,none⟩ n).output=w.output/\(w.freeze ⟨g,0,none⟩ n).tape=w.tape:=by
 unfold World.freeze; split <;> exact ⟨Z,Z,Z⟩
def ghS (g:Gh):Gh:=⟨g.st,λ i=>if M1<=i/\i<2*M1 then g.ow i else none⟩
theorem uq {g:Gh}{i b:Nat}(h:(ghS g).ow i=some b):M1<=i/\i<2*M1/\g.ow i=some b:=by
 simp only [ghS] at h;split at h
 ·rename_i h1; exact ⟨h1.1,h1.2,h⟩
 ·cases h
theorem xP {w w':World}{g:Gh}{q:Nat}(hok:Ok0 w g.st)(hown:∀ i b,g.ow i=some b->b<w.heap.size/\i<2*M1)
  (hinj:∀ i j b,g.ow i=some b->g.ow j=some b->i=j) (hnst:∀ i b,M1<=i->g.ow i=some b->∀ o,¬ g.st b o)
  (hq:g.ow 900000=some q\/w.heap.size<=q) (os:w'.os=w.os) (out:w'.output=w.output) (tape:w'.tape=w.tape) (size:w.heap.size<=w'.heap.size)
  (other:∀ k,k<w.heap.size->k≠q->w'.heap[k]? = w.heap[k]?) (cell:∀ b o,b<w.heap.size->w'.cell? ⟨b,o,none⟩=w.cell? ⟨b,o,none⟩):ml w g w' (ghS g):=by
 have Fe:Ev w g.st w' g.st:=λ k o hk=>⟨hk,cell k o (hok.lt k o hk)⟩
 refine ⟨os,out,tape,size,λ k hk hno=>other k hk (λ e=>?_),λ i k hi=>?_,λ i j k hi hj=>?_,λ k o hk=>Nat.lt_of_lt_of_le (hok.lt k o hk) size,λ k hk _ o=>Iff.rfl,λ i h1 h2=>?_,λ i k c e h1 h2 h3=>?_,λ i k hi hk o=>hnst i k hi hk o,Fe⟩
 ·rcases hq with hq|hq
  ·exact hno _ (e ▸ hq)
  ·omega
 ·obtain ⟨_,_,h1⟩:=uq hi;exact ⟨Nat.lt_of_lt_of_le (hown _ _ h1).1 size,.inr ⟨_,h1⟩⟩
 ·exact hinj _ _ _ (uq hi).2.2 (uq hj).2.2
 ·simp only [ghS]; rw [if_pos ⟨h1,h2⟩]
 ·refine ⟨c,(other k (hown _ _ h2).1 (λ e=>?_)).trans h3,rfl⟩;rcases hq with hq|hq
  ·have:=hinj _ _ _ h2 (e ▸ hq); unfold M1 at *; omega
  ·have:=(hown _ _ h2).1; omega
theorem ob_S {w':World}{g:Gh}{es:List PV}{T b:Nat}{p q:Value}(hb:g.ow 1000000=some b)(h4:∀ o,¬ g.st b o)(h:w'.heap[b]? = some (.cells #[p,q] T (0,0)))
  (hp:p=.pointer none\/p=.pointer (some ⟨b,0,none⟩)) (hq:PRep w' g.st (.slice es) q):jl w' (ghS g) 1000000 [.bptr T 2 1000000,.p (.slice es)]:=by
 have how:(ghS g).ow 1000000=some b:=by simp only [ghS]; rw [if_pos (by decide)]; exact hb
 refine ⟨b,#[p,q],T,how,h,by simp,h4,λ i x hx=>?_⟩
 match i,hx with
 | 0,hx=>
  simp only [List.getElem?_cons_zero,bx] at hx; subst hx;refine ⟨p,rfl,?_⟩;rcases hp with rfl|rfl
  ·exact .bptrn how h Z
  ·exact .bptr how h Z
 | 1,hx=>
  simp only [List.getElem?_cons_succ,List.getElem?_cons_zero,bx] at hx; subst hx;exact ⟨q,rfl,.p hq⟩
 | n+2,hx=>simp at hx
theorem fK (b_0:ay)(r:Az×ay)(h0:dl b_0=some r):cq Tryz.prog 78 [.ptr 1000000 0] [(1000000,[.bptr 140 2 1000000,.vec 900000 1 (5+1) (b_0.El.map eU)])]
  (λ x y=>x=.p (eS r.1)/\y=[(1000000,[.bptr 140 2 1000000,.p (eL eU r.2.El)])]):=by
 obtain ⟨hmax,h0⟩:=gX h0
 cases h0
 intro w g vs hok hown hinj hnst E' hargs hobs;obtain ⟨b,p,q,hb,rfl,hheap,hbs,hp,hq⟩:=Bm E' hargs hobs;have hbl:b<w.heap.size:=(hown _ _ hb).1;obtain ⟨l,hl⟩:∃ l,l=b_0.El:=⟨_,rfl⟩
 rw [<- hl] at hq ⊢
 -- a builder that holds nothing
 have none_:∀ q0,l=[]->q=q0->(Calls Tryz.prog 78 #[.pointer (some ⟨b,0,none⟩)] w λ e w'=>e=.returned (.string ⟨#[]⟩)/\Below w.heap.size w w')->PRep w g.st (.slice []) q0 ->
   Calls Tryz.prog 78 #[.pointer (some ⟨b,0,none⟩)] w λ e w'=>∃ v r obs' g',e=.returned v/\(r=.p (eS l)/\obs'=[(1000000,[.bptr 140 2 1000000,.p (eL eU l)])])/\ARep w' g' r v/\(∀ p∈obs',jl w' g' p.1 p.2)/\ml w g w' g':=by
  rintro q0 rfl rfl hc hr;refine hc.mono ?_;rintro e w' ⟨rfl,hB⟩;have Fh:∀ b o,b<w.heap.size->w'.cell? ⟨b,o,none⟩=w.cell? ⟨b,o,none⟩:=λ b o h=>hB.cell (p:=⟨b,o,none⟩) h;refine ⟨_,_,_,ghS g,rfl,⟨rfl,rfl⟩,.p (.val _),λ x hx=>?_,xP (q:=w.heap.size) hok hown hinj hnst (.inr (mv _)) hB.os hB.output hB.tape hB.size (λ k hk _=>hB.block k hk) Fh⟩;simp only [List.mem_singleton] at hx; subst hx;exact ob_S hb hbs ((hB.block b hbl).trans hheap) hp (hr.mono (w':=w') (st':=g.st) (λ k o hk=>⟨hk,Fh k o (hok.lt k o hk)⟩))
 generalize hes:l.map eU=es at hq
 cases hq with
 | vecn=>
  have e:l=[]:=by simpa using hes
  exact none_ _ e Z (wj b p w hheap) .nils
 | vec how hb2 Fc hsz2 Fi hr hty=>
  rename_i g2 off2 cap c e2
  have he2:e2=5/\off2=0:=by
   rcases hty with h|h
   ·cases h
   ·exact ⟨(Nat.succ.inj h.1).symm,h.2⟩
  obtain ⟨rfl,rfl⟩:=he2;rw [qr] at Fc;simp only [qr] at Fi;have hgl:g2<w.heap.size:=(hown _ _ how).1;subst hes;simp only [cl] at hheap;by_cases hl0:l=[]
  ·subst hl0;by_cases hc0:cap=0
   ·subst hc0;exact none_ _ Z Z (sG b g2 p c w hheap hb2) (by simpa using hr)
   ·exact none_ _ Z Z (vF b g2 cap p w hc0 hheap) (by simpa using hr)
  ·have hcap:l.length<=cap:=by
    obtain ⟨a',cap',he,hle⟩:=nu hr
    cases he
    simpa using hle
   have Fh:∀ (j:Nat) x,l[j]? = some x->w.cell? ⟨g2,j,none⟩=some (.int .u8 x.toNat):=by
    intro j x hx;have hinv:=Cw hsz2 hb2 hr;obtain ⟨_,u,hu,hru⟩:=hinv j (eU x) 0 (eU x) (by simp [hx]) rfl
    cases hru
    simp only [World.cell?,hb2];simpa using hu
   refine (wv b g2 cap p c l w hl0 (by simpa using hheap) hb2 hcap (by simpa using Fc) ?_ Fh).mono ?_
   ·rw [hl]; exact hmax
   rintro e w' ⟨rfl,rfl⟩;have hother:∀ k,k≠g2->(w.drew.freeze ⟨g2,0,none⟩ l.length).heap[k]? = w.heap[k]?:=λ k hk=>uf w.drew g2 _ k hk;have hcell2:∀ b o,(w.drew.freeze ⟨g2,0,none⟩ l.length).cell? ⟨b,o,none⟩=w.cell? ⟨b,o,none⟩:=λ b o=>vz w.drew g2 _ _;obtain ⟨r1,r2,r3⟩:=vp w.drew g2 l.length;refine ⟨_,_,_,ghS g,rfl,⟨rfl,rfl⟩,.p (.val _),λ x hx=>?_,xP (q:=g2) hok hown hinj hnst (.inl how) r1 r2 r3 (by rw [vL]; exact mv _) (λ k _ hk=>hother k hk) (λ b o _=>hcell2 b o)⟩;simp only [List.mem_singleton] at hx; subst hx;have Fo:b≠g2:=λ e=>by subst e; have:=hinj _ _ _ hb how; omega
   exact ob_S hb hbs ((hother b Fo).trans (by simpa using hheap)) hp (by simpa using hr.mono (w':=w.drew.freeze ⟨g2,0,none⟩ l.length) (st':=g.st) (λ k o hk=>⟨hk,hcell2 k o⟩))
end Go.Ab
end
section
namespace Go.Ab.RB
open Go.Proofs Go.Ab
attribute [local irreducible] awp jc bG aB cq AV.sub M dO
def cX (E7:List UInt8)(Fq:Int):Option (List UInt8) :=if IntKind.wrap .u32 (Fq)<=2047 then ck ((0:Int)<=6)<|ck ((0:Int)<=iOr .u8 192 (IntKind.wrap .u8 (fj .i32 Fq 6))/\iOr .u8 192 (IntKind.wrap .u8 (fj .i32 Fq 6))<256)<|ck ((0:Int)<=iOr .u8 128 (cE .u8 (IntKind.wrap .u8 (Fq)) 63)/\iOr .u8 128 (cE .u8 (IntKind.wrap .u8 (Fq)) 63)<256)<|ck ((E7.length+[u8 (iOr .u8 192 (IntKind.wrap .u8 (fj .i32 Fq 6))),u8 (iOr .u8 128 (cE .u8 (IntKind.wrap .u8 (Fq)) 63))].length)*1<=140737488355328)<|some (E7++[u8 (iOr .u8 192 (IntKind.wrap .u8 (fj .i32 Fq 6))),u8 (iOr .u8 128 (cE .u8 (IntKind.wrap .u8 (Fq)) 63))])else(if IntKind.wrap .u32 (Fq)<55296 then some true else if 57343<IntKind.wrap .u32 (Fq) then some (decide (IntKind.wrap .u32 (Fq)<=65535))else some false : Option Bool).bind λ t8=>if t8=true then ck ((0:Int)<=12)<|ck ((0:Int)<=6)<|ck ((0:Int)<=iOr .u8 224 (IntKind.wrap .u8 (fj .i32 Fq 12))/\iOr .u8 224 (IntKind.wrap .u8 (fj .i32 Fq 12))<256)<|ck ((0:Int)<=iOr .u8 128 (cE .u8 (IntKind.wrap .u8 (fj .i32 Fq 6)) 63)/\iOr .u8 128 (cE .u8 (IntKind.wrap .u8 (fj .i32 Fq 6)) 63)<256)<|ck ((0:Int)<=iOr .u8 128 (cE .u8 (IntKind.wrap .u8 (Fq)) 63)/\iOr .u8 128 (cE .u8 (IntKind.wrap .u8 (Fq)) 63)<256)<|ck ((E7.length+[u8 (iOr .u8 224 (IntKind.wrap .u8 (fj .i32 Fq 12))),u8 (iOr .u8 128 (cE .u8 (IntKind.wrap .u8 (fj .i32 Fq 6)) 63)),u8 (iOr .u8 128 (cE .u8 (IntKind.wrap .u8 (Fq)) 63))].length)*1<=140737488355328)<|some (E7++[u8 (iOr .u8 224 (IntKind.wrap .u8 (fj .i32 Fq 12))),u8 (iOr .u8 128 (cE .u8 (IntKind.wrap .u8 (fj .i32 Fq 6)) 63)),u8 (iOr .u8 128 (cE .u8 (IntKind.wrap .u8 (Fq)) 63))])else(if 65535<IntKind.wrap .u32 (Fq) then some (decide (IntKind.wrap .u32 (Fq)<=1114111))else some false : Option Bool).bind λ Fp=>if Fp=true then ck ((0:Int)<=18)<|ck ((0:Int)<=12)<|ck ((0:Int)<=6)<|ck ((0:Int)<=iOr .u8 240 (IntKind.wrap .u8 (fj .i32 Fq 18))/\iOr .u8 240 (IntKind.wrap .u8 (fj .i32 Fq 18))<256)<|ck ((0:Int)<=iOr .u8 128 (cE .u8 (IntKind.wrap .u8 (fj .i32 Fq 12)) 63)/\iOr .u8 128 (cE .u8 (IntKind.wrap .u8 (fj .i32 Fq 12)) 63)<256)<|ck ((0:Int)<=iOr .u8 128 (cE .u8 (IntKind.wrap .u8 (fj .i32 Fq 6)) 63)/\iOr .u8 128 (cE .u8 (IntKind.wrap .u8 (fj .i32 Fq 6)) 63)<256)<|ck ((0:Int)<=iOr .u8 128 (cE .u8 (IntKind.wrap .u8 (Fq)) 63)/\iOr .u8 128 (cE .u8 (IntKind.wrap .u8 (Fq)) 63)<256)<|ck ((E7.length+[u8 (iOr .u8 240 (IntKind.wrap .u8 (fj .i32 Fq 18))),u8 (iOr .u8 128 (cE .u8 (IntKind.wrap .u8 (fj .i32 Fq 12)) 63)),u8 (iOr .u8 128 (cE .u8 (IntKind.wrap .u8 (fj .i32 Fq 6)) 63)),u8 (iOr .u8 128 (cE .u8 (IntKind.wrap .u8 (Fq)) 63))].length)*1<=140737488355328)<|some (E7++[u8 (iOr .u8 240 (IntKind.wrap .u8 (fj .i32 Fq 18))),u8 (iOr .u8 128 (cE .u8 (IntKind.wrap .u8 (fj .i32 Fq 12)) 63)),u8 (iOr .u8 128 (cE .u8 (IntKind.wrap .u8 (fj .i32 Fq 6)) 63)),u8 (iOr .u8 128 (cE .u8 (IntKind.wrap .u8 (Fq)) 63))])else ck ((E7.length+[(239:UInt8),(191:UInt8),(189:UInt8)].length)*1<=140737488355328)<|some (E7++[(239:UInt8),(191:UInt8),(189:UInt8)])
theorem iY (E7:List UInt8)(Fq:Int)(r:(List UInt8))(h0:cX E7 Fq=some r):cq Tryz.prog 199 [.vec 900000 1 (5+1) (E7.map eU),.p (eK .i32 Fq)] [] (λ x y=>x=.vec 2000000 1 (5+1) (r.map eU)/\y=[]):=by
 unfold cX at h0;refine gw good [800000] [] Tryz.func199 Z Z Z Z Z λ w0 F=>mPo (λ v:(List UInt8)=>.vec 2000000 1 (5+1) (v.map eU)) (λ v=>[]) ?_;refine nx 17 Z (fD [11,13] h0 Z (λ c1 h0=>?_) λ c1 h0=>?_)
 ·refine nx 5 Z (cc' h0 λ GX h0=>?_);refine mO Z (l7 Z Z Z Z Z Z GX ?_);refine nx 6 Z (cc' h0 λ IM h0=>?_);refine cc' h0 λ Hg h0=>mO Z (bM eU [u8 (iOr .u8 192 (IntKind.wrap .u8 (fj .i32 Fq 6))),u8 (iOr .u8 128 (cE .u8 (IntKind.wrap .u8 (Fq)) 63))] Z Z Z Z Z Z Z Z Z Z Z Z Z (congr (congrArg List.cons (mW IM)) (congr (congrArg List.cons (mW Hg)) Z)) ?_);refine cc' h0 λ J0 h0=>mO Z (cW eU E7 [u8 (iOr .u8 192 (IntKind.wrap .u8 (fj .i32 Fq 6))),u8 (iOr .u8 128 (cE .u8 (IntKind.wrap .u8 (Fq)) 63))] Z Z Z Z Z Z Z Z Z Z Z Z Z Y Z Z Z Z J0 ?_);exact nx 3 Z (mQo (oi h0) (aT (bu 24 800000 Z Z Z Z Z) (bK _)) Z Z Z Z (sr) trivial)
 refine nx 2 Z (bd h0 λ Hf h1 h0=>?_);refine kN Hf (λ v31=>⟨[(0,.vec 900000 1 (5+1) (E7.map eU)),(1,.p (eK .i32 Fq)),(5,.p (eK .u32 (IntKind.wrap .u32 (Fq)))),(25,.p (eB v31))],[]⟩) ?_ ?_
 ·refine nx 1 Z (fB [25] h0 Z (λ c9 h0=>?_) λ c9 h0=>?_)
  ·refine nx 5 Z (cc' h0 λ G5 h0=>?_);refine mO Z (l7 Z Z Z Z Z Z G5 ?_);refine nx 3 Z (cc' h0 λ H8 h0=>?_);refine mO Z (l7 Z Z Z Z Z Z H8 ?_);refine nx 7 Z (cc' h0 λ GG h0=>?_);refine cc' h0 λ G4 h0=>cc' h0 λ Gt h0=>mO Z (bM eU [u8 (iOr .u8 224 (IntKind.wrap .u8 (fj .i32 Fq 12))),u8 (iOr .u8 128 (cE .u8 (IntKind.wrap .u8 (fj .i32 Fq 6)) 63)),u8 (iOr .u8 128 (cE .u8 (IntKind.wrap .u8 (Fq)) 63))] Z Z Z Z Z Z Z Z Z Z Z Z Z (congr (congrArg List.cons (mW GG)) (congr (congrArg List.cons (mW G4)) (congr (congrArg List.cons (mW Gt)) Z))) ?_);refine cc' h0 λ Gs h0=>mO Z (cW eU E7 [u8 (iOr .u8 224 (IntKind.wrap .u8 (fj .i32 Fq 12))),u8 (iOr .u8 128 (cE .u8 (IntKind.wrap .u8 (fj .i32 Fq 6)) 63)),u8 (iOr .u8 128 (cE .u8 (IntKind.wrap .u8 (Fq)) 63))] Z Z Z Z Z Z Z Z Z Z Z Z Z Y Z Z Z Z Gs ?_);exact nx 3 Z (mQo (oi h0) (aT (bu 49 800000 Z Z Z Z Z) (bK _)) Z Z Z Z (sr) trivial)
  refine nx 2 Z (bd h0 λ KY h1 h0=>?_);refine kN KY (λ Kx=>⟨[(0,.vec 900000 1 (5+1) (E7.map eU)),(1,.p (eK .i32 Fq)),(50,.p (eB Kx))],[]⟩) ?_ ?_
  ·refine nx 1 Z (fB [50] h0 Z (λ Jl h0=>?_) λ Jl h0=>?_)
   ·refine nx 5 Z (cc' h0 λ Hm h0=>?_);refine mO Z (l7 Z Z Z Z Z Z Hm ?_);refine nx 3 Z (cc' h0 λ FI h0=>?_);refine mO Z (l7 Z Z Z Z Z Z FI ?_);refine nx 4 Z (cc' h0 λ GR h0=>?_);refine mO Z (l7 Z Z Z Z Z Z GR ?_);refine nx 7 Z (cc' h0 λ H6 h0=>?_);refine cc' h0 λ GQ h0=>cc' h0 λ G3 h0=>cc' h0 λ H7 h0=>mO Z (bM eU [u8 (iOr .u8 240 (IntKind.wrap .u8 (fj .i32 Fq 18))),u8 (iOr .u8 128 (cE .u8 (IntKind.wrap .u8 (fj .i32 Fq 12)) 63)),u8 (iOr .u8 128 (cE .u8 (IntKind.wrap .u8 (fj .i32 Fq 6)) 63)),u8 (iOr .u8 128 (cE .u8 (IntKind.wrap .u8 (Fq)) 63))] Z Z Z Z Z Z Z Z Z Z Z Z Z (congr (congrArg List.cons (mW H6)) (congr (congrArg List.cons (mW GQ)) (congr (congrArg List.cons (mW G3)) (congr (congrArg List.cons (mW H7)) Z)))) ?_);refine cc' h0 λ Gr h0=>mO Z (cW eU E7 [u8 (iOr .u8 240 (IntKind.wrap .u8 (fj .i32 Fq 18))),u8 (iOr .u8 128 (cE .u8 (IntKind.wrap .u8 (fj .i32 Fq 12)) 63)),u8 (iOr .u8 128 (cE .u8 (IntKind.wrap .u8 (fj .i32 Fq 6)) 63)),u8 (iOr .u8 128 (cE .u8 (IntKind.wrap .u8 (Fq)) 63))] Z Z Z Z Z Z Z Z Z Z Z Z Z Y Z Z Z Z Gr ?_);exact nx 3 Z (mQo (oi h0) (aT (bu 77 800000 Z Z Z Z Z) (bK _)) Z Z Z Z (sr) trivial)
   refine nx 4 Z (mO Z (bM eU [(239:UInt8),(191:UInt8),(189:UInt8)] Z Z Z Z Z Z Z Z Z Z Z Z Z Z ?_));refine cc' h0 λ H5 h0=>mO Z (cW eU E7 [(239:UInt8),(191:UInt8),(189:UInt8)] Z Z Z Z Z Z Z Z Z Z Z Z Z Y Z Z Z Z H5 ?_);exact nx 3 Z (mQo (oi h0) (aT (bu 10 800000 Z Z Z Z Z) (bK _)) Z Z Z Z (sr) trivial)
  refine nx 4 Z (fD [52,53] h1 Z (λ Ih h1=>?_) λ Ih h1=>?_)
  ·exact nx 5 Z (eX _ (oi h1).symm (gE Z Z))
  exact nx 5 Z (eX _ (oi h1).symm (gE Z Z))
 refine nx 6 Z (fD [25,27] h1 Z (λ c6 h1=>?_) λ c6 h1=>?_)
 ·exact nx 2 Z (eX _ (oi h1).symm (gE Z Z))
 refine nx 5 Z (fD [29,30] h1 Z (λ c7 h1=>?_) λ c7 h1=>?_)
 ·exact nx 5 Z (eX _ (oi h1).symm (gE Z Z))
 exact nx 5 Z (eX _ (oi h1).symm (gE Z Z))
def dQ (E7:List UInt8)(Fq:Int):Option (List UInt8) :=if IntKind.wrap .u32 (Fq)<=127 then ck ((0:Int)<=IntKind.wrap .u8 (Fq)/\IntKind.wrap .u8 (Fq)<256)<|ck ((E7.length+[u8 (IntKind.wrap .u8 (Fq))].length)*1<=140737488355328)<|some (E7++[u8 (IntKind.wrap .u8 (Fq))])else(cX E7 Fq).bind λ r4=>some r4
theorem kT (E7:List UInt8)(Fq:Int)(r:(List UInt8))(h0:dQ E7 Fq=some r):cq Tryz.prog 191 [.vec 900000 1 (5+1) (E7.map eU),.p (eK .i32 Fq)] [] (λ x y=>x=.vec 2000000 1 (5+1) (r.map eU)/\y=[]):=by
 unfold dQ at h0;refine gw good [800000] [] Tryz.func191 Z Z Z Z Z λ w0 F=>mPo (λ v:(List UInt8)=>.vec 2000000 1 (5+1) (v.map eU)) (λ v=>[]) ?_;refine nx 11 Z (fD [7] h0 Z (λ c1 h0=>?_) λ c1 h0=>?_)
 ·refine nx 6 Z (cc' h0 λ GX h0=>?_);refine mO Z (bM eU [u8 (IntKind.wrap .u8 (Fq))] Z Z Z Z Z Z Z Z Z Z Z Z Z (congr (congrArg List.cons (mW GX)) Z) ?_);refine cc' h0 λ Hg h0=>mO Z (cW eU E7 [u8 (IntKind.wrap .u8 (Fq))] Z Z Z Z Z Z Z Z Z Z Z Z Z Y Z Z Z Z Hg ?_);exact nx 3 Z (mQo (oi h0) (aT (bu 12 800000 Z Z Z Z Z) (bK _)) Z Z Z Z (sr) trivial)
 refine nx 6 Z (bd h0 λ r4 e5 h0=>?_);refine mO Z (bh [] [900000] 101000 101001 (iY E7 Fq _ e5) Z Z Z Z Z ⟨sr,sr,trivial⟩ Z Z trivial Z Z Z Z Z Z Z Z Tryz.call199 Z Z ?_);exact nx 3 Z (mQo (oi h0) (aT (bu 101000 800000 Z Z Z Z Z) (bK _)) Z Z Z Z (sr) trivial)
def aU (b_0:ay)(s_1:Az):Option (Int×Bool×ay) :=(cp (ay.mk b_0.El)).bind λ r1=>ck ((r1.El.length+s_1.length)*1<=140737488355328)<|some ((s_1.length:Int),false,(ay.mk (r1.El++s_1)))
theorem bE (b_0:ay)(s_1:Az)(r:Int×Bool×ay)(h0:aU b_0 s_1=some r):cq Tryz.prog 77 [.ptr 1000000 0,.p (eS s_1)] [(1000000,[.bptr 140 2 1000000,.vec 900000 1 (5+1) (b_0.El.map eU)])] (λ x y=>x=.tuple [.p (eI r.1),.p (eE r.2.1)]/\y=[(1000000,[.bptr 140 2 1000000,.vec 2000000 1 (5+1) (r.2.2.El.map eU)])]):=by
 unfold aU at h0;refine gw good [800000] [1000000] Tryz.func77 Z Z Z Z Z λ w0 F=>mPo (λ v:Int×Bool×ay=>.tuple [.p (eI v.1),.p (eE v.2.1)]) (λ v=>[(1000000,[.bptr 140 2 1000000,.vec 2000000 1 (5+1) (v.2.2.El.map eU)])]) ?_;refine nx 8 Z (bd h0 λ r1 e2 h0=>?_);refine mO Z (bh [1000000] [900000] 101000 101001 (fg (ay.mk b_0.El) _ e2) Z Z Z Z Z ⟨sr,trivial⟩ Z Z ⟨⟨_,Z,⟨sr,sr,trivial⟩⟩,trivial⟩ Z Z Z Z Z Z Z Z Tryz.call111 Z Z ?_);refine nx 9 Z (cc' h0 λ Hg h0=>?_);refine mO Z (AU r1.El s_1 Z Z Z Z Z Z Z Z Z Z Z Z Z Z Z Hg ?_);refine nx 7 Z (oLs Z ?_);exact nx 4 Z (mQo (oi h0) (aT (bu 14 800000 Z Z Z Z Z) (bK _)) Z Z Z Z (bj ⟨sr,sr,trivial⟩) ⟨⟨_,Z,⟨sr,sr,trivial⟩⟩,trivial⟩)
def bS (b_0:ay)(c_1:Int):Option (Bool×ay) :=(cp (ay.mk b_0.El)).bind λ r1=>ck ((0:Int)<=c_1/\c_1<256)<|ck ((r1.El.length+[u8 c_1].length)*1<=140737488355328)<|some (false,(ay.mk (r1.El++[u8 c_1])))
theorem cN (b_0:ay)(c_1:Int)(r:Bool×ay)(h0:bS b_0 c_1=some r):cq Tryz.prog 170 [.ptr 1000000 0,.p (eK .u8 c_1)] [(1000000,[.bptr 140 2 1000000,.vec 900000 1 (5+1) (b_0.El.map eU)])] (λ x y=>x=.p (eE r.1)/\y=[(1000000,[.bptr 140 2 1000000,.vec 2000000 1 (5+1) (r.2.El.map eU)])]):=by
 unfold bS at h0;refine gw good [800000] [1000000] Tryz.func170 Z Z Z Z Z λ w0 F=>mPo (λ v:Bool×ay=>.p (eE v.1)) (λ v=>[(1000000,[.bptr 140 2 1000000,.vec 2000000 1 (5+1) (v.2.El.map eU)])]) ?_;refine nx 7 Z (bd h0 λ r1 e2 h0=>?_);refine mO Z (bh [1000000] [900000] 101000 101001 (fg (ay.mk b_0.El) _ e2) Z Z Z Z Z ⟨sr,trivial⟩ Z Z ⟨⟨_,Z,⟨sr,sr,trivial⟩⟩,trivial⟩ Z Z Z Z Z Z Z Z Tryz.call111 Z Z ?_);refine nx 9 Z (cc' h0 λ Hg h0=>?_);refine mO Z (bM eU [u8 c_1] Z Z Z Z Z Z Z Z Z Z Z Z Z (congr (congrArg List.cons (mW Hg)) Z) ?_);refine cc' h0 λ IM h0=>mO Z (cW eU r1.El [u8 c_1] Z Z Z Z Z Z Z Z Z Z Z Z Z Y Z Z Z Z IM ?_);exact nx 9 Z (mQo (oi h0) (aT (bu 14 800000 Z Z Z Z Z) (bK _)) Z Z Z Z (sr) ⟨⟨_,Z,⟨sr,sr,trivial⟩⟩,trivial⟩)
def dp (b_0:ay)(Fq:Int):Option (Int×Bool×ay) :=(cp (ay.mk b_0.El)).bind λ r1=>(dQ r1.El Fq).bind λ r3=>ck (inR ((r3.length:Int)-(r1.El.length:Int)))<|some ((r3.length:Int)-(r1.El.length:Int),false,(ay.mk r3))
theorem ky (b_0:ay)(Fq:Int)(r:Int×Bool×ay)(h0:dp b_0 Fq=some r):cq Tryz.prog 168 [.ptr 1000000 0,.p (eK .i32 Fq)] [(1000000,[.bptr 140 2 1000000,.vec 900000 1 (5+1) (b_0.El.map eU)])] (λ x y=>x=.tuple [.p (eI r.1),.p (eE r.2.1)]/\y=[(1000000,[.bptr 140 2 1000000,.vec 2000000 1 (5+1) (r.2.2.El.map eU)])]):=by
 unfold dp at h0;refine gw good [800000] [1000000] Tryz.func168 Z Z Z Z Z λ w0 F=>mPo (λ v:Int×Bool×ay=>.tuple [.p (eI v.1),.p (eE v.2.1)]) (λ v=>[(1000000,[.bptr 140 2 1000000,.vec 2000000 1 (5+1) (v.2.2.El.map eU)])]) ?_;refine nx 8 Z (bd h0 λ r1 e2 h0=>?_);refine mO Z (bh [1000000] [900000] 101000 101001 (fg (ay.mk b_0.El) _ e2) Z Z Z Z Z ⟨sr,trivial⟩ Z Z ⟨⟨_,Z,⟨sr,sr,trivial⟩⟩,trivial⟩ Z Z Z Z Z Z Z Z Tryz.call111 Z Z ?_);refine nx 7 Z (oLl (f:=eU) Z Z ?_);refine nx 10 Z (bd h0 λ r3 e4 h0=>?_);refine mO Z (bh [] [101000] 102000 102001 (kT r1.El Fq _ e4) Z Z Z Z Z ⟨sr,sr,trivial⟩ Z Z trivial Z Z Z Z Z Z Z Z Tryz.call191 Z Z ?_);refine nx 10 Z (oLl (f:=eU) Z Z ?_);refine nx 1 Z (oA h0 Z Z λ J0 h0=>?_);refine nx 3 Z (mG (gE (t:=⟨[(4,.p (eI ((r3.length:Int)-(r1.El.length:Int)))),(5,.p (eE false))],[(1000000,[.bptr 140 2 1000000,.vec 102000 1 (5+1) (r3.map eU)])]⟩) Z Z) ?_);exact nx 1 Z (mQo (oi h0) (aT (bu 102000 800000 Z Z Z Z Z) (bK _)) Z Z Z Z (bj ⟨sr,sr,trivial⟩) ⟨⟨_,Z,⟨sr,sr,trivial⟩⟩,trivial⟩)
def iF (b_0:ay):Option (Int×ay) :=some ((b_0.El.length:Int),(ay.mk b_0.El))
theorem l8 (b_0:ay)(r:Int×ay)(h0:iF b_0=some r):cq Tryz.prog 169 [.ptr 1000000 0] [(1000000,[.bptr 140 2 1000000,.vec 900000 1 (5+1) (b_0.El.map eU)])] (λ x y=>x=.p (eI r.1)/\y=[(1000000,[.bptr 140 2 1000000,.vec 2000000 1 (5+1) (r.2.El.map eU)])]):=by
 unfold iF at h0;refine gw good [800000] [1000000] Tryz.func169 Z Z Z Z Z λ w0 F=>mPo (λ v:Int×ay=>.p (eI v.1)) (λ v=>[(1000000,[.bptr 140 2 1000000,.vec 2000000 1 (5+1) (v.2.El.map eU)])]) ?_;refine nx 10 Z (oLl (f:=eU) Z Z ?_);exact nx 3 Z (mQo (oi h0) (aT (bu 900000 800000 Z Z Z Z Z) (bK _)) Z Z Z Z (sr) ⟨⟨_,Z,⟨sr,sr,trivial⟩⟩,trivial⟩)
end Go.Ab.RB
end
section
namespace Go.Ab
open Go.RowKit
theorem aB.of_calls {P:Program}{f:FuncId}{l:List Value}{r:AV}
  (h:∀ (w:World) (st:Nat->Nat->Prop),Ok0 w st->Calls P f l.toArray w λ e w'=>∃ v,e=.returned v/\Below w.heap.size w w'/\∀ g',ARep w' g' r v):aB P f (l.map PV.val) (·=r):=by
 intro w st vs hok E' hargs
 have e:vs=l.toArray:=by
  apply Array.ext
  ·simpa using E'
  ·intro i h1 h2;have hi:i<l.length:=by simpa using h2
   have:=hargs i (.val l[i]) vs[i] (by simp [hi]) (Array.getElem?_eq_getElem h1);generalize hv:vs[i]=v at this
   cases this
   simp
 subst e;refine (h w st hok).mono ?_;rintro e w' ⟨v,rfl,hB,hr⟩;refine ⟨v,r,⟨st,λ _=>none⟩,rfl,rfl,hr _,⟨hB.os,hB.output,hB.tape,hB.size,λ b hb=>hB.block b hb,?_,?_,λ b o hb=>Nat.lt_of_lt_of_le (hok.lt b o hb) hB.size,λ b _ o=>Iff.rfl⟩⟩
 ·intro i b hi; cases hi
 ·intro i j b hi; cases hi
theorem ni {w:World}{st:Nat->Nat->Prop}(h:kB w st){g j:Nat}{l:List GC}{k:IntKind}{n:Int}(hl:look oY g=some l)(hj:l[j]? = some (.int k n)):w.cell? ⟨g,j,none⟩=some (.int k n):=by
 obtain ⟨_,v,h2,h3⟩:=(h g (l.map GC.pv) (by rw [mu,hl]; rfl)).1 j (.val (.int k n)) (by rw [List.getElem?_map,hj]; rfl)
 cases h3
 exact h2
theorem ve {w:World}{st:Nat->Nat->Prop}(h:kB w st){g j:Nat}{l:List GC}(hl:look oY g=some l)(hj:l[j]? = some .ifc):∃ t v,w.cell? ⟨g,j,none⟩=some (.iface t v):=by
 obtain ⟨_,v,h2,h3⟩:=(h g (l.map GC.pv) (by rw [mu,hl]; rfl)).1 j .ifc (by rw [List.getElem?_map,hj]; rfl)
 cases h3 with
 | ifc t v=>exact ⟨t,v,h2⟩
theorem zT {P:Program}{w:World}{st:Nat->Nat->Prop}(h:kB w st){g:Nat}{l:List GC}{nm:String}{k:IntKind}{zs:List Int}(hl:look oY g=some l)(hn:P.globalNamed nm=some g)(hz:l=zs.map (GC.int k))(Fo:zs≠[]):Lib.TabIs P w nm k zs:=by
 obtain ⟨h0,h1,h2⟩:=h g (l.map GC.pv) (by rw [mu,hl]; rfl);have hc:∀ (j:Nat) z,zs[j]? = some z->w.cell? ⟨g,j,none⟩=some (.int k z):=λ j z hj=>ni h hl (by rw [hz,List.getElem?_map,hj]; rfl);unfold Lib.TabIs World.var?;rw [hn];simp only [Option.bind_some];have E9:(l.map GC.pv).length=zs.length:=by rw [hz]; simp
 rw [E9] at h2
 obtain ⟨z0,hz0⟩:∃ z0,zs[0]? = some z0:=by
  cases zs with
  | nil=>exact absurd Z Fo
  | cons z r=>exact ⟨z,Z⟩
 have hc0:=hc 0 z0 hz0;simp only [World.cell?] at hc hc0 h2
 cases hh:w.heap[g]? with
 | none=>rw [hh] at hc0; cases hc0
 | some o=>
  rw [hh] at hc hc0 h2
  cases o with
  | cells c e fz=>
   simp only [Option.isSome_none,Bool.false_eq_true,if_false] at hc hc0 h2;refine congrArg some ?_;apply Array.ext_getElem?;intro j;by_cases hj:j<zs.length
   ·rw [hc j zs[j] (List.getElem?_eq_getElem hj)];simp [hj]
   ·have h3:c.size<=zs.length:=by
     rcases Nat.lt_or_ge zs.length c.size with h'|h'
     ·rw [Array.getElem?_eq_getElem h'] at h2; cases h2
     ·exact h'
    rw [Array.getElem?_eq_none O,Array.getElem?_eq_none (by simp; omega)]
  | _=>simp at hc0
theorem fQ (s:Az):(str s).data.toList=s:=by simp [str]
theorem jW (w:World):Below w.heap.size w w:=Below.refl _ w
end Go.Ab
end
section
namespace Go.Proofs
open Go.Shelf
def Tryz.lays119_ren:Go.Shelf.Ren:=⟨λ|119=>186|n=>n,λ|21=>21|4=>4|n=>n,λ|n=>n⟩
theorem Tryz.lays119:Go.Proofs.Lays.n119 Tryz.prog Tryz.lays119_ren:={
 mixed:=by kernel_rfl
 f119:=Tryz.func186.trans (congrArg some (by kernel_rfl))
 t4:=Tryz.underlying4
 a4:=Tryz.isAgg4
 z4:=Tryz.sizeOf4
 v4:=Tryz.zeroValue4
 t21:=Tryz.underlying21
 a21:=Tryz.isAgg21
 z21:=Tryz.sizeOf21
 v21:=Tryz.zeroValue21 }
theorem Tryz.utf8_ValidRune (r:Int)(w:World) :
  Calls Tryz.prog 186 #[.int .i32 r] w λ e w'=>e=.returned (.bool (Lib.validRune r))/\w'=w:=Any.utf8_ValidRune Tryz.lays119 r w
def Tryz.lays137_ren:Go.Shelf.Ren:=⟨λ|137=>141|217=>172|266=>192|n=>n,λ|9=>9|5=>5|3=>3|n=>n,λ|n=>n⟩
theorem Tryz.lays137:Go.Proofs.Lays.n137 Tryz.prog Tryz.lays137_ren:={
 mixed:=by kernel_rfl
 f137:=Tryz.func141.trans (congrArg some (by kernel_rfl))
 f217:=Tryz.func172.trans (congrArg some (by kernel_rfl))
 f266:=Tryz.func192.trans (congrArg some (by kernel_rfl))
 t3:=Tryz.underlying3
 a3:=Tryz.isAgg3
 z3:=Tryz.sizeOf3
 v3:=Tryz.zeroValue3
 t5:=Tryz.underlying5
 a5:=Tryz.isAgg5
 z5:=Tryz.sizeOf5
 v5:=Tryz.zeroValue5
 t9:=Tryz.underlying9
 a9:=Tryz.isAgg9
 z9:=Tryz.sizeOf9
 v9:=Tryz.zeroValue9 }
open Go.RowKit in
theorem Tryz.strings_IndexByte (s:ByteArray)(c:Int)(w:World) :
  Calls Tryz.prog 141 #[.string s,.int .u8 c] w λ e w'=>e=.returned (.int .i64 (Lib.indexByte s.data.toList c.toNat.toUInt8))/\w'=w:=Any.strings_IndexByte Tryz.lays137 s c w
def Tryz.lays99_ren:Go.Shelf.Ren:=⟨λ|99=>138|206=>165|n=>n,λ|9=>9|4=>4|3=>3|n=>n,λ|n=>n⟩
theorem Tryz.lays99:Go.Proofs.Lays.n99 Tryz.prog Tryz.lays99_ren:={
 mixed:=by kernel_rfl
 f99:=Tryz.func138.trans (congrArg some (by kernel_rfl))
 f206:=Tryz.func165.trans (congrArg some (by kernel_rfl))
 t3:=Tryz.underlying3
 a3:=Tryz.isAgg3
 z3:=Tryz.sizeOf3
 v3:=Tryz.zeroValue3
 t4:=Tryz.underlying4
 a4:=Tryz.isAgg4
 z4:=Tryz.sizeOf4
 v4:=Tryz.zeroValue4
 t9:=Tryz.underlying9
 a9:=Tryz.isAgg9
 z9:=Tryz.sizeOf9
 v9:=Tryz.zeroValue9 }
open Go.RowKit Go.Lib in
theorem Tryz.strings_HasPrefix (s p:ByteArray)(w:World) :
  Calls Tryz.prog 138 #[.string s,.string p] w λ e w'=>e=.returned (.bool (Lib.hasPrefix s.data.toList p.data.toList))/\w'=w:=Any.strings_HasPrefix Tryz.lays99 s p w
def Tryz.lays103_ren:Go.Shelf.Ren:=⟨λ|103=>135|210=>160|206=>165|n=>n,λ|9=>9|4=>4|24=>188|3=>3|n=>n,λ|n=>n⟩
theorem Tryz.lays103:Go.Proofs.Lays.n103 Tryz.prog Tryz.lays103_ren:={
 mixed:=by kernel_rfl
 f103:=Tryz.func135.trans (congrArg some (by kernel_rfl))
 f206:=Tryz.func165.trans (congrArg some (by kernel_rfl))
 f210:=Tryz.func160.trans (congrArg some (by kernel_rfl))
 t3:=Tryz.underlying3
 a3:=Tryz.isAgg3
 z3:=Tryz.sizeOf3
 v3:=Tryz.zeroValue3
 t4:=Tryz.underlying4
 a4:=Tryz.isAgg4
 z4:=Tryz.sizeOf4
 v4:=Tryz.zeroValue4
 t9:=Tryz.underlying9
 a9:=Tryz.isAgg9
 z9:=Tryz.sizeOf9
 v9:=Tryz.zeroValue9
 t24:=Tryz.underlying188
 a24:=Tryz.isAgg188
 z24:=Tryz.sizeOf188
 v24:=Tryz.zeroValue188 }
open Go.RowKit in
theorem Tryz.strings_CutPrefix (s p:ByteArray)(w:World) :
  Calls Tryz.prog 135 #[.string s,.string p] w λ e w'=>e=.returned (.tuple #[.string ⟨(Lib.trimPrefix s.data.toList p.data.toList).toArray⟩,.bool (Lib.hasPrefix s.data.toList p.data.toList)])/\w'=w:=Any.strings_CutPrefix Tryz.lays103 s p w
def Tryz.laysM171_ren:Go.Shelf.Ren:=⟨λ|171=>47|243=>80|246=>113|283=>145|284=>146|285=>147|286=>148|129=>177|317=>176|318=>178|319=>179|320=>180|337=>195|338=>196|n=>n,λ|3=>3|9=>9|2=>2|4=>4|171=>199|0=>0|53=>200|37=>138|5=>5|173=>203|212=>225|51=>226|20=>20|213=>227|46=>179|232=>251|233=>252|n=>n,λ|17=>1|18=>4|19=>5|n=>n⟩
theorem Tryz.laysM171:Go.Proofs.LaysM.n171 Tryz.prog Tryz.laysM171_ren:={
 mixed:=by kernel_rfl
 f129:=Tryz.func177.trans (congrArg some (by kernel_rfl))
 f171:=Tryz.func47.trans (congrArg some (by kernel_rfl))
 f243:=Tryz.func80.trans (congrArg some (by kernel_rfl))
 f246:=Tryz.func113.trans (congrArg some (by kernel_rfl))
 f283:=Tryz.func145.trans (congrArg some (by kernel_rfl))
 f284:=Tryz.func146.trans (congrArg some (by kernel_rfl))
 f285:=Tryz.func147.trans (congrArg some (by kernel_rfl))
 f286:=Tryz.func148.trans (congrArg some (by kernel_rfl))
 f317:=Tryz.func176.trans (congrArg some (by kernel_rfl))
 f318:=Tryz.func178.trans (congrArg some (by kernel_rfl))
 f319:=Tryz.func179.trans (congrArg some (by kernel_rfl))
 f320:=Tryz.func180.trans (congrArg some (by kernel_rfl))
 f337:=Tryz.func195.trans (congrArg some (by kernel_rfl))
 f338:=Tryz.func196.trans (congrArg some (by kernel_rfl))
 t0:=Tryz.underlying0
 a0:=Tryz.isAgg0
 z0:=Tryz.sizeOf0
 v0:=Tryz.zeroValue0
 t2:=Tryz.underlying2
 a2:=Tryz.isAgg2
 z2:=Tryz.sizeOf2
 v2:=Tryz.zeroValue2
 t3:=Tryz.underlying3
 a3:=Tryz.isAgg3
 z3:=Tryz.sizeOf3
 v3:=Tryz.zeroValue3
 t4:=Tryz.underlying4
 a4:=Tryz.isAgg4
 z4:=Tryz.sizeOf4
 v4:=Tryz.zeroValue4
 t5:=Tryz.underlying5
 a5:=Tryz.isAgg5
 z5:=Tryz.sizeOf5
 v5:=Tryz.zeroValue5
 t9:=Tryz.underlying9
 a9:=Tryz.isAgg9
 z9:=Tryz.sizeOf9
 v9:=Tryz.zeroValue9
 t20:=Tryz.underlying20
 a20:=Tryz.isAgg20
 z20:=Tryz.sizeOf20
 v20:=Tryz.zeroValue20
 t37:=Tryz.underlying138
 a37:=Tryz.isAgg138
 z37:=Tryz.sizeOf138
 v37:=Tryz.zeroValue138
 t46:=Tryz.underlying179
 a46:=Tryz.isAgg179
 z46:=Tryz.sizeOf179
 v46:=Tryz.zeroValue179
 t51:=Tryz.underlying226
 a51:=Tryz.isAgg226
 z51:=Tryz.sizeOf226
 v51:=Tryz.zeroValue226
 t53:=Tryz.underlying200
 a53:=Tryz.isAgg200
 z53:=Tryz.sizeOf200
 v53:=Tryz.zeroValue200
 t171:=Tryz.underlying199
 a171:=Tryz.isAgg199
 z171:=Tryz.sizeOf199
 v171:=Tryz.zeroValue199
 t173:=Tryz.underlying203
 a173:=Tryz.isAgg203
 z173:=Tryz.sizeOf203
 v173:=Tryz.zeroValue203
 t212:=Tryz.underlying225
 a212:=Tryz.isAgg225
 z212:=Tryz.sizeOf225
 v212:=Tryz.zeroValue225
 t213:=Tryz.underlying227
 a213:=Tryz.isAgg227
 z213:=Tryz.sizeOf227
 t232:=Tryz.underlying251
 a232:=Tryz.isAgg251
 z232:=Tryz.sizeOf251
 v232:=Tryz.zeroValue251
 t233:=Tryz.underlying252
 a233:=Tryz.isAgg252
 z233:=Tryz.sizeOf252
 v233:=Tryz.zeroValue252
 g17:=by kernel_rfl
 g18:=by kernel_rfl
 g19:=by kernel_rfl
 i0:=by kernel_rfl
 i2:=by kernel_rfl
 i3:=by kernel_rfl
 i4:=by kernel_rfl
 i5:=by kernel_rfl
 i9:=by kernel_rfl
 i20:=by kernel_rfl
 i37:=by kernel_rfl
 i46:=by kernel_rfl
 i51:=by kernel_rfl
 i53:=by kernel_rfl
 i171:=by kernel_rfl
 i173:=by kernel_rfl
 i212:=by kernel_rfl
 i232:=by kernel_rfl
 i233:=by kernel_rfl
 m17:=by kernel_rfl
 m18:=by kernel_rfl
 m19:=by kernel_rfl }
open Go.RowKit Go.Sort Go.Lib in
theorem Tryz.strconv_Itoa (n:Int)(h0:-9223372036854775808<=n)(h1:n<=9223372036854775807)(w:World)(htab:Lib.TabIs Tryz.prog w "internal/strconv.uint64pow10" .u64 Lib.pow10Tab) :
  Calls Tryz.prog 47 #[.int .i64 n] w λ e w'=>e=.returned (.string ⟨(Lib.itoa n).toArray⟩)/\∃ k os,w'=grow (w.drewN k) os:=Any.strconv_Itoa Tryz.laysM171 n h0 h1 w htab
def Tryz.laysC174_ren:Go.Shelf.Ren:=⟨λ|174=>174|247=>193|245=>194|287=>200|279=>201|280=>202|281=>203|282=>204|321=>205|322=>206|316=>207|171=>47|205=>208|243=>80|246=>113|283=>145|284=>146|285=>147|286=>148|129=>177|317=>176|318=>178|319=>179|320=>180|337=>195|338=>196|n=>n,λ|9=>9|3=>3|2=>2|75=>143|85=>221|4=>4|167=>245|5=>5|53=>200|175=>246|46=>179|168=>248|37=>138|0=>0|210=>255|21=>21|127=>171|145=>259|143=>257|171=>199|173=>203|212=>225|51=>226|20=>20|213=>227|232=>251|233=>252|80=>146|n=>n,λ|15=>6|16=>7|17=>1|18=>4|19=>5|n=>n⟩
theorem Tryz.laysC174:Go.Proofs.LaysC.n174 Tryz.prog Tryz.laysC174_ren:={
 mixed:=by kernel_rfl
 f129:=Tryz.func177.trans (congrArg some (by kernel_rfl))
 f171:=Tryz.func47.trans (congrArg some (by kernel_rfl))
 f174:=Tryz.func174.trans (congrArg some (by kernel_rfl))
 f205:=Tryz.func208.trans (congrArg some (by kernel_rfl))
 f243:=Tryz.func80.trans (congrArg some (by kernel_rfl))
 f245:=Tryz.func194.trans (congrArg some (by kernel_rfl))
 f246:=Tryz.func113.trans (congrArg some (by kernel_rfl))
 f247:=Tryz.func193.trans (congrArg some (by kernel_rfl))
 f279:=Tryz.func201.trans (congrArg some (by kernel_rfl))
 f280:=Tryz.func202.trans (congrArg some (by kernel_rfl))
 f281:=Tryz.func203.trans (congrArg some (by kernel_rfl))
 f282:=Tryz.func204.trans (congrArg some (by kernel_rfl))
 f283:=Tryz.func145.trans (congrArg some (by kernel_rfl))
 f284:=Tryz.func146.trans (congrArg some (by kernel_rfl))
 f285:=Tryz.func147.trans (congrArg some (by kernel_rfl))
 f286:=Tryz.func148.trans (congrArg some (by kernel_rfl))
 f287:=Tryz.func200.trans (congrArg some (by kernel_rfl))
 f316:=Tryz.func207.trans (congrArg some (by kernel_rfl))
 f317:=Tryz.func176.trans (congrArg some (by kernel_rfl))
 f318:=Tryz.func178.trans (congrArg some (by kernel_rfl))
 f319:=Tryz.func179.trans (congrArg some (by kernel_rfl))
 f320:=Tryz.func180.trans (congrArg some (by kernel_rfl))
 f321:=Tryz.func205.trans (congrArg some (by kernel_rfl))
 f322:=Tryz.func206.trans (congrArg some (by kernel_rfl))
 f337:=Tryz.func195.trans (congrArg some (by kernel_rfl))
 f338:=Tryz.func196.trans (congrArg some (by kernel_rfl))
 t0:=Tryz.underlying0
 a0:=Tryz.isAgg0
 z0:=Tryz.sizeOf0
 v0:=Tryz.zeroValue0
 t2:=Tryz.underlying2
 a2:=Tryz.isAgg2
 z2:=Tryz.sizeOf2
 v2:=Tryz.zeroValue2
 t3:=Tryz.underlying3
 a3:=Tryz.isAgg3
 z3:=Tryz.sizeOf3
 v3:=Tryz.zeroValue3
 t4:=Tryz.underlying4
 a4:=Tryz.isAgg4
 z4:=Tryz.sizeOf4
 v4:=Tryz.zeroValue4
 t5:=Tryz.underlying5
 a5:=Tryz.isAgg5
 z5:=Tryz.sizeOf5
 v5:=Tryz.zeroValue5
 t9:=Tryz.underlying9
 a9:=Tryz.isAgg9
 z9:=Tryz.sizeOf9
 v9:=Tryz.zeroValue9
 t20:=Tryz.underlying20
 a20:=Tryz.isAgg20
 z20:=Tryz.sizeOf20
 v20:=Tryz.zeroValue20
 t21:=Tryz.underlying21
 a21:=Tryz.isAgg21
 z21:=Tryz.sizeOf21
 v21:=Tryz.zeroValue21
 t37:=Tryz.underlying138
 a37:=Tryz.isAgg138
 z37:=Tryz.sizeOf138
 v37:=Tryz.zeroValue138
 t46:=Tryz.underlying179
 a46:=Tryz.isAgg179
 z46:=Tryz.sizeOf179
 v46:=Tryz.zeroValue179
 t51:=Tryz.underlying226
 a51:=Tryz.isAgg226
 z51:=Tryz.sizeOf226
 v51:=Tryz.zeroValue226
 t53:=Tryz.underlying200
 a53:=Tryz.isAgg200
 z53:=Tryz.sizeOf200
 v53:=Tryz.zeroValue200
 t75:=Tryz.underlying143
 a75:=Tryz.isAgg143
 z75:=Tryz.sizeOf143
 v75:=Tryz.zeroValue143
 t85:=Tryz.underlying221
 a85:=Tryz.isAgg221
 z85:=Tryz.sizeOf221
 v85:=Tryz.zeroValue221
 t127:=Tryz.underlying171
 a127:=Tryz.isAgg171
 z127:=Tryz.sizeOf171
 v127:=Tryz.zeroValue171
 t143:=Tryz.underlying257
 a143:=Tryz.isAgg257
 z143:=Tryz.sizeOf257
 v143:=Tryz.zeroValue257
 t145:=Tryz.underlying259
 a145:=Tryz.isAgg259
 z145:=Tryz.sizeOf259
 v145:=Tryz.zeroValue259
 t167:=Tryz.underlying245
 a167:=Tryz.isAgg245
 z167:=Tryz.sizeOf245
 v167:=Tryz.zeroValue245
 t168:=Tryz.underlying248
 a168:=Tryz.isAgg248
 z168:=Tryz.sizeOf248
 v168:=Tryz.zeroValue248
 t171:=Tryz.underlying199
 a171:=Tryz.isAgg199
 z171:=Tryz.sizeOf199
 v171:=Tryz.zeroValue199
 t173:=Tryz.underlying203
 a173:=Tryz.isAgg203
 z173:=Tryz.sizeOf203
 v173:=Tryz.zeroValue203
 t175:=Tryz.underlying246
 a175:=Tryz.isAgg246
 z175:=Tryz.sizeOf246
 v175:=Tryz.zeroValue246
 t210:=Tryz.underlying255
 a210:=Tryz.isAgg255
 z210:=Tryz.sizeOf255
 v210:=Tryz.zeroValue255
 t212:=Tryz.underlying225
 a212:=Tryz.isAgg225
 z212:=Tryz.sizeOf225
 v212:=Tryz.zeroValue225
 t213:=Tryz.underlying227
 a213:=Tryz.isAgg227
 z213:=Tryz.sizeOf227
 t232:=Tryz.underlying251
 a232:=Tryz.isAgg251
 z232:=Tryz.sizeOf251
 v232:=Tryz.zeroValue251
 t233:=Tryz.underlying252
 a233:=Tryz.isAgg252
 z233:=Tryz.sizeOf252
 v233:=Tryz.zeroValue252
 g15:=by kernel_rfl
 g16:=by kernel_rfl
 g17:=by kernel_rfl
 g18:=by kernel_rfl
 g19:=by kernel_rfl
 t80:=Tryz.underlying146
 a80:=Tryz.isAgg146
 z80:=Tryz.sizeOf146
 v80:=Tryz.zeroValue146
 i0:=by kernel_rfl
 i2:=by kernel_rfl
 i3:=by kernel_rfl
 i4:=by kernel_rfl
 i5:=by kernel_rfl
 i9:=by kernel_rfl
 i20:=by kernel_rfl
 i21:=by kernel_rfl
 i37:=by kernel_rfl
 i46:=by kernel_rfl
 i51:=by kernel_rfl
 i53:=by kernel_rfl
 i75:=by kernel_rfl
 i80:=by kernel_rfl
 i85:=by kernel_rfl
 i127:=by kernel_rfl
 i143:=by kernel_rfl
 i145:=by kernel_rfl
 i167:=by kernel_rfl
 i168:=by kernel_rfl
 i171:=by kernel_rfl
 i173:=by kernel_rfl
 i175:=by kernel_rfl
 i210:=by kernel_rfl
 i212:=by kernel_rfl
 i232:=by kernel_rfl
 i233:=by kernel_rfl
 m15:=by kernel_rfl
 m16:=by kernel_rfl
 m17:=by kernel_rfl
 m18:=by kernel_rfl
 m19:=by kernel_rfl
 c0:=by kernel_rfl
 c2:=by kernel_rfl
 c3:=by kernel_rfl
 c4:=by kernel_rfl
 c5:=by kernel_rfl
 c9:=by kernel_rfl
 c20:=by kernel_rfl
 c21:=by kernel_rfl
 c37:=by kernel_rfl
 c46:=by kernel_rfl
 c51:=by kernel_rfl
 c53:=by kernel_rfl
 c75:=by kernel_rfl
 c80:=by kernel_rfl
 c85:=by kernel_rfl
 c127:=by kernel_rfl
 c143:=by kernel_rfl
 c145:=by kernel_rfl
 c167:=by kernel_rfl
 c168:=by kernel_rfl
 c171:=by kernel_rfl
 c173:=by kernel_rfl
 c175:=by kernel_rfl
 c210:=by kernel_rfl
 c212:=by kernel_rfl
 c213:=by kernel_rfl
 c232:=by kernel_rfl
 c233:=by kernel_rfl }
open Go.RowKit in
theorem Tryz.strconv_ParseInt_10_at64_ok (s:ByteArray)(hmax:s.size<=9223372036854775806)(v:Int)(h:Lib.parseIntB 64 s.data.toList=.ok v)(w:World) :
  Calls Tryz.prog 174 #[.string s,.int .i64 10,.int .i64 64] w λ e w'=>e=.returned (.tuple #[.int .i64 v,.nilIface])/\(w'=w\/∃ t,w'=Lib.bytesWorld w 5 t):=Any.strconv_ParseInt_10_at64_ok Tryz.laysC174 s hmax v h w
open Go.RowKit in
theorem Tryz.strconv_ParseInt_10_at64_range (s:ByteArray)(hlim:s.size<=281474976710656)(h:Lib.parseIntB 64 s.data.toList=.range)(ev:Value)(w:World)(hv:w.cell? ⟨7,0,none⟩=some ev)(Fe:ev=.nilIface\/∃ te pe,ev=.iface te pe) :
  Calls Tryz.prog 174 #[.string s,.int .i64 10,.int .i64 64] w λ e w'=>∃ N,e=.returned (.tuple #[.int .i64 (Lib.intSat 64 s.data.toList),.iface 248 (.pointer (some ⟨N,0,none⟩))])/\w.heap.size<=N/\w'.heap[N]? = some (.cells #[.string ⟨#[80,97,114,115,101,73,110,116]⟩,.string s,ev] 255 (0,0))/\Below w.heap.size w w':=Any.strconv_ParseInt_10_at64_range Tryz.laysC174 s hlim h ev w hv Fe
open Go.RowKit in
theorem Tryz.strconv_ParseInt_10_at64_syntax (s:ByteArray)(hlim:s.size<=281474976710656)(h:Lib.parseIntB 64 s.data.toList=Lib.parseIntB 64 [])(ev:Value)(w:World)(hv:w.cell? ⟨6,0,none⟩=some ev)(Fe:ev=.nilIface\/∃ te pe,ev=.iface te pe) :
  Calls Tryz.prog 174 #[.string s,.int .i64 10,.int .i64 64] w λ e w'=>∃ N,e=.returned (.tuple #[.int .i64 (0),.iface 248 (.pointer (some ⟨N,0,none⟩))])/\w.heap.size<=N/\w'.heap[N]? = some (.cells #[.string ⟨#[80,97,114,115,101,73,110,116]⟩,.string s,ev] 255 (0,0))/\Below w.heap.size w w':=Any.strconv_ParseInt_10_at64_syntax Tryz.laysC174 s hlim h ev w hv Fe
def Tryz.lays197_ren:Go.Shelf.Ren:=⟨λ|197=>166|260=>189|n=>n,λ|9=>9|21=>21|3=>3|4=>4|5=>5|105=>214|119=>241|0=>0|46=>179|139=>244|138=>243|n=>n,λ|3=>2|4=>3|n=>n⟩
theorem Tryz.lays197:Go.Proofs.Lays.n197 Tryz.prog Tryz.lays197_ren:={
 mixed:=by kernel_rfl
 f197:=Tryz.func166.trans (congrArg some (by kernel_rfl))
 f260:=Tryz.func189.trans (congrArg some (by kernel_rfl))
 t0:=Tryz.underlying0
 a0:=Tryz.isAgg0
 z0:=Tryz.sizeOf0
 v0:=Tryz.zeroValue0
 t3:=Tryz.underlying3
 a3:=Tryz.isAgg3
 z3:=Tryz.sizeOf3
 v3:=Tryz.zeroValue3
 t4:=Tryz.underlying4
 a4:=Tryz.isAgg4
 z4:=Tryz.sizeOf4
 v4:=Tryz.zeroValue4
 t5:=Tryz.underlying5
 a5:=Tryz.isAgg5
 z5:=Tryz.sizeOf5
 v5:=Tryz.zeroValue5
 t9:=Tryz.underlying9
 a9:=Tryz.isAgg9
 z9:=Tryz.sizeOf9
 v9:=Tryz.zeroValue9
 t21:=Tryz.underlying21
 a21:=Tryz.isAgg21
 z21:=Tryz.sizeOf21
 v21:=Tryz.zeroValue21
 t46:=Tryz.underlying179
 a46:=Tryz.isAgg179
 z46:=Tryz.sizeOf179
 v46:=Tryz.zeroValue179
 t105:=Tryz.underlying214
 a105:=Tryz.isAgg214
 z105:=Tryz.sizeOf214
 v105:=Tryz.zeroValue214
 t119:=Tryz.underlying241
 a119:=Tryz.isAgg241
 z119:=Tryz.sizeOf241
 t138:=Tryz.underlying243
 a138:=Tryz.isAgg243
 z138:=Tryz.sizeOf243
 v138:=Tryz.zeroValue243
 t139:=Tryz.underlying244
 a139:=Tryz.isAgg244
 z139:=Tryz.sizeOf244
 v139:=Tryz.zeroValue244
 g3:=by kernel_rfl
 g4:=by kernel_rfl }
open Go.RowKit Go.Lib in
theorem Tryz.utf8_DecodeRuneInString (s:ByteArray)(w:World)(hT:Lib.Utf8Tabs 2 3 w) :
  Calls Tryz.prog 166 #[.string s] w λ e w'=>e=.returned (.tuple #[.int .i32 (Lib.decodeGo s).1,.int .i64 (Lib.decodeGo s).2])/\Below w.heap.size w w':=Any.utf8_DecodeRuneInString Tryz.lays197 s w hT
def Tryz.lays156_ren:Go.Shelf.Ren:=⟨λ|156=>43|165=>76|166=>77|169=>78|240=>111|241=>112|276=>143|277=>144|n=>n,λ|31=>29|9=>9|3=>3|4=>4|0=>0|20=>20|72=>140|76=>144|70=>137|37=>138|75=>143|127=>171|164=>196|5=>5|80=>146|n=>n,λ|n=>n⟩
theorem Tryz.lays156:Go.Proofs.Lays.n156 Tryz.prog Tryz.lays156_ren:={
 mixed:=by kernel_rfl
 f156:=Tryz.func43.trans (congrArg some (by kernel_rfl))
 f165:=Tryz.func76.trans (congrArg some (by kernel_rfl))
 f166:=Tryz.func77.trans (congrArg some (by kernel_rfl))
 f169:=Tryz.func78.trans (congrArg some (by kernel_rfl))
 f240:=Tryz.func111.trans (congrArg some (by kernel_rfl))
 f241:=Tryz.func112.trans (congrArg some (by kernel_rfl))
 f276:=Tryz.func143.trans (congrArg some (by kernel_rfl))
 f277:=Tryz.func144.trans (congrArg some (by kernel_rfl))
 t0:=Tryz.underlying0
 a0:=Tryz.isAgg0
 z0:=Tryz.sizeOf0
 v0:=Tryz.zeroValue0
 t3:=Tryz.underlying3
 a3:=Tryz.isAgg3
 z3:=Tryz.sizeOf3
 v3:=Tryz.zeroValue3
 t4:=Tryz.underlying4
 a4:=Tryz.isAgg4
 z4:=Tryz.sizeOf4
 v4:=Tryz.zeroValue4
 t9:=Tryz.underlying9
 a9:=Tryz.isAgg9
 z9:=Tryz.sizeOf9
 v9:=Tryz.zeroValue9
 t20:=Tryz.underlying20
 a20:=Tryz.isAgg20
 z20:=Tryz.sizeOf20
 v20:=Tryz.zeroValue20
 t31:=Tryz.underlying29
 a31:=Tryz.isAgg29
 z31:=Tryz.sizeOf29
 v31:=Tryz.zeroValue29
 t37:=Tryz.underlying138
 a37:=Tryz.isAgg138
 z37:=Tryz.sizeOf138
 v37:=Tryz.zeroValue138
 t70:=Tryz.underlying137
 a70:=Tryz.isAgg137
 z70:=Tryz.sizeOf137
 v70:=Tryz.zeroValue137
 t72:=Tryz.underlying140
 a72:=Tryz.isAgg140
 z72:=Tryz.sizeOf140
 v72:=Tryz.zeroValue140
 t75:=Tryz.underlying143
 a75:=Tryz.isAgg143
 z75:=Tryz.sizeOf143
 v75:=Tryz.zeroValue143
 t76:=Tryz.underlying144
 a76:=Tryz.isAgg144
 z76:=Tryz.sizeOf144
 v76:=Tryz.zeroValue144
 t127:=Tryz.underlying171
 a127:=Tryz.isAgg171
 z127:=Tryz.sizeOf171
 v127:=Tryz.zeroValue171
 t164:=Tryz.underlying196
 a164:=Tryz.isAgg196
 z164:=Tryz.sizeOf196
 v164:=Tryz.zeroValue196 }
theorem Tryz.Builder_Extra_156:Builder.Extra Tryz.prog Tryz.lays156_ren:={
 sizeBuilder:=by kernel_rfl
 liesBuilder:=by kernel_rfl
 t5:=Tryz.underlying5
 a5:=Tryz.isAgg5
 z5:=Tryz.sizeOf5
 v5:=Tryz.zeroValue5
 infoByte:=by kernel_rfl
 cellsByte:=by kernel_rfl
 sizeByte:=by kernel_rfl
 neB5:=by decide }
open Go.RowKit in
theorem Tryz.strings_Join (bk o c:Nat)(xs:List ByteArray)(sep:ByteArray)(w:World)(hcells:∀ (j:Nat) x,xs[j]? = some x->w.cell? ⟨bk,o+j,none⟩=some (.string x))(hbk:bk<w.heap.size)(hN:xs.length<=140737488355328)(hcap:xs.length<=c)(E9:(Lib.join (xs.map (·.data.toList)) sep.data.toList).length<=140737488355328) :
  Calls Tryz.prog 43 #[.slice (some ⟨bk,o,none⟩) xs.length c,.string sep] w λ e w'=>e=.returned (.string ⟨(Lib.join (xs.map (·.data.toList)) sep.data.toList).toArray⟩)/\Below w.heap.size w w':=Any.strings_Join Tryz.lays156 Tryz.Builder_Extra_156 bk o c xs sep w hcells hbk hN hcap E9
open Go.RowKit in
theorem Tryz.strings_Join_none (a:Option Addr)(c:Nat)(sep:ByteArray)(w:World) :
  Calls Tryz.prog 43 #[.slice a 0 c,.string sep] w λ e w'=>e=.returned (.string ⟨#[]⟩)/\w'=w:=Any.strings_Join_none Tryz.lays156 Tryz.Builder_Extra_156 a c sep w
def Tryz.lays153_ren:Go.Shelf.Ren:=⟨λ|153=>136|152=>161|226=>162|227=>163|228=>164|137=>141|119=>186|224=>187|225=>188|217=>172|266=>192|n=>n,λ|9=>9|3=>3|4=>4|5=>5|21=>21|117=>212|116=>211|0=>0|46=>179|124=>235|n=>n,λ|n=>n⟩
theorem Tryz.lays153:Go.Proofs.Lays.n153 Tryz.prog Tryz.lays153_ren:={
 mixed:=by kernel_rfl
 f119:=Tryz.func186.trans (congrArg some (by kernel_rfl))
 f137:=Tryz.func141.trans (congrArg some (by kernel_rfl))
 f152:=Tryz.func161.trans (congrArg some (by kernel_rfl))
 f153:=Tryz.func136.trans (congrArg some (by kernel_rfl))
 f217:=Tryz.func172.trans (congrArg some (by kernel_rfl))
 f224:=Tryz.func187.trans (congrArg some (by kernel_rfl))
 f225:=Tryz.func188.trans (congrArg some (by kernel_rfl))
 f226:=Tryz.func162.trans (congrArg some (by kernel_rfl))
 f227:=Tryz.func163.trans (congrArg some (by kernel_rfl))
 f228:=Tryz.func164.trans (congrArg some (by kernel_rfl))
 f266:=Tryz.func192.trans (congrArg some (by kernel_rfl))
 t0:=Tryz.underlying0
 a0:=Tryz.isAgg0
 z0:=Tryz.sizeOf0
 v0:=Tryz.zeroValue0
 t3:=Tryz.underlying3
 a3:=Tryz.isAgg3
 z3:=Tryz.sizeOf3
 v3:=Tryz.zeroValue3
 t4:=Tryz.underlying4
 a4:=Tryz.isAgg4
 z4:=Tryz.sizeOf4
 v4:=Tryz.zeroValue4
 t5:=Tryz.underlying5
 a5:=Tryz.isAgg5
 z5:=Tryz.sizeOf5
 v5:=Tryz.zeroValue5
 t9:=Tryz.underlying9
 a9:=Tryz.isAgg9
 z9:=Tryz.sizeOf9
 v9:=Tryz.zeroValue9
 t21:=Tryz.underlying21
 a21:=Tryz.isAgg21
 z21:=Tryz.sizeOf21
 v21:=Tryz.zeroValue21
 t46:=Tryz.underlying179
 a46:=Tryz.isAgg179
 z46:=Tryz.sizeOf179
 v46:=Tryz.zeroValue179
 t116:=Tryz.underlying211
 a116:=Tryz.isAgg211
 z116:=Tryz.sizeOf211
 t117:=Tryz.underlying212
 a117:=Tryz.isAgg212
 z117:=Tryz.sizeOf212
 v117:=Tryz.zeroValue212
 t124:=Tryz.underlying235
 a124:=Tryz.isAgg235
 z124:=Tryz.sizeOf235
 v124:=Tryz.zeroValue235 }
open Go.RowKit Go.Lib in
theorem Tryz.strings_IndexAny_long (hv116:∀ w,(zeroValue 211).run Tryz.prog w=.ok (.agg (Array.replicate 256 (.bool false))) w)(s chars:ByteArray)(w:World)(h2:2<=chars.size)(h8:8<s.size)(hs:s.size<4294967281)(Fc:chars.size<4294967281)(hascii:∀ (j:Nat) b,chars.data.toList[j]? = some b->b.toNat<128) :
  Calls Tryz.prog 136 #[.string s,.string chars] w λ e w'=>e=.returned (.int .i64 (Lib.indexAny s.data.toList chars.data.toList))/\w'=((w.alloc (.cells (Lib.setCells chars.data.toList) 211)).alloc (.cells (Lib.setCells chars.data.toList) 211)):=Any.strings_IndexAny_long Tryz.lays153 hv116 (by kernel_rfl) s chars w h2 h8 hs Fc hascii
def Tryz.lays152_ren:Go.Shelf.Ren:=⟨λ|152=>161|137=>141|119=>186|224=>187|225=>188|217=>172|266=>192|n=>n,λ|9=>9|21=>21|3=>3|4=>4|5=>5|0=>0|46=>179|n=>n,λ|n=>n⟩
theorem Tryz.lays152:Go.Proofs.Lays.n152 Tryz.prog Tryz.lays152_ren:={
 mixed:=by kernel_rfl
 f119:=Tryz.func186.trans (congrArg some (by kernel_rfl))
 f137:=Tryz.func141.trans (congrArg some (by kernel_rfl))
 f152:=Tryz.func161.trans (congrArg some (by kernel_rfl))
 f217:=Tryz.func172.trans (congrArg some (by kernel_rfl))
 f224:=Tryz.func187.trans (congrArg some (by kernel_rfl))
 f225:=Tryz.func188.trans (congrArg some (by kernel_rfl))
 f266:=Tryz.func192.trans (congrArg some (by kernel_rfl))
 t0:=Tryz.underlying0
 a0:=Tryz.isAgg0
 z0:=Tryz.sizeOf0
 v0:=Tryz.zeroValue0
 t3:=Tryz.underlying3
 a3:=Tryz.isAgg3
 z3:=Tryz.sizeOf3
 v3:=Tryz.zeroValue3
 t4:=Tryz.underlying4
 a4:=Tryz.isAgg4
 z4:=Tryz.sizeOf4
 v4:=Tryz.zeroValue4
 t5:=Tryz.underlying5
 a5:=Tryz.isAgg5
 z5:=Tryz.sizeOf5
 v5:=Tryz.zeroValue5
 t9:=Tryz.underlying9
 a9:=Tryz.isAgg9
 z9:=Tryz.sizeOf9
 v9:=Tryz.zeroValue9
 t21:=Tryz.underlying21
 a21:=Tryz.isAgg21
 z21:=Tryz.sizeOf21
 v21:=Tryz.zeroValue21
 t46:=Tryz.underlying179
 a46:=Tryz.isAgg179
 z46:=Tryz.sizeOf179
 v46:=Tryz.zeroValue179 }
open Go.RowKit Go.Lib in
theorem Tryz.strings_IndexRune_ascii (s:ByteArray)(r:Int)(w:World)(h0:0<=r)(h1:r<128) :
  Calls Tryz.prog 161 #[.string s,.int .i32 r] w λ e w'=>e=.returned (.int .i64 (Lib.indexByte s.data.toList r.toNat.toUInt8))/\w'=w:=Any.strings_IndexRune_ascii Tryz.lays152 s r w h0 h1
def Tryz.lays226_ren:Go.Shelf.Ren:=⟨λ|226=>162|n=>n,λ|3=>3|4=>4|n=>n,λ|n=>n⟩
theorem Tryz.lays226:Go.Proofs.Lays.n226 Tryz.prog Tryz.lays226_ren:={
 mixed:=by kernel_rfl
 f226:=Tryz.func162.trans (congrArg some (by kernel_rfl))
 t3:=Tryz.underlying3
 a3:=Tryz.isAgg3
 z3:=Tryz.sizeOf3
 v3:=Tryz.zeroValue3
 t4:=Tryz.underlying4
 a4:=Tryz.isAgg4
 z4:=Tryz.sizeOf4
 v4:=Tryz.zeroValue4 }
open Go.RowKit Go.Lib in
theorem Tryz.strings_shouldUseASCIISet (n:Int)(w:World) :
  Calls Tryz.prog 162 #[.int .i64 n] w λ e w'=>e=.returned (.bool (decide (8<n)))/\w'=w:=Any.strings_shouldUseASCIISet Tryz.lays226 n w
end Go.Proofs
end
section
namespace Go.Ab
open Go.Proofs Go.RowKit
def strings_IndexByte (s:Az)(c:Int):Option Int:=some (Lib.indexByte s c.toNat.toUInt8)
theorem kh (E5:Az)(c_1:Int)(r:Int)(h0:strings_IndexByte E5 c_1=some r):aB Tryz.prog 141 [eS E5,eK .u8 c_1] (·=.p (eI r)):=by
 cases h0
 refine aB.of_calls (l:=[.string (str E5),.int .u8 c_1]) λ w st hok=>(Tryz.strings_IndexByte _ _ w).mono ?_;rintro e w' ⟨rfl,rfl⟩;rw [fQ];exact ⟨_,rfl,jW _,λ _=>.p (.val _)⟩
def dm (r:Int):Option Bool:=some (Lib.validRune r)
theorem iD (Ft:Int)(r:Bool)(h0:dm Ft=some r):aB Tryz.prog 186 [eK .i32 Ft] (·=.p (eB r)):=by
 cases h0
 refine aB.of_calls (l:=[.int .i32 Ft]) λ w st hok=>(Tryz.utf8_ValidRune _ w).mono ?_;rintro e w' ⟨rfl,rfl⟩;exact ⟨_,rfl,jW _,λ _=>.p (.val _)⟩
theorem rp {w:World}{g:Gh}{a b:Value}:ARep w g (.tuple [.p (.val a),.p (.val b)]) (.tuple #[a,b]):=by
 refine .tuple Z λ i c v h1 h2=>?_
 match i,h1,h2 with
 | 0,h1,h2=>simp at h1 h2; subst h1 h2; exact .p (.val _)
 | 1,h1,h2=>simp at h1 h2; subst h1 h2; exact .p (.val _)
 | n+2,h1,_=>simp at h1
def strings_CutPrefix (s p:Az):Option (Az×Bool):=some (Lib.trimPrefix s p,Lib.hasPrefix s p)
theorem kj (E5 p_1:Az)(r:Az×Bool)(h0:strings_CutPrefix E5 p_1=some r):aB Tryz.prog 135 [eS E5,eS p_1] (·=.tuple [.p (eS r.1),.p (eB r.2)]):=by
 cases h0
 refine aB.of_calls (l:=[.string (str E5),.string (str p_1)]) λ w st hok=>(Tryz.strings_CutPrefix _ _ w).mono ?_;rintro e w' ⟨rfl,rfl⟩;rw [fQ,fQ];exact ⟨_,rfl,jW _,λ _=>rp⟩
def strings_HasPrefix (s p:Az):Option Bool:=some (Lib.hasPrefix s p)
theorem np (E5 p_1:Az)(r:Bool)(h0:strings_HasPrefix E5 p_1=some r):aB Tryz.prog 138 [eS E5,eS p_1] (·=.p (eB r)):=by
 cases h0
 refine aB.of_calls (l:=[.string (str E5),.string (str p_1)]) λ w st hok=>(Tryz.strings_HasPrefix _ _ w).mono ?_;rintro e w' ⟨rfl,rfl⟩;rw [fQ,fQ];exact ⟨_,rfl,jW _,λ _=>.p (.val _)⟩
def strconv_Itoa (n:Int):Option Az:=ck (inR n)<|some (Lib.itoa n)
theorem gH (i_0:Int)(r:Az)(h0:strconv_Itoa i_0=some r):aB Tryz.prog 47 [eI i_0] (·=.p (eS r)):=by
 obtain ⟨hr,h0⟩:=gX h0
 cases h0
 refine aB.of_calls (l:=[.int .i64 i_0]) λ w st hok=>(Tryz.strconv_Itoa _ hr.1 hr.2 w (zT hok.gl (g:=1) rfl (by kernel_rfl) (by kernel_rfl) (by decide))).mono ?_;rintro e w' ⟨rfl,k,os,rfl⟩;exact ⟨_,rfl,Lib.below_grow _ w (mv _) k os,λ _=>.p (.val _)⟩
theorem yw:(List.range 256).all (λ c=>match Bg[c]? with|some (.int .u8 n)=>n==(Lib.firstT c:Int)|_=>false)=true:=by kernel_rfl
theorem BO:(List.range 16).all (λ c=>(match zy[2*c]? with|some (.int .u8 n)=>n==(Lib.accLo c:Int)|_=>false)&&(match zy[2*c+1]? with|some (.int .u8 n)=>n==(Lib.accHi c:Int)|_=>false))=true:=by kernel_rfl
theorem zY {o:Option GC}{m:Int}(h:(match o with|some (.int .u8 n)=>n==m|_=>false)=true):o=some (.int .u8 m):=by
 split at h
 ·rw [eq_of_beq h]
 ·cases h
theorem zG {w:World}{st:Nat->Nat->Prop}(h:kB w st):Lib.Utf8Tabs 2 3 w:=by
 refine ⟨λ c hc=>ni h Z (zY (ur.1 yw c (by simpa using hc))),λ i hi=>?_⟩;have:=ur.1 BO i (by simpa using hi);simp only [th] at this;exact ⟨ni h Z (zY this.1),ni h Z (zY this.2)⟩
def cZ (s:Az):Option (Int×Int):=some ((Lib.decodeGo (str s)).1,(Lib.decodeGo (str s)).2)
theorem jf (E5:Az)(r:Int×Int)(h0:cZ E5=some r):aB Tryz.prog 166 [eS E5] (·=.tuple [.p (eK .i32 r.1),.p (eI r.2)]):=by
 cases h0
 refine aB.of_calls (l:=[.string (str E5)]) λ w st hok=>(Tryz.utf8_DecodeRuneInString _ w (zG hok.gl)).mono ?_;rintro e w' ⟨rfl,hB⟩;exact ⟨_,rfl,hB,λ _=>rp⟩
theorem v6 (w:World)(e:TypeId)(t:ByteArray):Below w.heap.size w (Lib.bytesWorld w e t) :=
 ⟨Z,Z,Z,by rw [Lib.bytesWorld_size]; omega,λ k hk=>Lib.bytesWorld_at_old w e t k hk⟩
def ix (s:Az)(b z:Int):Option (Int×Bool):=ck (b=10/\z=64/\s.length<=281474976710656)<|some (match Lib.parseIntB 64 s with|.ok v=>(v,false)|.range=>(Lib.intSat 64 s,true)|_=>(0,true))
theorem xA {w:World}{g:Gh}{a:Int}{t:TypeId}{v:Value}:ARep w g (.tuple [.p (eI a),.p (eE true)]) (.tuple #[.int .i64 a,.iface t v]):=by
 refine .tuple Z λ i c v h1 h2=>?_
 match i,h1,h2 with
 | 0,h1,h2=>simp at h1 h2; subst h1 h2; exact .p (.val _)
 | 1,h1,h2=>simp at h1 h2; subst h1 h2; exact .p (.ifc _ _)
 | n+2,h1,_=>simp at h1
theorem nT (E5:Az)(base_1 bitSize_2:Int)(r:Int×Bool)(h0:ix E5 base_1 bitSize_2=some r):aB Tryz.prog 174 [eS E5,eI base_1,eI bitSize_2] (·=.tuple [.p (eI r.1),.p (eE r.2)]):=by
 obtain ⟨⟨rfl,rfl,hl⟩,h1⟩:=gX h0;have E':(str E5).size<=281474976710656:=by rw [iN]; exact hl
 refine aB.of_calls (l:=[.string (str E5),.int .i64 10,.int .i64 64]) λ w st hok=>?_
 cases hp:Lib.parseIntB 64 E5 with
 | ok v=>
  rw [hp] at h1; cases h1;refine (Tryz.strconv_ParseInt_10_at64_ok (str E5) O v (by rw [fQ]; exact hp) w).mono ?_;rintro e w' ⟨rfl,h⟩;refine ⟨_,rfl,?_,λ _=>rp⟩;rcases h with rfl|⟨t,rfl⟩
  ·exact jW _
  ·exact v6 _ _ _
 | range=>
  rw [hp] at h1; cases h1;obtain ⟨t,v,hv⟩:=ve hok.gl (g:=7) (j:=0) rfl rfl;refine (Tryz.strconv_ParseInt_10_at64_range (str E5) E' (by rw [fQ]; exact hp) _ w hv (.inr ⟨_,_,rfl⟩)).mono ?_;rintro e w' ⟨N,rfl,_,_,hB⟩;rw [fQ];exact ⟨_,rfl,hB,λ _=>xA⟩
 | _=>
  rw [hp] at h1; cases h1;obtain ⟨t,v,hv⟩:=ve hok.gl (g:=6) (j:=0) rfl rfl;refine (Tryz.strconv_ParseInt_10_at64_syntax (str E5) E' (by rw [fQ]; exact hp) _ w hv (.inr ⟨_,_,rfl⟩)).mono ?_;rintro e w' ⟨N,rfl,_,_,hB⟩;exact ⟨_,rfl,hB,λ _=>xA⟩
end Go.Ab
namespace Go.Ab
open Go.Proofs Go.RowKit Go
def hexDigit (n:Nat):UInt8:=if n<10 then UInt8.ofNat (48+n) else UInt8.ofNat (87+n)
def g6 (u:Nat):Az:=if u<16 then [hexDigit u] else [hexDigit (u / 16),hexDigit (u%16)]
set_option maxRecDepth 100000 in
theorem tz16 (w:World)(hT:w.cell? ⟨5,15,none⟩=some (.int .u8 4)) :
  Calls Tryz.prog 196 #[.int .u64 16] w λ e w'=>e=.returned (.int .i64 4)/\w'=w:=by
 have hq:IntKind.u64.wrap (Go.bits BinOp.and IntKind.u64 16 (IntKind.u64.wrap (-16))*285870213051353865) / 288230376151711744=15:=by kernel_rfl
 go_enter Tryz.func196,Tryz.ntmps196
 go_wp2
 go_ret
 exact ⟨Z,Z⟩
set_option maxRecDepth 100000 in
theorem pow2 (w:World):Calls Tryz.prog 179 #[.int .i64 16] w λ e w'=>e=.returned (.bool true)/\w'=w:=by
 have hq:bits BinOp.and IntKind.i64 16 15=0:=by kernel_rfl
 go_enter Tryz.func179,Tryz.ntmps179
 go_wp2
 go_ret
 exact ⟨Z,Z⟩
set_option maxRecDepth 100000 in
theorem tz (w:World)(hT:w.cell? ⟨5,15,none⟩=some (.int .u8 4)) :
  Calls Tryz.prog 180 #[.int .u64 16] w λ e w'=>e=.returned (.int .i64 4)/\w'=w:=by
 have HC:=tz16 w hT
 clear hT
 go_enter Tryz.func180,Tryz.ntmps180
 go_wp2_with (go_at_call 196; refine HC.mono ?_; rintro e w' ⟨rfl,rfl⟩)
 go_ret
 exact ⟨Z,Z⟩
end Go.Ab
namespace Go.Ab
open Go.Proofs Go.RowKit Go
abbrev digs:ByteArray:={ data:=#[48,49,50,51,52,53,54,55,56,57,97,98,99,100,101,102,103,104,105,106,107,108,109,110,111,112,113,114,115,116,117,118,119,120,121,122] }
def dig (n:Nat)(h:n<36):UInt8:=digs[n]'(by show n<36; exact h)
theorem wA (n:Nat)(h:n<36):(({ data:=#[48,49,50,51,52,53,54,55,56,57,97,98,99,100,101,102,103,104,105,106,107,108,109,110,111,112,113,114,115,116,117,118,119,120,121,122] }:ByteArray)[n]'(by show n<36; exact h))=dig n h:=rfl
set_option maxRecDepth 100000 in
theorem fb (u:Int)(h0:0<=u)(h1:u<16)(w:World)(hT:w.cell? ⟨5,15,none⟩=some (.int .u8 4)) :
  Calls Tryz.prog 148 #[.slice none 0 0,.int .u64 u,.int .i64 16,.bool false,.bool false] w λ e w'=>e=.returned (.tuple #[.slice none 0 0,.string ⟨[dig u.toNat O].toArray⟩])/\Below w.heap.size w w':=by
 have hlt:(5:Nat)<w.heap.size:=by
  rcases Nat.lt_or_ge 5 w.heap.size with h|h
  ·exact h
  ·simp [World.cell?,Array.getElem?_eq_none h] at hT
 have HZ:Hid (∀ o,Calls Tryz.prog 180 #[.int .u64 16] (w.alloc o) λ e w'=>e=.returned (.int .i64 4)/\w'=w.alloc o):=λ o=>tz (w.alloc o) ((World.cell?_alloc_lt w _ _ hlt).trans hT)
 clear hT
 go_enter Tryz.func148,Tryz.ntmps148
 go_wp2_with (first|(go_at_call 179; refine (pow2 _).mono ?_; rintro e w' ⟨rfl,rfl⟩)|(go_at_call 180; refine (HZ.out _).mono ?_; rintro e w' ⟨rfl,rfl⟩))
 go_loopg [1,13] 1 (λ g uv iv wx=>g=1/\uv=.int .u64 u/\iv=.int .i64 65/\wx=w.alloc (.cells Tryz.zeroCells227 227))
 case atStart=>exact ⟨rfl,rfl,rfl,rfl⟩
 case round=>
  obtain ⟨rfl,rfl,rfl,rfl⟩:=hrel;have hlt16:decide ((16:Int)<=u)=false:=decide_eq_false O
  go_wp2
  rw [wA u.toNat O];generalize hd:dig u.toNat O =dg
  have hcv:=run_convert_bytes_back (P:=Tryz.prog) (w.alloc (.cells (Tryz.zeroCells227.setIfInBounds 64 (.int .u8 dg.toNat)) 227)) 138 9 5 ⟨w.heap.size,64,none⟩ 1 [dg] Tryz.underlying138 Tryz.underlying5 Tryz.underlying9 (λ j hj=>by
   have:j=0:=by simpa using hj
   subst this;rw [add_lit,Nat.add_zero,World.cell?_alloc_new]
   rfl)
  rw [show [dg].length=1 from rfl] at hcv;rw [hcv];simp only [Result.andThen];rw [Oper.upon_value]
  go_wp2
  go_ret2
  subst hd;exact ⟨rfl,(Below.refl _ w).alloc (mv _) _⟩
theorem D9:(List.range 256).all (λ n=>Go.bits BinOp.and IntKind.u64 (n:Int) 15==((n%16:Nat):Int))=true:=by kernel_rfl
set_option maxRecDepth 100000 in
theorem fb2 (u:Nat)(h0:16<=u)(h1:u<256)(w:World)(hT:w.cell? ⟨5,15,none⟩=some (.int .u8 4)) :
  Calls Tryz.prog 148 #[.slice none 0 0,.int .u64 u,.int .i64 16,.bool false,.bool false] w λ e w'=>e=.returned (.tuple #[.slice none 0 0,.string ⟨[dig (u / 16) O,dig (u%16) O].toArray⟩])/\Below w.heap.size w w':=by
 have hlt:(5:Nat)<w.heap.size:=by
  rcases Nat.lt_or_ge 5 w.heap.size with h|h
  ·exact h
  ·simp [World.cell?,Array.getElem?_eq_none h] at hT
 have HZ:Hid (∀ o,Calls Tryz.prog 180 #[.int .u64 16] (w.alloc o) λ e w'=>e=.returned (.int .i64 4)/\w'=w.alloc o):=λ o=>tz (w.alloc o) ((World.cell?_alloc_lt w _ _ hlt).trans hT)
 clear hT
 have hand:Go.bits BinOp.and IntKind.u64 (u:Int) 15=((u%16:Nat):Int):=eq_of_beq (ur.1 D9 u (List.mem_range.2 h1))
 go_enter Tryz.func148,Tryz.ntmps148
 go_wp2_with (first|(go_at_call 179; refine (pow2 _).mono ?_; rintro e w' ⟨rfl,rfl⟩)|(go_at_call 180; refine (HZ.out _).mono ?_; rintro e w' ⟨rfl,rfl⟩))
 go_loopg [1,13] 1 (λ g uv iv wx=>(g=1/\uv=.int .u64 u/\iv=.int .i64 65/\wx=w.alloc (.cells Tryz.zeroCells227 227))\/(g=0/\uv=.int .u64 ((u / 16:Nat):Int)/\iv=.int .i64 64/\wx=w.alloc (.cells (Tryz.zeroCells227.setIfInBounds 64 (.int .u8 (dig (u%16) O).toNat)) 227)))
 case atStart=>exact .inl ⟨rfl,rfl,rfl,rfl⟩
 case round=>
  rcases hrel with ⟨rfl,rfl,rfl,rfl⟩|⟨rfl,rfl,rfl,rfl⟩
  ·have hlt16:decide ((16:Int)<=(u:Int))=true:=decide_eq_true O
   go_wp2
   rw [wA (u%16) O]
   go_roundg 0
   case measure=>omega
   case rel=>exact .inr ⟨rfl,by rw [Int.natCast_ediv]; rfl,rfl,rfl⟩
  ·have hlt16:decide ((16:Int)<=((u / 16:Nat):Int))=false:=decide_eq_false O
   go_wp2
   rw [wA (u / 16) O];generalize hd:dig (u / 16) O =d1;generalize he:dig (u%16) O =d0
   have hcv:=run_convert_bytes_back (P:=Tryz.prog) (w.alloc (.cells ((Tryz.zeroCells227.setIfInBounds 64 (.int .u8 d0.toNat)).setIfInBounds 63 (.int .u8 d1.toNat)) 227)) 138 9 5 ⟨w.heap.size,63,none⟩ 2 [d1,d0] Tryz.underlying138 Tryz.underlying5 Tryz.underlying9 (λ j hj=>by
    have:j=0\/j=1:=by simp at hj; omega
    rcases this with rfl|rfl
    ·rw [add_lit,Nat.add_zero,World.cell?_alloc_new]
     rfl
    ·rw [add_lit,World.cell?_alloc_new]
     rfl)
   rw [show [d1,d0].length=2 from rfl] at hcv;rw [hcv];simp only [Result.andThen];rw [Oper.upon_value]
   go_wp2
   go_ret2
   subst hd he;exact ⟨rfl,(Below.refl _ w).alloc (mv _) _⟩
end Go.Ab
namespace Go.Ab
open Go.Proofs Go.RowKit Go
theorem BF:∀ n:Fin 16,dig n.1 (Nat.lt_of_lt_of_le n.2 (by decide))=hexDigit n.1:=by decide
theorem sn (n:Nat)(h:n<16)(h':n<36):dig n h'=hexDigit n:=BF ⟨n,h⟩
theorem DZ (u:Nat)(h1:u<256)(w:World)(hT:w.cell? ⟨5,15,none⟩=some (.int .u8 4)) :
  Calls Tryz.prog 148 #[.slice none 0 0,.int .u64 u,.int .i64 16,.bool false,.bool false] w λ e w'=>e=.returned (.tuple #[.slice none 0 0,.string ⟨(g6 u).toArray⟩])/\Below w.heap.size w w':=by
 by_cases h:u<16
 ·have:=fb u O O  w hT
  rwa [sn _ O _,Int.toNat_natCast,show [hexDigit u]=g6 u from (if_pos h).symm] at this
 ·have:=fb2 u O h1 w hT
  rwa [sn (u / 16) O _,sn (u%16) O _,show [hexDigit (u / 16),hexDigit (u%16)]=g6 u from (if_neg h).symm] at this
set_option maxRecDepth 100000 in
theorem fint (u:Nat)(h1:u<256)(w:World)(hT:w.cell? ⟨5,15,none⟩=some (.int .u8 4)) :
  Calls Tryz.prog 113 #[.int .i64 u,.int .i64 16] w λ e w'=>e=.returned (.string ⟨(g6 u).toArray⟩)/\Below w.heap.size w w':=by
 have HC:Hid _:=DZ u h1 w hT
 clear hT
 have hneg:decide ((u:Int)<0)=false:=decide_eq_false O;generalize g6 u=tx at HC ⊢
 go_enter Tryz.func113,Tryz.ntmps113
 go_wp2_with (go_at_call 148; refine Calls.mono HC.out ?_; rintro e w' ⟨rfl,hB⟩)
 go_ret
 exact ⟨Z,hB⟩
set_option maxRecDepth 100000 in
theorem Eg (u:Nat)(h1:u<256)(w:World)(hT:w.cell? ⟨5,15,none⟩=some (.int .u8 4)) :
  Calls Tryz.prog 171 #[.int .i64 u,.int .i64 16] w λ e w'=>e=.returned (.string ⟨(g6 u).toArray⟩)/\Below w.heap.size w w':=by
 have HC:Hid _:=fint u h1 w hT
 clear hT
 generalize g6 u=tx at HC ⊢
 go_enter Tryz.func171,Tryz.ntmps171
 go_wp2_with (go_at_call 113; refine Calls.mono HC.out ?_; rintro e w' ⟨rfl,hB⟩)
 go_ret
 exact ⟨Z,hB⟩
def g0 (i b:Int):Option Az:=ck (b=16/\0<=i/\i<256)<|some (g6 i.toNat)
theorem nE (i_0 base_1:Int)(r:Az)(h0:g0 i_0 base_1=some r):aB Tryz.prog 171 [eI i_0,eI base_1] (·=.p (eS r)):=by
 obtain ⟨⟨rfl,h1,h2⟩,h3⟩:=gX h0
 cases h3
 obtain ⟨u,rfl⟩:∃ u:Nat,i_0=u:=⟨i_0.toNat,by omega⟩
 refine aB.of_calls (l:=[.int .i64 u,.int .i64 16]) λ w st hok=>(Eg u O w (ni hok.gl rfl (by kernel_rfl))).mono ?_;rintro e w' ⟨rfl,hB⟩;exact ⟨_,rfl,hB,λ _=>.p (.val _)⟩
end Go.Ab
namespace Go.Ab
open Go.Proofs Go.RowKit Go
theorem decN (n b0 b1 b2 b3:Nat)(hn:1<=n)(h0:b0<256):1<=(Lib.decodeN n b0 b1 b2 b3).2/\(Lib.decodeN n b0 b1 b2 b3).2<=n/\(Lib.decodeN n b0 b1 b2 b3).2<=4 /\
  ((Lib.decodeN n b0 b1 b2 b3).1<128->(Lib.decodeN n b0 b1 b2 b3).2=1/\(Lib.decodeN n b0 b1 b2 b3).1=b0) /\
  (128<=(Lib.decodeN n b0 b1 b2 b3).1->128<=b0/\(2<=(Lib.decodeN n b0 b1 b2 b3).2->128<=b1)/\(3<=(Lib.decodeN n b0 b1 b2 b3).2->128<=b2)/\(4<=(Lib.decodeN n b0 b1 b2 b3).2->128<=b3)) /\
  ((Lib.decodeN n b0 b1 b2 b3).1<55296\/(57343<(Lib.decodeN n b0 b1 b2 b3).1/\(Lib.decodeN n b0 b1 b2 b3).1<=1114111)):=by
 unfold Lib.decodeN
 repeat' split
 all_goals (refine ⟨by dsimp only; omega,by dsimp only; omega,by dsimp only; omega,λ h=>⟨by dsimp only at h ⊢; first|done|omega,by dsimp only at h ⊢; first|done|omega⟩,λ h=>⟨by dsimp only at h; omega,λ k=>by dsimp only at k; omega,λ k=>by dsimp only at k; omega,λ k=>by dsimp only at k; omega⟩,by dsimp only; omega⟩)
end Go.Ab
namespace Go.Ab
open Go.Proofs Go.RowKit Go
abbrev qC:ByteArray:={ data:=#[46,91] }
theorem B9 {P:Program}(w:World)(b:Nat)(s:ByteArray)(pos:Nat)(ty:TypeId)(h:pos<s.size)(hb:w.heap[b]? = some (.stringIter s pos)) :
  (Instr.next (.pointer (some ⟨b,0,none⟩)) true ty).run P w=.ok (.tuple #[.bool true,.int .i64 pos,.int .i32 (Utf8.decode s pos).1]) { w with heap:=w.heap.setIfInBounds b (.stringIter s (pos+(Utf8.decode s pos).2)) }:=by
 simp only [Instr.next,getObj,setObj,Sem.run_bind,Sem.run,hb,Result.andThen,h,if_true];simp [goInt]
theorem zL {P:Program}(w:World)(b:Nat)(s:ByteArray)(pos:Nat)(ty:TypeId)(h:¬ pos<s.size)(hb:w.heap[b]? = some (.stringIter s pos)) :
  (Instr.next (.pointer (some ⟨b,0,none⟩)) true ty).run P w=.ok (.tuple #[.bool false]) w:=by
 simp [Instr.next,getObj,Sem.run,hb,h]
theorem vw (s:ByteArray)(k:Nat)(h:k<s.size):s.data.toList[k]? = some (s.get! k):=by
 have:s.get! k=s[k]'h:=by
  simp [ByteArray.get!,getElem!_pos,h]
  rfl
 rw [this]; exact Lib.data_getElem? s k h
theorem A1 (s:ByteArray)(i:Nat)(h:i<s.size):∃ c k:Nat,Utf8.decode s i=(c,k)/\1<=k/\i+k<=s.size/\(c<128->k=1/\∃ x:UInt8,s.data.toList[i]? = some x/\c=x.toNat) /\
  (128<=c->∀ j b,i<=j->j<i+k->s.data.toList[j]? = some b->128<=b.toNat)/\(c<55296\/(57343<c/\c<=1114111)):=by
 refine ⟨(Utf8.decode s i).1,(Utf8.decode s i).2,rfl,?_⟩;rw [Lib.decode_at];obtain ⟨h1,h2,h3,h4,h5,h6⟩:=decN (s.size-i) (s.get! i).toNat (s.get! (i+1)).toNat (s.get! (i+2)).toNat (s.get! (i+3)).toNat O (UInt8.toNat_lt _);refine ⟨h1,by omega,λ q=>⟨(h4 q).1,s.get! i,vw s i h,(h4 q).2⟩,λ q j b a1 a2 hb=>?_,h6⟩;obtain ⟨q0,q1,q2,q3⟩:=h5 q;have hj:j<s.size:=by omega
 rw [vw s j hj] at hb
 cases hb
 obtain rfl|rfl|rfl|rfl:j=i\/j=i+1\/j=i+2\/j=i+3:=by omega
 ·exact q0
 ·exact q1 O
 ·exact q2 O
 ·exact q3 O
theorem yS (c:Nat)(h:128<=c)(hv:Lib.validRune c=true):(Utf8.encode (c:Int)=⟨#[UInt8.ofNat (0xC0+c / 64),UInt8.ofNat (0x80+c%64)]⟩)\/((Utf8.encode (c:Int)).size=3\/(Utf8.encode (c:Int)).size=4):=by
 have hv2:Utf8.valid (c:Int)=true:=by
  simp only [Lib.validRune,decide_eq_true_eq] at hv;simp only [Utf8.valid,Bool.or_eq_true,th,decide_eq_true_eq];omega
 simp only [Utf8.encode,hv2,if_true,Int.toNat_natCast];rw [if_neg O];by_cases h1:c<2048
 ·rw [if_pos h1]; exact .inl rfl
 ·rw [if_neg h1];by_cases h2:c<65536
  ·rw [if_pos h2]; exact .inr (.inl rfl)
  ·rw [if_neg h2]; exact .inr (.inr rfl)
theorem DT (c:Nat):(UInt8.ofNat (0x80+c%64)).toNat≠91:=by
 rw [UInt8.toNat_ofNat'];omega
theorem below_drewN' {B:Nat}{a w:World}(h:Below B a w)(n:Nat):Below B a (w.drewN n):=h.trans ⟨Z,Z,Z,mv _,λ _ _=>rfl⟩
theorem C9 (c:Int)(w:World):Calls Tryz.prog 141 #[.string ByteArray.empty,.int .u8 c] w λ e w'=>e=.returned (.int .i64 (-1))/\w'=w:=Tryz.strings_IndexByte ByteArray.empty c w
set_option maxRecDepth 1000000 in
theorem C7 (s rs:ByteArray)(c:Nat)(h:128<=c)(hv:Lib.validRune c=true)(Fo:c≠65533)(henc:Utf8.encode (c:Int)=rs)(hs:s.size=2)(hr:rs.size=2)
  (h1:(s[1]' O)≠(rs[1]' O)) (w:World) :
  Calls Tryz.prog 161 #[.string s,.int .i32 c] w λ e w'=>e=.returned (.int .i64 (-1))/\Below w.heap.size w w':=by
 have hlt:decide ((c:Int)<128)=false:=decide_eq_false O;have hne':((c:Int)==65533)=false:=beq_eq_false_iff_ne.2 O;have h0:decide ((0:Int)<=(c:Int))=true:=decide_eq_true O;obtain ⟨x,hx⟩:∃ x,s[1]' O =x:=⟨_,rfl⟩
 obtain ⟨y,hy⟩:∃ y,rs[1]' O =y:=⟨_,rfl⟩
 rw [hx,hy] at h1;have E':(s.size:Int)=2:=by omega
 have hrz:(rs.size:Int)=2:=by omega
 have hb:((x.toNat:Int)!=(y.toNat:Int))=true:=by
  rw [bne_iff_ne];intro e;exact h1 (UInt8.toNat_inj.1 O)
 go_enter Tryz.func161,Tryz.ntmps161
 go_wp2_with (go_at_call 186; refine (Tryz.utf8_ValidRune _ _).mono ?_; rintro e w' ⟨rfl,hw⟩; rw [hw,hv])
 refine wp_scope_straight ?_
 go_wp2
 go_loopg [9] 0 (λ g v wx=>g=0/\v=.int .i64 1/\wx=w)
 case atStart=>exact ⟨rfl,by go_num,rfl⟩
 case round=>
  obtain ⟨rfl,rfl,rfl⟩:=hrel
  go_wp2
  refine wp_scope_straight ?_
  go_wp2
  go_big_quiet (fail)
  go_wp2
  go_big_quiet ((go_at_call 141; exact (C9 _ _).mono (λ _ _ h=>⟨h.1,_,h.2⟩)))
  go_wp2
  simp only [Exit.noGoto,Exit.inBlock,Exit.then]
  go_ret
  exact ⟨Z,below_drewN' (Below.refl _ _) _⟩
set_option maxRecDepth 1000000 in
theorem BW (s rs:ByteArray)(c:Nat)(h:128<=c)(hv:Lib.validRune c=true)(Fo:c≠65533)(henc:Utf8.encode (c:Int)=rs)(hs:s.size=2)(hr:3<=rs.size)(hr4:rs.size<=4)(w:World) :
  Calls Tryz.prog 161 #[.string s,.int .i32 c] w λ e w'=>e=.returned (.int .i64 (-1))/\Below w.heap.size w w':=by
 have hlt:decide ((c:Int)<128)=false:=decide_eq_false O;have hne':((c:Int)==65533)=false:=beq_eq_false_iff_ne.2 O;have h0:decide ((0:Int)<=(c:Int))=true:=decide_eq_true O;obtain ⟨i,hi⟩:∃ i:Nat,rs.size=i+1:=⟨rs.size-1,by omega⟩
 have E':(s.size:Int)=2:=by omega
 have hrz:(rs.size:Int)=(i:Int)+1:=by omega
 have hlast:IntKind.i64.wrap ((i:Int)+1-1)=(i:Int):=by rw [wrap_small _ O O]; omega
 have hend:decide ((i:Int)<2)=false:=decide_eq_false O
 go_enter Tryz.func161,Tryz.ntmps161
 go_wp2_with (go_at_call 186; refine (Tryz.utf8_ValidRune _ _).mono ?_; rintro e w' ⟨rfl,hw⟩; rw [hw,hv])
 refine wp_scope_straight ?_
 go_wp2
 go_loopg [9] 0 (λ g v wx=>g=0/\v=.int .i64 i/\wx=w)
 case atStart=>exact ⟨rfl,by first|rfl|(congr 1; omega),rfl⟩
 case round=>
  obtain ⟨rfl,rfl,rfl⟩:=hrel
  go_wp2
  simp only [Exit.noGoto,Exit.inBlock]
  go_ret
  exact ⟨Z,Below.refl _ _⟩
set_option maxRecDepth 1000000 in
theorem Dj (w:World) :
  Calls Tryz.prog 161 #[.string qC,.int .i32 65533] w λ e w'=>e=.returned (.int .i64 (-1))/\Below w.heap.size w w':=by
 generalize hs:qC=s;have hz:s.size=2:=by rw [<- hs]; rfl
 have ha:∀ i (hi:i<s.size),(s[i]'hi).toNat<128:=by
  subst hs;intro i hi;have:i=0\/i=1:=by have:i<2:=hi; omega
  rcases this with rfl|rfl
  ·show (46:UInt8).toNat<128; decide
  ·show (91:UInt8).toNat<128; decide
 go_enter Tryz.func161,Tryz.ntmps161
 go_wp2
 go_loopg [5,6] 2 (λ g _ _ wx=>∃ i:Nat,i+g=2/\wx=w.iter s i)
 case atStart=>exact ⟨0,rfl,rfl⟩
 case round=>
  obtain ⟨i,hig,rfl⟩:=hrel
  cases gk with
  | zero=>
   obtain rfl:i=2:=by omega
   have hnx:=run_next_end (P:=Tryz.prog) w s 2;rw [hz] at hnx
   go_wp2
   go_ret
   exact ⟨Z,(Below.refl _ w).alloc (mv _) _⟩
  | succ g=>
   have hi:i<s.size:=by omega
   have hx128:=ha i hi;have hnx:=λ ty=>run_next_ascii (P:=Tryz.prog) w s i ty hi hx128;obtain ⟨x,hx⟩:∃ x:UInt8,s[i]'hi=x:=⟨_,rfl⟩
   rw [hx] at hnx hx128;have Fo:((x.toNat:Int)==65533)=false:=beq_eq_false_iff_ne.2 O
   go_wp2
   go_roundg g
   case measure=>omega
   case rel=>exact ⟨i+1,by omega,rfl⟩
end Go.Ab
namespace Go.Ab
open Go.Proofs Go.RowKit Go
theorem Cc (c:Nat)(hv:c<55296\/(57343<c/\c<=1114111))(h:128<=c)(w:World) :
  Calls Tryz.prog 161 #[.string qC,.int .i32 c] w λ e w'=>e=.returned (.int .i64 (-1))/\Below w.heap.size w w':=by
 have hv1:Lib.validRune (c:Int)=true:=by
  simp only [Lib.validRune,decide_eq_true_eq];omega
 by_cases Fo:c=65533
 ·subst Fo; exact Dj w
 ·rcases yS c h hv1 with e|e
  ·refine C7 qC _ c h hv1 Fo e Z Z ?_ w;have h91:=DT c;intro q;apply h91;have q':(91:UInt8)=UInt8.ofNat (0x80+c%64):=q;rw [<- q']
   rfl
  ·exact BW qC _ c h hv1 Fo Z Z O O  w
theorem ww {s cs:List UInt8}{i k:Nat}(Fc:∀ b,cs.contains b=true->b.toNat<128)(h:Lib.NoAny s cs i)(hk:∀ j b,i<=j->j<i+k->s[j]? = some b->128<=b.toNat):Lib.NoAny s cs (i+k):=λ j b hj hb=>by
 by_cases q:j<i
 ·exact h j b q hb
 ·cases hc:cs.contains b with
  | false=>rfl
  | true=>have:=hk j b O hj hb; have:=Fc b hc; omega
theorem zn {B:Nat}{a w:World}(h:Below B a w){b:Nat}(hb:B<=b)(o:Obj):Below B a { w with heap:=w.heap.setIfInBounds b o } :=
 h.trans ⟨Z,Z,Z,by simp,λ k hk=>by
  show (w.heap.setIfInBounds b o)[k]? = _
  rw [Array.getElem?_setIfInBounds_ne O]⟩
set_option maxHeartbeats 8000000 in
set_option maxRecDepth 1000000 in
theorem rz (s:ByteArray)(w:World)(h8:s.size<=8) :
  Calls Tryz.prog 136 #[.string s,.string qC] w λ e w'=>e=.returned (.int .i64 (Lib.indexAny s.data.toList [46,91]))/\Below w.heap.size w w':=by
 have hn1:((qC.size:Int)==1)=false:=rfl;have h8z:decide ((8:Int)<(s.size:Int))=false:=decide_eq_false O
 have Fc:∀ b,([46,91]:List UInt8).contains b=true->b.toNat<128:=by
  intro b hb;simp at hb;rcases hb with rfl|rfl <;> decide
 have hemp:({ data:=#[46,91] }:ByteArray).toList.isEmpty=false:=by rw [Lib.toList_data]; rfl
 go_enter Tryz.func136,Tryz.ntmps136
 go_wp2_with (go_at_call 162; refine (Tryz.strings_shouldUseASCIISet _ _).mono ?_; rintro e w' ⟨rfl,hw⟩; rw [hw,h8z])
 go_loopg [9,10] s.size (λ g _ _ wx=>∃ i:Nat,i+g=s.size/\wx.heap[w.heap.size]? = some (.stringIter s i)/\Hid (Below w.heap.size w wx)/\Hid (Lib.NoAny s.data.toList [46,91] i))
 case atStart=>exact ⟨0,by omega,by simp [World.iter_heap],(Below.refl _ w).alloc (mv _) _,Lib.NoAny.zero _ _⟩
 case round=>
  obtain ⟨i,hig,hit,HB,HN⟩:=hrel
  cases gk with
  | zero=>
   obtain rfl:i=s.size:=by omega
   have hnx:=λ ty=>zL (P:=Tryz.prog) wr w.heap.size s s.size ty O hit
   go_wp2
   go_ret
   exact ⟨by rw [Lib.indexAny_none (by rw [<- Lib.size_eq]; exact HN.out)]; rfl,HB.out⟩
  | succ g=>
   have hi:i<s.size:=by omega
   obtain ⟨c,k,hd,Hw,GX,hlow,hhigh,hval⟩:=A1 s i hi;have hnx:=λ ty=>B9 (P:=Tryz.prog) wr w.heap.size s i ty hi hit;rw [hd] at hnx
   have hlt:w.heap.size<wr.heap.size:=by
    rcases Nat.lt_or_ge w.heap.size wr.heap.size with h|h
    ·exact h
    ·rw [Array.getElem?_eq_none h] at hit; cases hit
   obtain ⟨W1,hW1⟩:∃ W1,({ wr with heap:=wr.heap.setIfInBounds w.heap.size (.stringIter s (i+k)) }:World)=W1:=⟨_,rfl⟩
   have HI:Hid (W1.heap[w.heap.size]? = some (.stringIter s (i+k))):=by
    rw [<- hW1];show (wr.heap.setIfInBounds w.heap.size (.stringIter s (i+k)))[w.heap.size]? = _;rw [Array.getElem?_setIfInBounds_self_of_lt hlt]
   have HL:Hid (w.heap.size<W1.heap.size):=by
    rw [<- hW1]; show w.heap.size<(wr.heap.setIfInBounds _ _).size; simp; exact hlt
   have HB1:Hid (Below w.heap.size w W1):=by rw [<- hW1]; exact zn HB.out (mv _) _
   have Hk:Hid (∃ g',i+k+g'=s.size/\g'<=g):=⟨s.size-(i+k),by omega,by omega⟩
   simp only [hW1] at hnx
   clear hW1 hit HB hd
   by_cases h128:c<128
   ·obtain ⟨rfl,x,hx,rfl⟩:=hlow h128;have Hx:Hid (s.data.toList[i]? = some x):=hx;have HR:Hid _:=Tryz.strings_IndexRune_ascii qC (x.toNat:Int) W1 O O;have hback:((x.toNat:Int)).toNat.toUInt8=x:=by simp
    rw [hback] at HR;have hcon:=Lib.contains_iff_indexByte [46,91] x;rw [show qC.data.toList=[46,91] from rfl] at HR
    clear hx hlow hhigh hval hback
    cases hin:([46,91]:List UInt8).contains x
    ·rw [hin] at hcon;generalize Lib.indexByte [46,91] x=v at HR hcon;have hlt:decide ((0:Int)<=v)=false:=hcon.symm
     clear hcon
     go_wp2_with (go_at_call 161; refine Calls.mono HR.out ?_; rintro e w' ⟨rfl,hw'⟩; rw [hw'])
     go_roundg g
     case measure=>omega
     case rel=>exact ⟨i+1,by omega,HI.out,HB1,HN.out.succ Hx.out hin⟩
    ·rw [hin] at hcon;generalize Lib.indexByte [46,91] x=v at HR hcon;have hge:decide ((0:Int)<=v)=true:=hcon.symm
     clear hcon
     go_wp2_with (go_at_call 161; refine Calls.mono HR.out ?_; rintro e w' ⟨rfl,hw'⟩; rw [hw'])
     go_ret
     exact ⟨by rw [Lib.indexAny_hit HN.out Hx.out hin]; rfl,HB1.out⟩
   ·have HR:Hid _:=Cc c hval O W1;have HN2:Hid _:=ww Fc HN.out (hhigh O)
    clear hlow hhigh hval
    go_wp2_with (go_at_call 161; refine Calls.mono HR.out ?_; rintro e w' ⟨rfl,hB'⟩)
    have h1:w'.heap[w.heap.size]? = some (.stringIter s (i+k)):=(hB'.block _ HL.out).trans HI.out;obtain ⟨g',hg',hg''⟩:=Hk.out
    go_roundg g'
    case measure=>omega
    case rel=>exact ⟨i+k,hg',h1,HB1.out.trans (hB'.mono HB1.out.size),HN2⟩
theorem yy:Tryz.zeroCells211=Array.replicate 256 (.bool false):=by kernel_rfl
theorem Ah (w:World):(zeroValue 211).run Tryz.prog w=.ok (.agg (Array.replicate 256 (.bool false))) w:=by
 rw [<- yy]; exact Tryz.zeroValue211 w
theorem w3 (j:Nat)(b:UInt8)(h:qC.data.toList[j]? = some b):b.toNat<128:=by
 match j,h with
 | 0,h=>cases h; decide
 | 1,h=>cases h; decide
 | n+2,h=>cases h
def strings_IndexAny (s cs:Az):Option Int:=ck (cs=[46,91]/\s.length<4294967281)<|some (Lib.indexAny s cs)
theorem nX (E5 chars_1:Az)(r:Int)(h0:strings_IndexAny E5 chars_1=some r):aB Tryz.prog 136 [eS E5,eS chars_1] (·=.p (eI r)):=by
 obtain ⟨⟨rfl,hl⟩,h1⟩:=gX h0
 cases h1
 refine aB.of_calls (l:=[.string (str E5),.string qC]) λ w st hok=>?_;have hz:(str E5).size=E5.length:=iN _;by_cases h8:(str E5).size<=8
 ·refine (rz (str E5) w h8).mono ?_;rintro e w' ⟨rfl,hB⟩;rw [fQ];exact ⟨_,rfl,hB,λ _=>.p (.val _)⟩
 ·refine (Tryz.strings_IndexAny_long Ah (str E5) qC w (by decide) O O  (by decide) w3).mono ?_;rintro e w' ⟨rfl,rfl⟩;rw [fQ];exact ⟨_,rfl,((Below.refl _ w).alloc (mv _) _).alloc (by show w.heap.size<=(w.heap.push _).size; simp) _,λ _=>.p (.val _)⟩
theorem aB.of_any {P:Program}{f:FuncId}{args:List PV}{r:AV}
  (h:∀ (w:World) (st:Nat->Nat->Prop) (vs:Array Value),Ok0 w st->vs.size=args.length->(∀ (i:Nat) c v,args[i]? = some c->vs[i]? = some v->PRep w st c v) ->
   Calls P f vs w λ e w'=>∃ v,e=.returned v/\Below w.heap.size w w'/\∀ g',ARep w' g' r v):aB P f args (·=r):=by
 intro w st vs hok E' hargs;refine (h w st vs hok E' hargs).mono ?_;rintro e w' ⟨v,rfl,hB,hr⟩;refine ⟨v,r,⟨st,λ _=>none⟩,rfl,rfl,hr _,⟨hB.os,hB.output,hB.tape,hB.size,λ b hb=>hB.block b hb,?_,?_,λ b o hb=>Nat.lt_of_lt_of_le (hok.lt b o hb) hB.size,λ b _ o=>Iff.rfl⟩⟩
 ·intro i b hi; cases hi
 ·intro i j b hi; cases hi
theorem arr2 {vs:Array Value}(h:vs.size=2):∃ a b,vs=#[a,b]/\vs[0]? = some a/\vs[1]? = some b:=by
 refine ⟨vs[0],vs[1],?_,Array.getElem?_eq_getElem _,Array.getElem?_eq_getElem _⟩;apply Array.ext
 ·simpa using h
 ·intro i h1 h2;have:i=0\/i=1:=by omega
  rcases this with rfl|rfl <;> rfl
def strings_Join (xs:List Az)(sep:Az):Option Az:=ck (xs.length<=140737488355328/\(Lib.join xs sep).length<=140737488355328)<|some (Lib.join xs sep)
theorem qM (elems_0:List Az)(sep_1:Az)(r:Az)(h0:strings_Join elems_0 sep_1=some r):aB Tryz.prog 43 [eL eS elems_0,eS sep_1] (·=.p (eS r)):=by
 obtain ⟨⟨h1,h2⟩,h0⟩:=gX h0
 cases h0
 refine aB.of_any λ w st vs hok E' hv=>?_;obtain ⟨a,b,rfl,ha,hb⟩:=arr2 E';have hb1:=hv 1 (eS sep_1) b rfl hb;have ha2:PRep w st (.slice (elems_0.map eS)) a:=hv 0 (eL eS elems_0) a rfl ha
 clear ha hb hv E'
 cases hb1
 have hmap:((elems_0.map str).map (·.data.toList))=elems_0:=by
  rw [List.map_map]
  conv=>rhs; rw [<- List.map_id elems_0]
  exact List.map_congr_left λ x _=>fQ x
 have nil:∀ (a:Option Addr) (c:Nat),elems_0=[]->Calls Tryz.prog 43 #[.slice a 0 c,.string (str sep_1)] w λ e w'=>∃ v,e=.returned v/\Below w.heap.size w w'/\∀ g',ARep w' g' (.p (eS (Lib.join elems_0 sep_1))) v:=by
  rintro a c rfl;refine (Tryz.strings_Join_none a c (str sep_1) w).mono ?_;rintro e w' ⟨rfl,rfl⟩;exact ⟨_,rfl,jW _,λ _=>.p (.val _)⟩
 generalize hes:elems_0.map eS=es at ha2
 cases ha2 with
 | nils=>exact nil _ _ (List.map_eq_nil_iff.1 hes)
 | nile q=>exact nil _ _ (List.map_eq_nil_iff.1 hes)
 | slice sz cf hcap hsz' Ff hc hr=>
  rename_i bk off cap;have E9:es.length=elems_0.length:=by rw [<- hes,cl]
  by_cases he:elems_0=[]
  ·have:es.length=0:=by rw [E9,he]; rfl
   rw [this]; exact nil _ _ he
  obtain ⟨x0,hx0⟩:=List.exists_mem_of_ne_nil _ he
  have hs1:sz=1:=by
   have:=hsz' (eS x0) (by rw [<- hes]; exact List.mem_map_of_mem hx0);exact this.symm
  subst hs1
  have Fh:∀ (j:Nat) x,(elems_0.map str)[j]? = some x->w.cell? ⟨bk,off+j,none⟩=some (.string x)/\st bk (off+j):=by
   intro j x hx;rw [List.getElem?_map] at hx;obtain ⟨y,hy,rfl⟩:=n8.1 hx;have hj:es[j]? = some (eS y):=by rw [<- hes,List.getElem?_map,hy]; rfl
   have q1:=hc j (eS y) 0 (eS y) hj rfl;have q2:=hr j (eS y) 0 (eS y) hj rfl;rw [Nat.mul_one,Nat.add_zero] at q1;generalize hcv:cf j 0=z at q1 q2
   cases q2
   exact ⟨q1.2,q1.1⟩
  have hbk:bk<w.heap.size:=by
   obtain ⟨i,hi,e⟩:=List.getElem_of_mem hx0;exact hok.lt _ _ (Fh i (str x0) (by rw [List.getElem?_map,List.getElem?_eq_getElem hi,e]; rfl)).2
  have hJ:=Tryz.strings_Join bk off cap (elems_0.map str) (str sep_1) w (λ j x hx=>(Fh j x hx).1) hbk (by rw [cl]; exact h1) (by rw [cl,<- E9]; exact hcap) (by rw [hmap,fQ]; exact h2);rw [cl,<- E9] at hJ;refine hJ.mono ?_;rintro e w' ⟨rfl,hbl⟩;rw [hmap,fQ];exact ⟨_,rfl,hbl,λ _=>.p (.val _)⟩
end Go.Ab
end
section
namespace Go.Ab
open Go.MapKept
section
variable {C:Cx} {o:Oper} {K:AS->Prop} {sl:List (Nat×AV)} {ob:List (Nat×List AV)} {d:Nat}
theorem Bq {d:Nat}(hd:d<M1):∀ i,Nat.beq i d=true->i<M1:=λ i hi=>by have:=d3 hi; omega
end
/- As 'dem',for identities of any size; what is known of maps of rows is given up. -/
end Go.Ab
end
section
namespace Go.Ab
section
variable {C:Cx} {o:Oper} {K:AS->Prop} {sl:List (Nat×AV)} {ob:List (Nat×List AV)} {d:Nat}
theorem uw {es ys:List PV}{t tx e e':TypeId}{i ie j:TI}{y:Operand}{Y0z:AV}{k:Nat}(D:Nat->Bool)(hDl:∀ i,D i=true->i<M1)(hDk:D k=true)
  (hi:look C.tt t=some i) (Fj:i.k=.slice e) (hie:look C.tt e=some ie) (hj:look C.tt tx=some j) (hjk:j.k=.slice e')
  (hy:evo sl y=some Y0z) (hY:Y0z.elems? = some ys) (E':∀ y∈es++ys,y.cells=[y]/\y.one=true) (h1s:ie.size=1) (hzl:ie.zero.length=ie.size)
  (E9:(es.length+ys.length)*ie.bytes<=140737488355328) (hlen':es.length+ys.length<=9223372036854775807)
  {g:Gh} {a:Act} {w:World} (hs:St C.n C.w0 C.F g ⟨sl,ob⟩ a w) (base:Option Addr) (cap:Nat) (olds:List Value)
  (hold:(Builtin.firstCells ie.size es.length (.slice base es.length cap)).run C.P w.drew=.ok olds.toArray w.drew) (hol:olds.length=es.length)
  (hoc:∀ (i:Nat) x,es[i]? = some x->∃ u,olds[i]? = some u/\PRep w g.st x u)
  (hg:cap<es.length+ys.length) (ty:TypeId) (hn:Nat.blt d C.n=true) :
  ∃ v w' g',(Builtin.append_ #[t,tx] ty #[.slice base es.length cap,a.eval y]).run C.P w=.ok v w' /\
   St C.n C.w0 C.F g' ⟨(d,.stk k 1 (es++ys))::(cM D ⟨sl,ob⟩).sl,(cM D ⟨sl,ob⟩).ob⟩ (a.put (some d) v) w':=by
 obtain ⟨u,h1,h2⟩:=bP C.good hi;have h3:=bI (h2.trans Fj);subst h3;obtain ⟨u',h1',h2'⟩:=bP C.good hj;have h3':=bI (h2'.trans hjk);subst h3';obtain ⟨info,hf1,hf2,hf3,z,hf4,hf5⟩:=fT C.good hie;have hyv:=fW hY (bV hs hy);have hszy:∀ y∈ys,y.cells=[y]:=λ y hy=>(E' y (List.mem_append_right _ hy)).1;obtain ⟨news,hsrc,hnews⟩:=ol (P:=C.P) (sz:=ie.size) h1' hyv (λ y hy=>by rw [hszy y hy,h1s]; rfl) O;have hfit:=growslice_fits (bytes:=ie.bytes) hg E9;have hrun:=run_append_grow_src w t tx ty e info z h1 hf1 hf4 base es.length cap olds (by rw [hf2]; exact hold) (a.eval y) ys.length news (by rw [hf2]; exact hsrc) hg O (by rw [hf3]; exact hfit);obtain ⟨q,hq⟩:∃ q,q=grownCap w (es.length+ys.length) cap e:=⟨_,rfl⟩
 rw [<- hq] at hrun
 have hqn:es.length+ys.length<=q:=by
  rw [hq]; unfold grownCap; simp only [Question.cut]; omega
 have hzs:z.cells.size=1:=by rw [<- h1s,<- hzl,<- hf5,Array.length_toList]
 have hnl:news.length=ys.length:=by rw [hsrc.newsLen,h1s,Nat.mul_one]
 obtain ⟨c,hc⟩:∃ c,c=(olds++news).toArray++Builtin.zeroCells z.cells (q-(es.length+ys.length)):=⟨_,rfl⟩
 rw [<- hc] at hrun
 have Fc:c.size=q:=by
  rw [hc];simp only [Array.size_append,List.size_toArray,aq,hol,hnl,size_zeroCells,hzs];omega
 have hf:=hs.drew.fresh D hDl k hDk (λ o=>o=q*1) c e;have Fe:=jv (w:=w.drew) (T:=λ o=>o=q*1) (ob:=.cells c e) hs.drew.lt;have hlenA:(es++ys).length=es.length+ys.length:=aq
 have hrep:ARep (w.drew.alloc (.cells c e)) ⟨λ b o=>g.st b o\/(b=w.drew.heap.size/\o=q*1),λ i=>if i=k then some w.drew.heap.size else if D i then none else g.ow i⟩ (.stk k 1 (es++ys)) (.slice (some ⟨w.drew.heap.size,0,none⟩) (es++ys).length q):=by
  refine .stk G bZ O O  (λ x hx=>by rw [(E' x hx).1]; rfl) (λ x hx c hc=>by rw [(E' x hx).1] at hc; obtain rfl:=List.mem_singleton.1 hc; exact (E' c hx).2) (λ o=>?_) (λ i x j p hx hp=>?_)
  ·constructor
   ·rintro (h|⟨_,h⟩)
    ·exact absurd (hs.lt _ _ h) (Nat.lt_irrefl _)
    ·exact h
   ·intro h; exact .inr ⟨rfl,h⟩
  ·rw [(E' x (List.mem_of_getElem? hx)).1] at hp
   have hj:j=0:=by
    have:=(List.getElem?_eq_some_iff.1 hp).1;simpa using this
   subst hj;simp only [List.getElem?_cons_zero,bx] at hp;subst hp;have hil:i<(es++ys).length:=(List.getElem?_eq_some_iff.1 hx).1
   have hget:c[i]? = if i<es.length then olds[i]? else news[i-es.length]?:=by
    rw [hc,Array.getElem?_append];simp only [List.size_toArray,aq,hol,hnl];rw [if_pos O,List.getElem?_toArray,List.getElem?_append,hol]
   rw [Nat.mul_one,Nat.add_zero];rw [List.getElem?_append] at hx;split at hx
   ·rename_i hlt;obtain ⟨u,hu,hr⟩:=hoc i x hx;exact ⟨u,by rw [hget,if_pos hlt]; exact hu,(PRep.mono (w:=w) (w':=w.drew) (st:=g.st) (st':=g.st) (λ b o h=>⟨h,rfl⟩) hr).mono Fe⟩
   ·rename_i hge;obtain ⟨k1,u,hu,hr⟩:=hnews (i-es.length) x 0 x hx (by rw [hszy x (List.mem_of_getElem? hx)]; rfl);rw [h1s,Nat.mul_one,Nat.add_zero] at hu;exact ⟨u,by rw [hget,if_neg hge]; exact hu,(PRep.mono (w:=w) (w':=w.drew) (st:=g.st) (st':=g.st) (λ b o h=>⟨h,rfl⟩) hr).mono Fe⟩
 rw [hlenA] at hrep;have hp:=hf.put (d:=some d) (λ t ht=>by cases ht; exact n7 ▸ hn) hrep;exact ⟨_,_,_,hrun,hp⟩
theorem vi {t tx e e':TypeId}{x y:Operand}{k:Nat}{es:List PV}{Y0z:AV}{ys:List PV}{i ie j:TI}(ho:o.op=.call { callee:=.builtin .append,args:=#[x,y],argTypes:=#[t,tx] })(hd:o.dst=some d)(hn:Nat.blt d C.n=true)
  (hi:look C.tt t=some i) (Fj:i.k=.slice e) (hie:look C.tt e=some ie) (hj:look C.tt tx=some j) (hjk:j.k=.slice e') (hx:evo sl x=some (.stk k 1 es)) (hk:Nat.blt k M1=true)
  (hy:evo sl y=some Y0z) (hY:Y0z.elems? = some ys) (E':∀ y∈es++ys,y.cells=[y]/\y.one=true) (hys:0<ys.length) (h1s:ie.size=1) (hzl:Nat.beq ie.zero.length ie.size=true)
  (E9:(es.length+ys.length)*ie.bytes<=140737488355328) (hlen':es.length+ys.length<=9223372036854775807)
  (hK:K ⟨(d,.stk k 1 (es++ys))::(cM (λ i=>Nat.beq i k) ⟨sl,ob⟩).sl,(cM (λ i=>Nat.beq i k) ⟨sl,ob⟩).ob⟩):bG C o K ⟨sl,ob⟩:=by
 have hzl':=d3 hzl;have hk':k<M1:=n7 ▸ hk
 have hDl:∀ i,(Nat.beq i k)=true->i<M1:=by
  intro i hi;have:=d3 hi; omega
 intro g a w hs;have hxr:=bV hs hx;generalize hxv:a.eval x=xv at hxr
 have hrun0:∀ v w',(Builtin.append_ #[t,tx] o.type #[xv,a.eval y]).run C.P w=.ok v w'->(execOp a.eval o).run C.P w=.ok (.value v) w':=by
  intro v w' h;rw [eY ho];simp [builtin,hxv,h]
 cases hxr with
 | stkn=>
  obtain ⟨v,w',g',hr',hst'⟩:=uw (es:=[]) (k:=k) (λ i=>Nat.beq i k) hDl G hi Fj hie hj hjk hy hY E' h1s hzl' E9 hlen' hs none 0 [] (run_firstCells_none w.drew ie.size 0 0 0) rfl (λ i x hx=>by simp at hx) (by simpa using hys) o.type hn;unfold Oper.wp;rw [hrun0 _ _ hr'];simp only [Oper.upon,hd];exact ⟨g',_,hst',hK⟩
 | stke=>
  rename_i a0;obtain ⟨v,w',g',hr',hst'⟩:=uw (es:=[]) (k:=k) (λ i=>Nat.beq i k) hDl G hi Fj hie hj hjk hy hY E' h1s hzl' E9 hlen' hs (some a0) 0 [] (run_firstCells_some w.drew ie.size 0 a0 0 0 [] G G) rfl (λ i x hx=>by simp at hx) (by simpa using hys) o.type hn;unfold Oper.wp;rw [hrun0 _ _ hr'];simp only [Oper.upon,hd];exact ⟨g',_,hst',hK⟩
 | stk how hb Fc hlenc hszc Ff Fi hr=>
  rename_i b cap c e0;rw [Nat.mul_one] at Fc
  have Fh:∀ (i:Nat) x,es[i]? = some x->∃ u,c[i]? = some u/\PRep w g.st x u:=by
   intro i x hx;obtain ⟨v,h1,h2⟩:=hr i x 0 x hx (by rw [(E' x (List.mem_append_left _ (List.mem_of_getElem? hx))).1]; rfl);exact ⟨v,by rw [Nat.mul_one,Nat.add_zero] at h1; exact h1,h2⟩
  by_cases hroom:es.length+ys.length<=cap
  ·obtain ⟨u,h1,h2⟩:=bP C.good hi;have h3:=bI (h2.trans Fj);subst h3;obtain ⟨u',h1',h2'⟩:=bP C.good hj;have h3':=bI (h2'.trans hjk);subst h3';obtain ⟨info,hf1,hf2,hf3,z,hf4,hf5⟩:=fT C.good hie;have hyv:=fW hY (bV hs hy);have hszy:∀ y∈ys,y.cells=[y]:=λ y hy=>(E' y (List.mem_append_right _ hy)).1;obtain ⟨news,hsrc,hnews⟩:=ol (P:=C.P) (sz:=ie.size) h1' hyv (λ y hy=>by rw [hszy y hy,h1s]; rfl) O;have hnl:news.length=ys.length:=by rw [hsrc.newsLen,h1s,Nat.mul_one]
   have hstc:=run_storeCells_at C.P b (es.length*ie.size) e0 news 0 c w hb (by rw [h1s]; simp; omega) hsrc.one;simp only [Nat.add_zero] at hstc;rw [h1s,Nat.mul_one] at hstc;obtain ⟨c',hc'⟩:∃ c',c'=(c.toList.take es.length++news++c.toList.drop (es.length+news.length)).toArray:=⟨_,rfl⟩
   rw [<- hc'] at hstc;have hrr:=gm t tx o.type e info h1 hf1 b es.length cap (a.eval y) ys.length news (by rw [hf2]; exact hsrc) hroom (by rw [hf2,h1s,Nat.mul_one]; exact hstc)
   have hcell':∀ j,c'[j]? = if es.length<=j/\j<es.length+news.length then news[j-es.length]? else c[j]?:=by
    intro j;rw [hc'];have:=ia c.toList news es.length (by simp; omega) j;simpa using this
   have hcs':c'.size=cap:=by rw [<- Fc,hc']; simp; omega
   have hin:=hs.inplace (λ i=>Nat.beq i k) hDl (k:=k) (d:=k) how G G  hb (c':=c') (hcs'.trans Fc.symm) (λ o h=>by
    have:=(Fi o).1 h
    rw [Array.getElem?_eq_none O,Array.getElem?_eq_none O]) (λ o=>o=cap*1) (λ o h=>(Fi o).1 h)
   have hEv:Ev w g.st (w.setRow b c') (λ b' o=>(b'=b/\o=cap*1)\/(b'≠b/\g.st b' o)):=by
    intro b' o h;by_cases e1:b'=b
    ·subst e1;have ho:=(Fi o).1 h;refine ⟨.inl ⟨rfl,ho⟩,?_⟩;simp only [World.cell?,setRow_heap w b' c c' e0 (0,0) hb,hb];rw [Array.getElem?_eq_none O,Array.getElem?_eq_none O]
    ·exact ⟨.inr ⟨e1,h⟩,by simp only [World.cell?,setRow_other w b b' c' e1]⟩
   have hlenA:(es++ys).length=es.length+ys.length:=aq
   have hrep:ARep (w.setRow b c') ⟨λ b' o=>(b'=b/\o=cap*1)\/(b'≠b/\g.st b' o),λ i=>if i=k then some b else if (Nat.beq i k) then none else g.ow i⟩ (.stk k 1 (es++ys)) (.slice (some ⟨b,0,none⟩) (es++ys).length cap):=by
    refine .stk G (setRow_heap w b c c' e0 (0,0) hb) O O  (λ x hx=>by rw [(E' x hx).1]; rfl) (λ x hx c hc=>by rw [(E' x hx).1] at hc; obtain rfl:=List.mem_singleton.1 hc; exact (E' c hx).2) (λ o=>?_) (λ i x j p hx hp=>?_)
    ·constructor
     ·rintro (⟨_,h⟩|⟨h,_⟩)
      ·exact h
      ·exact absurd Z h
     ·intro h; exact .inl ⟨rfl,h⟩
    ·rw [(E' x (List.mem_of_getElem? hx)).1] at hp
     have hj:j=0:=by
      have:=(List.getElem?_eq_some_iff.1 hp).1;simpa using this
     subst hj;simp only [List.getElem?_cons_zero,bx] at hp;subst hp;rw [Nat.mul_one,Nat.add_zero];rw [List.getElem?_append] at hx;split at hx
     ·rename_i hlt;obtain ⟨u,hu,hr⟩:=Fh i x hx;exact ⟨u,by rw [hcell',if_neg O]; exact hu,hr.mono hEv⟩
     ·rename_i hge;have hi2:i-es.length<ys.length:=(List.getElem?_eq_some_iff.1 hx).1;obtain ⟨_,u,hu,hr⟩:=hnews (i-es.length) x 0 x hx (by rw [hszy x (List.mem_of_getElem? hx)]; rfl);rw [h1s,Nat.mul_one,Nat.add_zero] at hu;exact ⟨u,by rw [hcell',if_pos O]; exact hu,hr.mono hEv⟩
   rw [hlenA] at hrep;have hp:=hin.put (d:=some d) (λ t ht=>by cases ht; exact n7 ▸ hn) hrep;unfold Oper.wp;rw [hrun0 _ _ hrr];simp only [Oper.upon,hd];exact ⟨_,_,hp,hK⟩
  ·have hlenT:(c.toList.take es.length).length=es.length:=by
    rw [List.length_take,show c.toList.length=cap from Array.length_toList.trans Fc]; omega
   have hold:(Builtin.firstCells ie.size es.length (.slice (some ⟨b,0,none⟩) es.length cap)).run C.P w.drew=.ok (c.toList.take es.length).toArray w.drew:=by
    refine run_firstCells_some w.drew ie.size es.length ⟨b,0,none⟩ es.length cap _ (by rw [hlenT,h1s,Nat.mul_one]) (λ j v hv=>?_);rw [List.getElem?_take] at hv;split at hv
    ·rw [add_lit,qr,World.cell?_drew];simp only [World.cell?,hb];simpa using hv
    ·cases hv
   obtain ⟨v,w',g',hr',hst'⟩:=uw (es:=es) (k:=k) (λ i=>Nat.beq i k) hDl G hi Fj hie hj hjk hy hY E' h1s hzl' E9 hlen' hs (some ⟨b,0,none⟩) cap (c.toList.take es.length)
    hold hlenT (λ i x hx=>by
     obtain ⟨u,hu,hr⟩:=Fh i x hx
     exact ⟨u,by rw [List.getElem?_take,if_pos (List.getElem?_eq_some_iff.1 hx).1]; simpa using hu,hr⟩) O o.type hn
   unfold Oper.wp;rw [hrun0 _ _ hr'];simp only [Oper.upon,hd];exact ⟨g',_,hst',hK⟩
theorem A2 {t e:TypeId}{x:Operand}{i:TI}{k sz:Nat}{es:List PV}(ho:o.op=.call { callee:=.builtin .len,args:=#[x],argTypes:=#[t] })(hd:o.dst=some d)(hn:Nat.blt d C.n=true)
  (hi:look C.tt t=some i) (Fj:i.k=.slice e) (hx:evo sl x=some (.stk k sz es))
  (hK:K ⟨(d,.p (.val (.int .i64 (es.length:Int))))::sl,ob⟩):bG C o K ⟨sl,ob⟩:=by
 obtain ⟨u,h1,h2⟩:=bP C.good hi;have h3:=bI (h2.trans Fj);subst h3;refine ok_one hd hn (λ g a w hs=>?_) hK;have h5:=bV hs hx;generalize hv:a.eval x=v at h5
 cases h5 with
 | stkn=>exact ⟨.int .i64 0,by rw [eY ho]; simp [builtin,hv,Builtin.len_,run_underlying h1,goInt],.p (.val _)⟩
 | stke=>exact ⟨.int .i64 0,by rw [eY ho]; simp [builtin,hv,Builtin.len_,run_underlying h1,goInt],.p (.val _)⟩
 | stk how hb Fc hlenc hszc Ff Fi hr=>exact ⟨.int .i64 (es.length:Int),by rw [eY ho]; simp [builtin,hv,Builtin.len_,run_underlying h1,goInt],.p (.val _)⟩
end
theorem AV.sub_nilstk (tok sz:Nat):(AV.p (.val (.slice none 0 0))).sub (.stk tok sz []):=by
 intro w g v h
 cases h with
 | p h=>cases h; exact .stkn _ _
section
variable {C:Cx} {o:Oper} {K:AS->Prop} {sl:List (Nat×AV)} {ob:List (Nat×List AV)} {d:Nat}
theorem Af {α:Type}(f:α->PV)(hf:∀ x,(f x).cells=[f x]/\(f x).one=true)(l0 l:List α){t tx e e':TypeId}{x y:Operand}{k:Nat}{Y0z:AV}{i ie j:TI}{sl':List (Nat×AV)}{ob':List (Nat×List AV)}(ho:o.op=.call { callee:=.builtin .append,args:=#[x,y],argTypes:=#[t,tx] })(hd:o.dst=some d)(hn:Nat.blt d C.n=true)
  (hi:look C.tt t=some i) (Fj:i.k=.slice e) (hie:look C.tt e=some ie) (hj:look C.tt tx=some j) (hjk:j.k=.slice e') (hx:evo sl x=some (.stk k 1 (l0.map f))) (hk:Nat.blt k M1=true)
  (hy:evo sl y=some Y0z) (hY:Y0z.elems? = some (l.map f)) (hys:0<l.length) (h1s:ie.size=1) (hzl:Nat.beq ie.zero.length ie.size=true) (hby:Nat.blt 0 ie.bytes=true)
  (E9:(l0.length+l.length)*ie.bytes<=140737488355328) (h1:dmS (λ i=>Nat.beq i k) sl=some sl') (h2:dmO (λ i=>Nat.beq i k) ob=some ob')
  (hK:K ⟨(d,.stk k 1 ((l0++l).map f))::sl',ob'⟩):bG C o K ⟨sl,ob⟩:=by
 have hby':1<=ie.bytes:=Nat.succ_le_of_lt (by simpa using hby);have h3:(l0.length+l.length)*1<=(l0.length+l.length)*ie.bytes:=Nat.mul_le_mul_left _ hby';refine vi ho hd hn hi Fj hie hj hjk hx hk hy hY (λ y hy=>?_) (by simpa using hys) h1s hzl (by rw [cl,cl]; exact E9) (by rw [cl,cl]; omega) ?_
 ·rw [<- List.map_append] at hy;obtain ⟨x,_,rfl⟩:=List.mem_map.1 hy;exact hf x
 ·rw [<- List.map_append];simp only [cM];rw [<- pA h1,<- nr h2];exact hK
theorem ss {α:Type}(f:α->PV)(l:List α){t e:TypeId}{x:Operand}{i:TI}{k sz:Nat}(ho:o.op=.call { callee:=.builtin .len,args:=#[x],argTypes:=#[t] })(hd:o.dst=some d)(hn:Nat.blt d C.n=true)
  (hi:look C.tt t=some i) (Fj:i.k=.slice e) (hx:evo sl x=some (.stk k sz (l.map f))) (hK:K ⟨(d,.p (eI (l.length:Int)))::sl,ob⟩):bG C o K ⟨sl,ob⟩ :=
 A2 ho hd hn hi Fj hx (by rw [cl]; exact hK)
end
section
variable {C:Cx} {o:Oper} {K:AS->Prop} {sl:List (Nat×AV)} {ob:List (Nat×List AV)} {d:Nat}
theorem sy {α:Type}(f:α->PV)(l:List α){t e len:Nat}{parts:Array (Nat×Operand)}{i ie:TI}{es:List PV}{sz:Nat}(ho:o.op=.buildSlice t len parts)(hd:o.dst=some d)(hn:Nat.blt d C.n=true)
  (hi:look C.tt t=some i) (Fj:i.k=.slice e) (hie:look C.tt e=some ie) (hes:kz sl 0 parts.toList=some es) (E9:Nat.beq es.length len=true) (hpos:Nat.blt 0 len=true)
  (hk:Nat.blt 0 ie.size=true) (hsm:Nat.ble (len*ie.size) 16777216=true) (E':mX ie.size es=true) (hzl:Nat.beq ie.zero.length ie.size=true) (he:es=l.map f) (hsz1:ie.size=sz)
  {sl':List (Nat×AV)} {ob':List (Nat×List AV)} (h1':dmS (λ i=>Nat.beq i d) sl=some sl') (h2':dmO (λ i=>Nat.beq i d) ob=some ob')
  (hK:K ⟨(d,.vec d sz 0 (l.map f))::sl',ob'⟩):bG C o K ⟨sl,ob⟩:=by
 subst hsz1;rw [<- he] at hK
 clear he
 obtain ⟨u,h1,h2⟩:=bP C.good hi;have h3:=bI (h2.trans Fj);subst h3;have hlen':es.length=len:=d3 E9;have hpos':0<len:=by simpa using hpos
 have hk':0<ie.size:=by simpa using hk
 have hsm':=py hsm;have hzl':=d3 hzl;have hdl:d<M1:=by have h1:=py C.nl; have h2:d<C.n:=n7 ▸ hn; omega
 obtain ⟨j,hj,hj1,hj2,z,hz1,hz2⟩:=fT C.good hie;intro g a w hs;obtain ⟨q1,q2,q3⟩:=nH hs _ 0 es hes;obtain ⟨vs,hvs⟩:∃ vs,vs=parts.toList.map λ p=>a.eval p.2:=⟨_,rfl⟩
 rw [<- hvs] at q1 q3;have hvl:es.length=vs.length:=by rw [hvs,cl]; exact q2
 have hzs:z.cells.size=ie.size:=by rw [<- hzl',<- hz2,Array.length_toList]
 have hvsz:∀ v∈vs,v.cells.size=ie.size:=by
  intro v hv;obtain ⟨m,hm,rfl⟩:=List.getElem_of_mem hv;have hp:=q3 m (es[m]' O) _ (List.getElem?_eq_getElem O) (List.getElem?_eq_getElem hm);obtain ⟨m1,m2⟩:=ij E' (es[m]' O) (List.getElem_mem _);rw [(oh hp m2).1,m1]
 obtain ⟨r,f1,f2,f3⟩:=Great.fill_dense hk' vs 0 ((Array.range (len*ie.size)).map (z.cells[· % z.cells.size]!)) hvsz (by simp; rw [<- hvl,hlen']; exact mv _)
 have f1':Instr.fill (λ i=>some (i*ie.size,ie.size)) ((Array.range (len*ie.size)).map (z.cells[· % z.cells.size]!)) (parts.map λ (i,x)=>(i,a.eval x)).toList=some r:=by
  rw [Array.toList_map]; rw [<- f1]; congr 1
 have hrun:=run_buildSlice (P:=C.P) w t e len (parts.map λ (i,x)=>(i,a.eval x)) r j z h1 hj hz1 (by rw [hj1]; omega) (by rw [hj1]; have:=Nat.mul_pos hpos' hk'; omega) (by rw [hj1]; exact f1');unfold Oper.wp
 have hrun':(execOp a.eval o).run C.P w=.ok (.value (.slice (some ⟨w.heap.size,0,none⟩) len len)) (w.alloc (.cells r e)):=by
  simp only [execOp,ho,Sem.run_bind,hrun,Result.andThen_ok,Sem.run_pure]
 rw [hrun'];have hrs:r.size=len*ie.size:=by rw [f2]; simp
 have hprep:=u4 (e:=e) hk' hvl hs.lt q3 E' (r:=r) (by rw [f2]; simp; rw [hlen']) (λ m hm=>by rw [f3 m,if_pos (by simp; rw [<- hvl]; exact hm)]; simp) len O;have hf:=hs.fresh (λ i=>Nat.beq i d) (λ i hi=>by have:=d3 hi; omega) d G (λ o=>o<es.length*ie.size) r e
 have hv:ARep (w.alloc (.cells r e)) ⟨λ b o=>g.st b o\/(b=w.heap.size/\o<es.length*ie.size),λ i=>if i=d then some w.heap.size else if Nat.beq i d then none else g.ow i⟩ (.vec d ie.size 0 es) (.slice (some ⟨w.heap.size,0,none⟩) es.length len):=by
  refine .vec G bZ (by rw [hrs,qr]) (λ x hx=>(ij E' x hx).1) (λ o=>?_) hprep (.inl Z);rw [qr];constructor
  ·rintro (h|⟨_,h⟩)
   ·exact absurd (hs.lt _ _ h) (Nat.lt_irrefl _)
   ·exact h
  ·intro h; exact .inr ⟨rfl,h⟩
 have Fi:=hf.put (d:=o.dst) (λ t ht=>by rw [hd] at ht; cases ht; exact n7 ▸ hn) hv;rw [hlen'] at Fi;simp only [Oper.upon];rw [hd] at Fi ⊢;refine ⟨_,_,Fi,?_⟩;simp only [AS.put,cM];rw [<- pA h1',<- nr h2'];exact hK
end
open Go.Proofs Go.Ab
attribute [local irreducible] awp jc bG aB cq fX AV.sub
theorem gt (l:List Az)(E9:l.length*16<=140737488355328):aB Tryz.prog 116 [eL eS l] (·=.p (eL eS l)):=by
 refine aZ good Tryz.func116 Z Z Z λ w0=>?_;refine cO ?_;refine dV ?_;refine bL Z ?_;refine cP Z Z Z Z ?_;refine db ?_
 (repeat (first|refine bq ?_|refine bC ?_|refine cg ?_|refine bB Z ?_|refine b7 ?_|refine bm ?_|refine bp ?_|refine aL ?_|refine aX ?_|refine aP Z ?_|refine noGoto_ret ?_|refine noGoto_exit ?_|refine noGoto_normal ?_))
 refine cO ?_;refine cO ?_;refine dV ?_;refine bL Z ?_;refine bH Z Z Z Z ?_;refine bL Z ?_;refine lY Z Z Z Z Z Z Z Z (λ b hb=>?_);refine db ?_
 (repeat (first|refine bq ?_|refine bC ?_|refine cg ?_|refine bB Z ?_|refine b7 ?_|refine bm ?_|refine bp ?_|refine aL ?_|refine aX ?_|refine aP Z ?_|refine noGoto_ret ?_|refine noGoto_exit ?_|refine noGoto_normal ?_))
 refine tg Z (λ hc=>?_) (λ hc=>?_)
 ·have he:l=[]:=by simpa using hb hc
  subst he;refine cO ?_;refine dV ?_;refine bL rfl ?_;refine cP Z Z Z Z ?_;refine db ?_
  (repeat (first|refine bq ?_|refine bC ?_|refine cg ?_|refine bB Z ?_|refine b7 ?_|refine bm ?_|refine bp ?_|refine aL ?_|refine aX ?_|refine aP Z ?_|refine noGoto_ret ?_|refine noGoto_exit ?_|refine noGoto_normal ?_))
  refine jI ?_
  (repeat (first|refine bq ?_|refine bC ?_|refine cg ?_|refine bB Z ?_|refine b7 ?_|refine bm ?_|refine bp ?_|refine aL ?_|refine aX ?_|refine aP Z ?_|refine noGoto_ret ?_|refine noGoto_exit ?_|refine noGoto_normal ?_))
  refine mf Z ?_;exact lr _
 ·skip
  refine li ?_
  (repeat (first|refine bq ?_|refine bC ?_|refine cg ?_|refine bB Z ?_|refine b7 ?_|refine bm ?_|refine bp ?_|refine aL ?_|refine aX ?_|refine aP Z ?_|refine noGoto_ret ?_|refine noGoto_exit ?_|refine noGoto_normal ?_))
  refine cO ?_;refine dV ?_;refine bL Z ?_;refine o5 Z Z Z Z Z Z Z 5 1 ?_;refine bL Z ?_;refine bH Z Z Z Z ?_;refine bL Z ?_;refine cW eS [] l Z Z Z Z Z Z Z Z Z Z Z Z Z Y Z Z Z Z (by simpa using E9) ?_;refine bL Z ?_;refine cP Z Z Z Z ?_;refine db ?_
  (repeat (first|refine bq ?_|refine bC ?_|refine cg ?_|refine bB Z ?_|refine b7 ?_|refine bm ?_|refine bp ?_|refine aL ?_|refine aX ?_|refine aP Z ?_|refine noGoto_ret ?_|refine noGoto_exit ?_|refine noGoto_normal ?_))
  refine jI ?_
  (repeat (first|refine bq ?_|refine bC ?_|refine cg ?_|refine bB Z ?_|refine b7 ?_|refine bm ?_|refine bp ?_|refine aL ?_|refine aX ?_|refine aP Z ?_|refine noGoto_ret ?_|refine noGoto_exit ?_|refine noGoto_normal ?_))
  refine mf Z ?_;exact AV.sub_vec _ _ _ _
theorem jX (l:List Az)(E9:l.length*16<=140737488355328):cq Tryz.prog 116 [.p (eL eS l)] [] (λ x y=>x=.vec 2000000 1 0 (l.map eS)/\y=[]):=by
 refine gw good [800000] [] Tryz.func116 Z Z Z Z Z λ w0 F=>?_;refine cO ?_;refine dV ?_;refine bL Z ?_;refine cP Z Z Z Z ?_;refine db ?_
 (repeat (first|refine bq ?_|refine bC ?_|refine cg ?_|refine bB Z ?_|refine b7 ?_|refine bm ?_|refine bp ?_|refine aL ?_|refine aX ?_|refine aP Z ?_|refine noGoto_ret ?_|refine noGoto_exit ?_|refine noGoto_normal ?_))
 refine cO ?_;refine cO ?_;refine dV ?_;refine bL Z ?_;refine bH Z Z Z Z ?_;refine bL Z ?_;refine lY Z Z Z Z Z Z Z Z (λ b hb=>?_);refine db ?_
 (repeat (first|refine bq ?_|refine bC ?_|refine cg ?_|refine bB Z ?_|refine b7 ?_|refine bm ?_|refine bp ?_|refine aL ?_|refine aX ?_|refine aP Z ?_|refine noGoto_ret ?_|refine noGoto_exit ?_|refine noGoto_normal ?_))
 refine tg Z (λ hc=>?_) (λ hc=>?_)
 ·have he:l=[]:=by simpa using hb hc
  subst he;refine cO ?_;refine dV ?_;refine bL rfl ?_;refine cP Z Z Z Z ?_;refine db ?_
  (repeat (first|refine bq ?_|refine bC ?_|refine cg ?_|refine bB Z ?_|refine b7 ?_|refine bm ?_|refine bp ?_|refine aL ?_|refine aX ?_|refine aP Z ?_|refine noGoto_ret ?_|refine noGoto_exit ?_|refine noGoto_normal ?_))
  refine jI ?_
  (repeat (first|refine bq ?_|refine bC ?_|refine cg ?_|refine bB Z ?_|refine b7 ?_|refine bm ?_|refine bp ?_|refine aL ?_|refine aX ?_|refine aP Z ?_|refine noGoto_ret ?_|refine noGoto_exit ?_|refine noGoto_normal ?_))
  exact o6 (bK _) Z Z Z Z (AV.sub_nilvec _ _ _) trivial
 ·skip
  refine li ?_
  (repeat (first|refine bq ?_|refine bC ?_|refine cg ?_|refine bB Z ?_|refine b7 ?_|refine bm ?_|refine bp ?_|refine aL ?_|refine aX ?_|refine aP Z ?_|refine noGoto_ret ?_|refine noGoto_exit ?_|refine noGoto_normal ?_))
  refine cO ?_;refine dV ?_;refine bL Z ?_;refine o5 Z Z Z Z Z Z Z 5 1 ?_;refine bL Z ?_;refine bH Z Z Z Z ?_;refine bL Z ?_;refine cW eS [] l Z Z Z Z Z Z Z Z Z Z Z Z Z Y Z Z Z Z (by simpa using E9) ?_;refine bL Z ?_;refine cP Z Z Z Z ?_;refine db ?_
  (repeat (first|refine bq ?_|refine bC ?_|refine cg ?_|refine bB Z ?_|refine b7 ?_|refine bm ?_|refine bp ?_|refine aL ?_|refine aX ?_|refine aP Z ?_|refine noGoto_ret ?_|refine noGoto_exit ?_|refine noGoto_normal ?_))
  refine jI ?_
  (repeat (first|refine bq ?_|refine bC ?_|refine cg ?_|refine bB Z ?_|refine b7 ?_|refine bm ?_|refine bp ?_|refine aL ?_|refine aX ?_|refine aP Z ?_|refine noGoto_ret ?_|refine noGoto_exit ?_|refine noGoto_normal ?_))
  exact o6 (bu 7 800000 Z Z Z Z Z) Z Z Z Z (AV.sub_refl _) trivial
theorem iE (l:List aa)(h:l.isEmpty=true):aB Tryz.prog 117 [eL ah l] (·=.p (eL ah [])):=by
 obtain rfl:l=[]:=by simpa using h
 refine aZ good Tryz.func117 Z Z Z λ w0=>?_;refine cO ?_;refine dV ?_;refine bL Z ?_;refine cP Z Z Z Z ?_;refine db ?_
 (repeat (first|refine bq ?_|refine bC ?_|refine cg ?_|refine bB Z ?_|refine b7 ?_|refine bm ?_|refine bp ?_|refine aL ?_|refine aX ?_|refine aP Z ?_|refine noGoto_ret ?_|refine noGoto_exit ?_|refine noGoto_normal ?_))
 refine cO ?_;refine cO ?_;refine dV ?_;refine bL Z ?_;refine bH Z Z Z Z ?_;refine bL Z ?_;refine lY Z Z Z Z Z Z Z Z (λ b hb=>?_);refine db ?_
 (repeat (first|refine bq ?_|refine bC ?_|refine cg ?_|refine bB Z ?_|refine b7 ?_|refine bm ?_|refine bp ?_|refine aL ?_|refine aX ?_|refine aP Z ?_|refine noGoto_ret ?_|refine noGoto_exit ?_|refine noGoto_normal ?_))
 refine tg Z (λ hc=>?_) (λ hc=>?_)
 ·skip
  refine cO ?_;refine dV ?_;refine bL Z ?_;refine cP Z Z Z Z ?_;refine db ?_
  (repeat (first|refine bq ?_|refine bC ?_|refine cg ?_|refine bB Z ?_|refine b7 ?_|refine bm ?_|refine bp ?_|refine aL ?_|refine aX ?_|refine aP Z ?_|refine noGoto_ret ?_|refine noGoto_exit ?_|refine noGoto_normal ?_))
  refine jI ?_
  (repeat (first|refine bq ?_|refine bC ?_|refine cg ?_|refine bB Z ?_|refine b7 ?_|refine bm ?_|refine bp ?_|refine aL ?_|refine aX ?_|refine aP Z ?_|refine noGoto_ret ?_|refine noGoto_exit ?_|refine noGoto_normal ?_))
  refine mf Z ?_;exact lr _
 ·skip
  refine li ?_
  (repeat (first|refine bq ?_|refine bC ?_|refine cg ?_|refine bB Z ?_|refine b7 ?_|refine bm ?_|refine bp ?_|refine aL ?_|refine aX ?_|refine aP Z ?_|refine noGoto_ret ?_|refine noGoto_exit ?_|refine noGoto_normal ?_))
  refine cO ?_;refine dV ?_;refine bL Z ?_;refine o5 Z Z Z Z Z Z Z 5 5 ?_;refine bL Z ?_;refine bH Z Z Z Z ?_;refine bL Z ?_;refine cW ah [] [] Z Z Z Z Z Z Z Z Z Z Z Z Z (λ x=>congrArg List.length (aa.Eh x)) Z Z Z Z (by decide) ?_;refine bL Z ?_;refine cP Z Z Z Z ?_;refine db ?_
  (repeat (first|refine bq ?_|refine bC ?_|refine cg ?_|refine bB Z ?_|refine b7 ?_|refine bm ?_|refine bp ?_|refine aL ?_|refine aX ?_|refine aP Z ?_|refine noGoto_ret ?_|refine noGoto_exit ?_|refine noGoto_normal ?_))
  refine jI ?_
  (repeat (first|refine bq ?_|refine bC ?_|refine cg ?_|refine bB Z ?_|refine b7 ?_|refine bm ?_|refine bp ?_|refine aL ?_|refine aX ?_|refine aP Z ?_|refine noGoto_ret ?_|refine noGoto_exit ?_|refine noGoto_normal ?_))
  refine mf Z ?_;exact AV.sub_vec _ _ _ _
theorem iG (l:List aa)(h:l.isEmpty=false)(E9:l.length*80<=140737488355328):cq Tryz.prog 117 [.p (eL ah l)] [] (λ x y=>x=.arr 2000000 5 0 l.length/\y=[(2000000,iK ah l)]):=by
 refine gw good [800000] [800000] Tryz.func117 Z Z Z Z Z λ w0 F=>?_;refine cO ?_;refine dV ?_;refine bL Z ?_;refine cP Z Z Z Z ?_;refine db ?_
 (repeat (first|refine bq ?_|refine bC ?_|refine cg ?_|refine bB Z ?_|refine b7 ?_|refine bm ?_|refine bp ?_|refine aL ?_|refine aX ?_|refine aP Z ?_|refine noGoto_ret ?_|refine noGoto_exit ?_|refine noGoto_normal ?_))
 refine cO ?_;refine cO ?_;refine dV ?_;refine bL Z ?_;refine bH Z Z Z Z ?_;refine bL Z ?_;refine lY Z Z Z Z Z Z Z Z (λ b hb=>?_);refine db ?_
 (repeat (first|refine bq ?_|refine bC ?_|refine cg ?_|refine bB Z ?_|refine b7 ?_|refine bm ?_|refine bp ?_|refine aL ?_|refine aX ?_|refine aP Z ?_|refine noGoto_ret ?_|refine noGoto_exit ?_|refine noGoto_normal ?_))
 refine tg Z (λ hc=>?_) (λ hc=>?_)
 ·have he:l=[]:=by simpa using hb hc
  subst he
  cases h
 ·skip
  refine li ?_
  (repeat (first|refine bq ?_|refine bC ?_|refine cg ?_|refine bB Z ?_|refine b7 ?_|refine bm ?_|refine bp ?_|refine aL ?_|refine aX ?_|refine aP Z ?_|refine noGoto_ret ?_|refine noGoto_exit ?_|refine noGoto_normal ?_))
  refine cO ?_;refine dV ?_;refine bL Z ?_;refine tP Z Z Z Z Z Z 5 ?_;refine bL Z ?_;refine bH Z Z Z Z ?_;refine bL Z ?_;refine xX ah [] l Z Z Z Z Z Z Z Z Z Z Z Z Z Z Z (λ x=>congrArg List.length (aa.Eh x)) Z Z Z (by simpa using E9) ?_;refine bL Z ?_;refine cP Z Z Z Z ?_;refine db ?_
  (repeat (first|refine bq ?_|refine bC ?_|refine cg ?_|refine bB Z ?_|refine b7 ?_|refine bm ?_|refine bp ?_|refine aL ?_|refine aX ?_|refine aP Z ?_|refine noGoto_ret ?_|refine noGoto_exit ?_|refine noGoto_normal ?_))
  refine jI ?_
  (repeat (first|refine bq ?_|refine bC ?_|refine cg ?_|refine bB Z ?_|refine b7 ?_|refine bm ?_|refine bp ?_|refine aL ?_|refine aX ?_|refine aP Z ?_|refine noGoto_ret ?_|refine noGoto_exit ?_|refine noGoto_normal ?_))
  exact o6 (bu 7 800000 Z Z Z Z (kQ Z (j2 _) Z)) Z Z Z (kQ Z (j2 _) Z) (AV.sub_of_eq (congrArg (AV.arr 2000000 5 0) G)) ⟨⟨_,Z,eF _⟩,trivial⟩
theorem iW (l:List ag)(h:l.isEmpty=true):aB Tryz.prog 151 [eL aD l] (·=.p (eL aD [])):=by
 obtain rfl:l=[]:=by simpa using h
 refine aZ good Tryz.func151 Z Z Z λ w0=>?_;refine cO ?_;refine dV ?_;refine bL Z ?_;refine cP Z Z Z Z ?_;refine db ?_
 (repeat (first|refine bq ?_|refine bC ?_|refine cg ?_|refine bB Z ?_|refine b7 ?_|refine bm ?_|refine bp ?_|refine aL ?_|refine aX ?_|refine aP Z ?_|refine noGoto_ret ?_|refine noGoto_exit ?_|refine noGoto_normal ?_))
 refine cO ?_;refine cO ?_;refine dV ?_;refine bL Z ?_;refine bH Z Z Z Z ?_;refine bL Z ?_;refine lY Z Z Z Z Z Z Z Z (λ b hb=>?_);refine db ?_
 (repeat (first|refine bq ?_|refine bC ?_|refine cg ?_|refine bB Z ?_|refine b7 ?_|refine bm ?_|refine bp ?_|refine aL ?_|refine aX ?_|refine aP Z ?_|refine noGoto_ret ?_|refine noGoto_exit ?_|refine noGoto_normal ?_))
 refine tg Z (λ hc=>?_) (λ hc=>?_)
 ·skip
  refine cO ?_;refine dV ?_;refine bL Z ?_;refine cP Z Z Z Z ?_;refine db ?_
  (repeat (first|refine bq ?_|refine bC ?_|refine cg ?_|refine bB Z ?_|refine b7 ?_|refine bm ?_|refine bp ?_|refine aL ?_|refine aX ?_|refine aP Z ?_|refine noGoto_ret ?_|refine noGoto_exit ?_|refine noGoto_normal ?_))
  refine jI ?_
  (repeat (first|refine bq ?_|refine bC ?_|refine cg ?_|refine bB Z ?_|refine b7 ?_|refine bm ?_|refine bp ?_|refine aL ?_|refine aX ?_|refine aP Z ?_|refine noGoto_ret ?_|refine noGoto_exit ?_|refine noGoto_normal ?_))
  refine mf Z ?_;exact lr _
 ·skip
  refine li ?_
  (repeat (first|refine bq ?_|refine bC ?_|refine cg ?_|refine bB Z ?_|refine b7 ?_|refine bm ?_|refine bp ?_|refine aL ?_|refine aX ?_|refine aP Z ?_|refine noGoto_ret ?_|refine noGoto_exit ?_|refine noGoto_normal ?_))
  refine cO ?_;refine dV ?_;refine bL Z ?_;refine o5 Z Z Z Z Z Z Z 5 3 ?_;refine bL Z ?_;refine bH Z Z Z Z ?_;refine bL Z ?_;refine cW aD [] [] Z Z Z Z Z Z Z Z Z Z Z Z Z (λ x=>congrArg List.length (ag.Eh x)) Z Z Z Z (by decide) ?_;refine bL Z ?_;refine cP Z Z Z Z ?_;refine db ?_
  (repeat (first|refine bq ?_|refine bC ?_|refine cg ?_|refine bB Z ?_|refine b7 ?_|refine bm ?_|refine bp ?_|refine aL ?_|refine aX ?_|refine aP Z ?_|refine noGoto_ret ?_|refine noGoto_exit ?_|refine noGoto_normal ?_))
  refine jI ?_
  (repeat (first|refine bq ?_|refine bC ?_|refine cg ?_|refine bB Z ?_|refine b7 ?_|refine bm ?_|refine bp ?_|refine aL ?_|refine aX ?_|refine aP Z ?_|refine noGoto_ret ?_|refine noGoto_exit ?_|refine noGoto_normal ?_))
  refine mf Z ?_;exact AV.sub_vec _ _ _ _
theorem i6 (l:List ag)(h:l.isEmpty=false)(E9:l.length*56<=140737488355328):cq Tryz.prog 151 [.p (eL aD l)] [] (λ x y=>x=.arr 2000000 3 0 l.length/\y=[(2000000,iK aD l)]):=by
 refine gw good [800000] [800000] Tryz.func151 Z Z Z Z Z λ w0 F=>?_;refine cO ?_;refine dV ?_;refine bL Z ?_;refine cP Z Z Z Z ?_;refine db ?_
 (repeat (first|refine bq ?_|refine bC ?_|refine cg ?_|refine bB Z ?_|refine b7 ?_|refine bm ?_|refine bp ?_|refine aL ?_|refine aX ?_|refine aP Z ?_|refine noGoto_ret ?_|refine noGoto_exit ?_|refine noGoto_normal ?_))
 refine cO ?_;refine cO ?_;refine dV ?_;refine bL Z ?_;refine bH Z Z Z Z ?_;refine bL Z ?_;refine lY Z Z Z Z Z Z Z Z (λ b hb=>?_);refine db ?_
 (repeat (first|refine bq ?_|refine bC ?_|refine cg ?_|refine bB Z ?_|refine b7 ?_|refine bm ?_|refine bp ?_|refine aL ?_|refine aX ?_|refine aP Z ?_|refine noGoto_ret ?_|refine noGoto_exit ?_|refine noGoto_normal ?_))
 refine tg Z (λ hc=>?_) (λ hc=>?_)
 ·have he:l=[]:=by simpa using hb hc
  subst he
  cases h
 ·skip
  refine li ?_
  (repeat (first|refine bq ?_|refine bC ?_|refine cg ?_|refine bB Z ?_|refine b7 ?_|refine bm ?_|refine bp ?_|refine aL ?_|refine aX ?_|refine aP Z ?_|refine noGoto_ret ?_|refine noGoto_exit ?_|refine noGoto_normal ?_))
  refine cO ?_;refine dV ?_;refine bL Z ?_;refine tP Z Z Z Z Z Z 3 ?_;refine bL Z ?_;refine bH Z Z Z Z ?_;refine bL Z ?_;refine xX aD [] l Z Z Z Z Z Z Z Z Z Z Z Z Z Z Z (λ x=>congrArg List.length (ag.Eh x)) Z Z Z (by simpa using E9) ?_;refine bL Z ?_;refine cP Z Z Z Z ?_;refine db ?_
  (repeat (first|refine bq ?_|refine bC ?_|refine cg ?_|refine bB Z ?_|refine b7 ?_|refine bm ?_|refine bp ?_|refine aL ?_|refine aX ?_|refine aP Z ?_|refine noGoto_ret ?_|refine noGoto_exit ?_|refine noGoto_normal ?_))
  refine jI ?_
  (repeat (first|refine bq ?_|refine bC ?_|refine cg ?_|refine bB Z ?_|refine b7 ?_|refine bm ?_|refine bp ?_|refine aL ?_|refine aX ?_|refine aP Z ?_|refine noGoto_ret ?_|refine noGoto_exit ?_|refine noGoto_normal ?_))
  exact o6 (bu 7 800000 Z Z Z Z (kQ Z (j2 _) Z)) Z Z Z (kQ Z (j2 _) Z) (AV.sub_of_eq (congrArg (AV.arr 2000000 3 0) G)) ⟨⟨_,Z,eF _⟩,trivial⟩
end Go.Ab
end
section
namespace Go.Ab
section
variable {C:Cx} {o:Oper} {K:AS->Prop} {sl:List (Nat×AV)} {ob:List (Nat×List AV)} {d:Nat}
theorem yD {P:Program}{tt:List (Nat×TI)}(good:dP P tt){t e:Nat}{i ie:TI}(hi:look tt t=some i)(Fj:i.k=.slice e)(hie:look tt e=some ie)(k k':IntKind){m:Int}(hb:0<=m/\m<=9223372036854775807/\(ie.bytes:Int)*m<=281474976710656)(w:World) :
  ∃ c:Array Value,c.size=m.toNat*ie.size/\(Instr.makeSlice t (.int k 0) (.int k' m)).run P w=.ok (.slice (some ⟨w.heap.size,0,none⟩) 0 m.toNat) (w.alloc (.cells c e)):=by
 obtain ⟨u,h1,h2⟩:=bP good hi;have h3:=bI (h2.trans Fj);subst h3;obtain ⟨j,hj,hj1,hj2,zz,hz1,hz2⟩:=fT good hie;have hrun:=run_make (P:=P) w t e j zz h1 hj hz1 k k' 0 m (Int.le_refl _) hb.1 (by rw [hj2]; exact hb.2.2) hb.2.1;exact ⟨_,by rw [size_madeCells,hj1],hrun⟩
end
theorem nq {i n j sz:Nat}(h:i<n)(hj:j<sz):i*sz+j<n*sz:=by
 have:=Nat.mul_le_mul_right sz (show i+1<=n from h);rw [Nat.succ_mul] at this; omega
section
variable {C:Cx} {o:Oper} {K:AS->Prop} {sl:List (Nat×AV)} {ob:List (Nat×List AV)} {d:Nat}
theorem sa {es ys:List PV}{t tx e e':TypeId}{i ie j:TI}{y:Operand}{Y0z:AV}{k sz:Nat}(D:Nat->Bool)(hDl:∀ i,D i=true->i<M1)(hDk:D k=true)
  (hi:look C.tt t=some i) (Fj:i.k=.slice e) (hie:look C.tt e=some ie) (hj:look C.tt tx=some j) (hjk:j.k=.slice e')
  (hy:evo sl y=some Y0z) (hY:Y0z.elems? = some ys) (hszy:∀ y∈ys,y.cells.length=sz) (hsze:∀ x∈es,x.cells.length=sz) (Ff:∀ x∈es,∀ c∈x.cells,c.one=true)
  (h1s:ie.size=sz) (h0:0<sz) (hzl:ie.zero.length=ie.size)
  (E9:(es.length+ys.length)*ie.bytes<=140737488355328) (hlen':es.length+ys.length<=9223372036854775807)
  {g:Gh} {a:Act} {w:World} (hs:St C.n C.w0 C.F g ⟨sl,ob⟩ a w) (base:Option Addr) (cap:Nat) (olds:List Value)
  (hold:(Builtin.firstCells ie.size es.length (.slice base es.length cap)).run C.P w.drew=.ok olds.toArray w.drew) (hol:olds.length=es.length*sz)
  (hoc:∀ (i:Nat) x (j:Nat) p,es[i]? = some x->x.cells[j]? = some p->∃ u,olds[i*sz+j]? = some u/\PRep w g.st p u)
  (hg:cap<es.length+ys.length) (ty:TypeId) (hn:Nat.blt d C.n=true) :
  ∃ v w' g',(Builtin.append_ #[t,tx] ty #[.slice base es.length cap,a.eval y]).run C.P w=.ok v w' /\
   St C.n C.w0 C.F g' ⟨(d,.stk k sz (es++ys))::(cM D ⟨sl,ob⟩).sl,(cM D ⟨sl,ob⟩).ob⟩ (a.put (some d) v) w':=by
 subst h1s;obtain ⟨u,h1,h2⟩:=bP C.good hi;have h3:=bI (h2.trans Fj);subst h3;obtain ⟨u',h1',h2'⟩:=bP C.good hj;have h3':=bI (h2'.trans hjk);subst h3';obtain ⟨info,hf1,hf2,hf3,z,hf4,hf5⟩:=fT C.good hie;have hyv:=fW hY (bV hs hy);obtain ⟨news,hsrc,hnews⟩:=ol (P:=C.P) (sz:=ie.size) h1' hyv hszy h0;have hfit:=growslice_fits (bytes:=ie.bytes) hg E9;have hrun:=run_append_grow_src w t tx ty e info z h1 hf1 hf4 base es.length cap olds (by rw [hf2]; exact hold) (a.eval y) ys.length news (by rw [hf2]; exact hsrc) hg O (by rw [hf3]; exact hfit);obtain ⟨q,hq⟩:∃ q,q=grownCap w (es.length+ys.length) cap e:=⟨_,rfl⟩
 rw [<- hq] at hrun
 have hqn:es.length+ys.length<=q:=by
  rw [hq]; unfold grownCap; simp only [Question.cut]; omega
 have hzs:z.cells.size=ie.size:=by rw [<- hzl,<- hf5,Array.length_toList]
 have hnl:news.length=ys.length*ie.size:=hsrc.newsLen;obtain ⟨c,hc⟩:∃ c,c=(olds++news).toArray++Builtin.zeroCells z.cells (q-(es.length+ys.length)):=⟨_,rfl⟩
 rw [<- hc] at hrun
 have Fc:c.size=q*ie.size:=by
  rw [hc];simp only [Array.size_append,List.size_toArray,aq,hol,hnl,size_zeroCells,hzs];obtain ⟨r,rfl⟩:∃ r,q=es.length+ys.length+r:=⟨q-(es.length+ys.length),by omega⟩
  rw [Nat.add_sub_cancel_left,Nat.add_mul,Nat.add_mul]
 have hf:=hs.drew.fresh D hDl k hDk (λ o=>o=q*ie.size) c e;have Fe:=jv (w:=w.drew) (T:=λ o=>o=q*ie.size) (ob:=.cells c e) hs.drew.lt;have hlenA:(es++ys).length=es.length+ys.length:=aq
 have hrep:ARep (w.drew.alloc (.cells c e)) ⟨λ b o=>g.st b o\/(b=w.drew.heap.size/\o=q*ie.size),λ i=>if i=k then some w.drew.heap.size else if D i then none else g.ow i⟩ (.stk k ie.size (es++ys)) (.slice (some ⟨w.drew.heap.size,0,none⟩) (es++ys).length q):=by
  refine .stk G bZ Fc O (λ x hx=>?_) (λ x hx c hc=>?_) (λ o=>?_) (λ i x j p hx hp=>?_)
  ·rcases List.mem_append.1 hx with hx|hx
   ·exact hsze x hx
   ·exact hszy x hx
  ·rcases List.mem_append.1 hx with hx|hx
   ·exact Ff x hx c hc
   ·obtain ⟨i,hi⟩:=List.mem_iff_getElem?.1 hx;obtain ⟨j,hj⟩:=List.mem_iff_getElem?.1 hc;exact (hnews i x j c hi hj).1
  ·constructor
   ·rintro (h|⟨_,h⟩)
    ·exact absurd (hs.lt _ _ h) (Nat.lt_irrefl _)
    ·exact h
   ·intro h; exact .inr ⟨rfl,h⟩
  ·have hjl:j<x.cells.length:=(List.getElem?_eq_some_iff.1 hp).1
   have hget:∀ m,m<olds.length+news.length->c[m]? = if m<olds.length then olds[m]? else news[m-olds.length]?:=by
    intro m hm;rw [hc,Array.getElem?_append];simp only [List.size_toArray,aq];rw [if_pos hm,List.getElem?_toArray,List.getElem?_append]
   rw [List.getElem?_append] at hx;split at hx
   ·rename_i hlt;rw [hsze x (List.mem_of_getElem? hx)] at hjl;have:=nq hlt hjl;obtain ⟨u,hu,hr⟩:=hoc i x j p hx hp;exact ⟨u,by rw [hget _ O,if_pos O]; exact hu,(PRep.mono (w:=w) (w':=w.drew) (st:=g.st) (st':=g.st) (λ b o h=>⟨h,rfl⟩) hr).mono Fe⟩
   ·rename_i hge;rw [hszy x (List.mem_of_getElem? hx)] at hjl;have hil:i-es.length<ys.length:=(List.getElem?_eq_some_iff.1 hx).1;have:=nq hil hjl;obtain ⟨k1,u,hu,hr⟩:=hnews (i-es.length) x j p hx hp
    have e1:i*ie.size+j=es.length*ie.size+((i-es.length)*ie.size+j):=by
     rw [<- Nat.add_assoc,<- Nat.add_mul]; congr 2; omega
    exact ⟨u,by rw [hget _ O,if_neg O,e1,hol,Nat.add_sub_cancel_left]; exact hu,(PRep.mono (w:=w) (w':=w.drew) (st:=g.st) (st':=g.st) (λ b o h=>⟨h,Z⟩) hr).mono Fe⟩
 rw [hlenA] at hrep;have hp:=hf.put (d:=some d) (λ t ht=>by cases ht; exact n7 ▸ hn) hrep;exact ⟨_,_,_,hrun,hp⟩
theorem oT {t tx e e':TypeId}{x y:Operand}{k sz:Nat}{es:List PV}{X Y0z:AV}{ys:List PV}{i ie j:TI}(ho:o.op=.call { callee:=.builtin .append,args:=#[x,y],argTypes:=#[t,tx] })(hd:o.dst=some d)(hn:Nat.blt d C.n=true)
  (hi:look C.tt t=some i) (Fj:i.k=.slice e) (hie:look C.tt e=some ie) (hj:look C.tt tx=some j) (hjk:j.k=.slice e') (hx:evo sl x=some X) (hX:X.sub (.stk k sz es)) (hk:Nat.blt k M1=true)
  (hy:evo sl y=some Y0z) (hY:Y0z.elems? = some ys) (hszy:∀ y∈ys,y.cells.length=sz) (hys:0<ys.length) (h1s:ie.size=sz) (h0:Nat.blt 0 sz=true) (hzl:Nat.beq ie.zero.length ie.size=true)
  (E9:(es.length+ys.length)*ie.bytes<=140737488355328) (hlen':es.length+ys.length<=9223372036854775807)
  (hK:K ⟨(d,.stk k sz (es++ys))::(cM (λ i=>Nat.beq i k) ⟨sl,ob⟩).sl,(cM (λ i=>Nat.beq i k) ⟨sl,ob⟩).ob⟩):bG C o K ⟨sl,ob⟩:=by
 have hzl':=d3 hzl;have hk':k<M1:=n7 ▸ hk;have h0':0<sz:=n7 ▸ h0
 have hDl:∀ i,(Nat.beq i k)=true->i<M1:=by
  intro i hi;have:=d3 hi; omega
 intro g a w hs;have hxr:=hX _ _ _ (bV hs hx);generalize hxv:a.eval x=xv at hxr
 have hrun0:∀ v w',(Builtin.append_ #[t,tx] o.type #[xv,a.eval y]).run C.P w=.ok v w'->(execOp a.eval o).run C.P w=.ok (.value v) w':=by
  intro v w' h;rw [eY ho];simp [builtin,hxv,h]
 cases hxr with
 | stkn=>
  obtain ⟨v,w',g',hr',hst'⟩:=sa (es:=[]) (k:=k) (λ i=>Nat.beq i k) hDl G hi Fj hie hj hjk hy hY hszy G G  h1s h0' hzl' E9 hlen' hs none 0 [] (run_firstCells_none w.drew ie.size 0 0 0) G (λ i x j p hx=>by simp at hx) (by simpa using hys) o.type hn;unfold Oper.wp;rw [hrun0 _ _ hr'];simp only [Oper.upon,hd];exact ⟨g',_,hst',hK⟩
 | stke=>
  rename_i a0;obtain ⟨v,w',g',hr',hst'⟩:=sa (es:=[]) (k:=k) (λ i=>Nat.beq i k) hDl G hi Fj hie hj hjk hy hY hszy G G  h1s h0' hzl' E9 hlen' hs (some a0) 0 [] (run_firstCells_some w.drew ie.size 0 a0 0 0 [] G G) G (λ i x j p hx=>by simp at hx) (by simpa using hys) o.type hn;unfold Oper.wp;rw [hrun0 _ _ hr'];simp only [Oper.upon,hd];exact ⟨g',_,hst',hK⟩
 | stk how hb Fc hlenc hszc Ff Fi hr=>
  rename_i b cap c e0;subst h1s;by_cases hroom:es.length+ys.length<=cap
  ·obtain ⟨u,h1,h2⟩:=bP C.good hi;have h3:=bI (h2.trans Fj);subst h3;obtain ⟨u',h1',h2'⟩:=bP C.good hj;have h3':=bI (h2'.trans hjk);subst h3';obtain ⟨info,hf1,hf2,hf3,z,hf4,hf5⟩:=fT C.good hie;have hyv:=fW hY (bV hs hy);obtain ⟨news,hsrc,hnews⟩:=ol (P:=C.P) (sz:=ie.size) h1' hyv hszy h0';have hnl:news.length=ys.length*ie.size:=hsrc.newsLen
   have hfit:es.length*ie.size+news.length<=c.size:=by
    rw [hnl,Fc,<- Nat.add_mul]; exact Nat.mul_le_mul_right _ hroom
   have hstc:=run_storeCells_at C.P b (es.length*ie.size) e0 news 0 c w hb (by simpa using hfit) hsrc.one;simp only [Nat.add_zero] at hstc;obtain ⟨c',hc'⟩:∃ c',c'=(c.toList.take (es.length*ie.size)++news++c.toList.drop (es.length*ie.size+news.length)).toArray:=⟨_,rfl⟩
   rw [<- hc'] at hstc;have hrr:=gm t tx o.type e info h1 hf1 b es.length cap (a.eval y) ys.length news (by rw [hf2]; exact hsrc) hroom (by rw [hf2]; exact hstc)
   have hcell':∀ j,c'[j]? = if es.length*ie.size<=j/\j<es.length*ie.size+news.length then news[j-es.length*ie.size]? else c[j]?:=by
    intro j;rw [hc'];have:=ia c.toList news (es.length*ie.size) (by simpa using hfit) j;simpa using this
   have hcs':c'.size=cap*ie.size:=by rw [<- Fc,hc']; simp; omega
   have hin:=hs.inplace (λ i=>Nat.beq i k) hDl (k:=k) (d:=k) how G G  hb (c':=c') (hcs'.trans Fc.symm) (λ o h=>by
    have:=(Fi o).1 h
    rw [Array.getElem?_eq_none O,Array.getElem?_eq_none O]) (λ o=>o=cap*ie.size) (λ o h=>(Fi o).1 h)
   have hEv:Ev w g.st (w.setRow b c') (λ b' o=>(b'=b/\o=cap*ie.size)\/(b'≠b/\g.st b' o)):=by
    intro b' o h;by_cases e1:b'=b
    ·subst e1;have ho:=(Fi o).1 h;refine ⟨.inl ⟨rfl,ho⟩,?_⟩;simp only [World.cell?,setRow_heap w b' c c' e0 (0,0) hb,hb];rw [Array.getElem?_eq_none O,Array.getElem?_eq_none O]
    ·exact ⟨.inr ⟨e1,h⟩,by simp only [World.cell?,setRow_other w b b' c' e1]⟩
   have hlenA:(es++ys).length=es.length+ys.length:=aq
   have hrep:ARep (w.setRow b c') ⟨λ b' o=>(b'=b/\o=cap*ie.size)\/(b'≠b/\g.st b' o),λ i=>if i=k then some b else if (Nat.beq i k) then none else g.ow i⟩ (.stk k ie.size (es++ys)) (.slice (some ⟨b,0,none⟩) (es++ys).length cap):=by
    refine .stk G (setRow_heap w b c c' e0 (0,0) hb) hcs' O (λ x hx=>?_) (λ x hx c hc=>?_) (λ o=>?_) (λ i x j p hx hp=>?_)
    ·rcases List.mem_append.1 hx with hx|hx
     ·exact hszc x hx
     ·exact hszy x hx
    ·rcases List.mem_append.1 hx with hx|hx
     ·exact Ff x hx c hc
     ·obtain ⟨i,hi⟩:=List.mem_iff_getElem?.1 hx;obtain ⟨j,hj⟩:=List.mem_iff_getElem?.1 hc;exact (hnews i x j c hi hj).1
    ·constructor
     ·rintro (⟨_,h⟩|⟨h,_⟩)
      ·exact h
      ·exact absurd Z h
     ·intro h; exact .inl ⟨rfl,h⟩
    ·have hjl:j<x.cells.length:=(List.getElem?_eq_some_iff.1 hp).1;rw [List.getElem?_append] at hx;split at hx
     ·rename_i hlt;rw [hszc x (List.mem_of_getElem? hx)] at hjl;have:=nq hlt hjl;obtain ⟨u,hu,hr⟩:=hr i x j p hx hp;exact ⟨u,by rw [hcell',if_neg O]; exact hu,hr.mono hEv⟩
     ·rename_i hge;rw [hszy x (List.mem_of_getElem? hx)] at hjl;have hil:i-es.length<ys.length:=(List.getElem?_eq_some_iff.1 hx).1;have:=nq hil hjl;obtain ⟨_,u,hu,hr⟩:=hnews (i-es.length) x j p hx hp
      have e1:i*ie.size+j=es.length*ie.size+((i-es.length)*ie.size+j):=by
       rw [<- Nat.add_assoc,<- Nat.add_mul]; congr 2; omega
      exact ⟨u,by rw [hcell',if_pos O,e1,Nat.add_sub_cancel_left]; exact hu,hr.mono hEv⟩
   rw [hlenA] at hrep;have hp:=hin.put (d:=some d) (λ t ht=>by cases ht; exact n7 ▸ hn) hrep;unfold Oper.wp;rw [hrun0 _ _ hrr];simp only [Oper.upon,hd];exact ⟨_,_,hp,hK⟩
  ·have hle:es.length*ie.size<=c.toList.length:=by
    have e1:c.toList.length=cap*ie.size:=Array.length_toList.trans Fc;rw [e1]; exact Nat.mul_le_mul_right _ hlenc
   have hlenT:(c.toList.take (es.length*ie.size)).length=es.length*ie.size:=by
    rw [List.length_take]; omega
   have hold:(Builtin.firstCells ie.size es.length (.slice (some ⟨b,0,none⟩) es.length cap)).run C.P w.drew=.ok (c.toList.take (es.length*ie.size)).toArray w.drew:=by
    refine run_firstCells_some w.drew ie.size es.length ⟨b,0,none⟩ es.length cap _ hlenT (λ j v hv=>?_);rw [List.getElem?_take] at hv;split at hv
    ·rw [add_lit,qr,World.cell?_drew];simp only [World.cell?,hb];simpa using hv
    ·cases hv
   obtain ⟨v,w',g',hr',hst'⟩:=sa (es:=es) (k:=k) (λ i=>Nat.beq i k) hDl G hi Fj hie hj hjk hy hY hszy hszc Ff rfl h0' hzl' E9 hlen' hs (some ⟨b,0,none⟩) cap (c.toList.take (es.length*ie.size))
    hold hlenT (λ i x j p hx hp=>by
     obtain ⟨u,hu,hr⟩:=hr i x j p hx hp;have hjl:j<x.cells.length:=(List.getElem?_eq_some_iff.1 hp).1;rw [hszc x (List.mem_of_getElem? hx)] at hjl;have:=nq (List.getElem?_eq_some_iff.1 hx).1 hjl
     exact ⟨u,by rw [List.getElem?_take,if_pos this]; simpa using hu,hr⟩) O o.type hn
   unfold Oper.wp;rw [hrun0 _ _ hr'];simp only [Oper.upon,hd];exact ⟨g',_,hst',hK⟩
theorem vI {t tx e e':TypeId}{x y:Operand}{k sz:Nat}{es:List PV}{Y0z:AV}{ys:List PV}{i ie j:TI}(ho:o.op=.call { callee:=.builtin .append,args:=#[x,y],argTypes:=#[t,tx] })(hd:o.dst=some d)(hn:Nat.blt d C.n=true)
  (hi:look C.tt t=some i) (Fj:i.k=.slice e) (hie:look C.tt e=some ie) (hj:look C.tt tx=some j) (hjk:j.k=.slice e') (hx:evo sl x=some (.stk k sz es)) (hk:Nat.blt k M1=true)
  (hy:evo sl y=some Y0z) (hY:Y0z.elems? = some ys) (hszy:∀ y∈ys,y.cells.length=sz) (hys:0<ys.length) (h1s:ie.size=sz) (h0:Nat.blt 0 sz=true) (hzl:Nat.beq ie.zero.length ie.size=true)
  (E9:(es.length+ys.length)*ie.bytes<=140737488355328) (hlen':es.length+ys.length<=9223372036854775807)
  (hK:K ⟨(d,.stk k sz (es++ys))::(cM (λ i=>Nat.beq i k) ⟨sl,ob⟩).sl,(cM (λ i=>Nat.beq i k) ⟨sl,ob⟩).ob⟩):bG C o K ⟨sl,ob⟩ :=
 oT ho hd hn hi Fj hie hj hjk hx (AV.sub_refl _) hk hy hY hszy hys h1s h0 hzl E9 hlen' hK
def upK (tok sz n:Nat)(z:PV)(x:AV):AV:=match x with
 | .stk t s es=>bif Nat.beq t tok then (bif Nat.beq s sz then .stk t s (es.set n z) else .undef) else .stk t s es
 | x=>x.dem (Nat.beq · tok)
def CB (tok sz n:Nat)(z:PV):List AV->Option (List AV)
 | []=>some []
 | x::r=>(match frc (upK tok sz n z x) with
  | some y=>(match CB tok sz n z r with|some l=>some (y::l)|none=>none)
  | none=>none)
theorem xV {tok sz n:Nat}{z:PV}:∀ {l l':List AV},CB tok sz n z l=some l'->l'=l.map (upK tok sz n z)
 | [],l',h=>by cases h; rfl
 | x::r,l',h=>by
  unfold CB at h;split at h
  ·rename_i y hy;split at h
   ·rename_i m hm; cases h; rw [rm hy,xV hm]; rfl
   ·cases h
  ·cases h
def ue (tok sz n:Nat)(z:PV):List (Nat×List AV)->Option (List (Nat×List AV))
 | []=>some []
 | (i,cs)::r=>(match Nat.beq i tok with
  | true=>ue tok sz n z r
  | false=>(match CB tok sz n z cs with
   | some ds=>(match ue tok sz n z r with|some l=>some ((i,ds)::l)|none=>none)
   | none=>none))
theorem pt {tok sz n:Nat}{z:PV}:∀ {l l':List (Nat×List AV)},ue tok sz n z l=some l'->∀ id cs,look l' id=some cs->id≠tok/\∃ ds,look l id=some ds/\cs=ds.map (upK tok sz n z)
 | [],l',h,id,cs,hc=>by cases h; cases hc
 | (i,xs)::r,l',h,id,cs,hc=>by
  unfold ue at h;split at h
  ·rename_i hb;obtain ⟨h1,ds,h2,h3⟩:=pt h id cs hc;have hi:=d3 hb;refine ⟨h1,ds,?_,h3⟩;rw [bi,if_neg (λ e'=>h1 O)];exact h2
  ·rename_i hb;have hi:i≠tok:=λ e=>by subst e; simp at hb
   split at h
   ·rename_i ds hds;split at h
    ·rename_i m hm
     cases h
     rw [bi] at hc ⊢;by_cases e1:i=id
     ·subst e1;rw [if_pos rfl] at hc ⊢
      cases hc
      exact ⟨hi,xs,Z,xV hds⟩
     ·rw [if_neg e1] at hc ⊢;exact pt hm id cs hc
    ·cases h
   ·cases h
theorem sQ {z:PV}(hc:(AV.p z).cellsA=some (z.cells.map .p)){x:PV}(hx:x∈z.cells):x.one=true:=by
 have h9:PV.onesB z.cells=true\/z.one=true:=by
  cases z with
  | agg cs=>
   simp only [AV.cellsA] at hc
   cases ho:PV.onesB cs
   ·rw [ho] at hc; cases hc
   ·exact .inl ho
  | val _=>
   simp only [AV.cellsA] at hc;rename_i v0
   cases ho:v0.oneCell'
   ·rw [ho] at hc; cases hc
   ·exact .inr ho
  | slice _=>exact .inr Z
  | ifc=>exact .inr Z
  | aint _=>exact .inr Z
 rcases h9 with h9|h9
 ·exact gO h9 x hx
 ·have:z.cells=[z]:=by cases z <;> first|rfl|(simp [PV.one] at h9)
  rw [this] at hx;rw [List.mem_singleton.1 hx]; exact h9
theorem qj {t:TypeId}{x v:Operand}{i:TI}{tok sz n off:Nat}{es:List PV}{z:PV}{Y0z:AV}{sl':List (Nat×AV)}{ob':List (Nat×List AV)}(ho:o.op=.store t x v)(hd:o.dst=none)
  (hi:look C.tt t=some i) (hiz:i.size=sz) (hx:evo sl x=some (.ptr tok off)) (hoff:off=n*sz) (hq:∀ {g:Gh} {a:Act} {w:World},St C.n C.w0 C.F g ⟨sl,ob⟩ a w->∃ u,ARep w g (.stk tok sz es) u) (hn:n<es.length)
  (hv:evo sl v=some Y0z) (hY:Y0z.sub (.p z)) (hc:(AV.p z).cellsA=some (z.cells.map .p)) (hcl:Nat.beq z.cells.length sz=true) (htok:Nat.blt tok M1=true)
  (h1:sl'=sl.map λ p=>(p.1,upK tok sz n z p.2)) (h2:ue tok sz n z ob=some ob') (hK:K ⟨sl',ob'⟩):bG C o K ⟨sl,ob⟩:=by
 subst hiz h1 hoff;have htl:tok<M1:=n7 ▸ htok;have hcl':=d3 hcl;intro g a w hs;have h5:=bV hs hx;have h6:ARep w g (.p z) (a.eval v):=hY _ _ _ (bV hs hv);obtain ⟨vq,h7⟩:=hq hs;obtain ⟨hs1,hs2⟩:=kr hc h6;rw [cl] at hs1;generalize Fe:a.eval x=u at h5
 cases h5 with
 | ptr how=>
 rename_i b
 cases h7 with
 | stkn=>simp at hn
 | stke=>simp at hn
 | stk how0 k2 Fc E9 E' Ff Fi hr=>
  rename_i b0 cap c e;rw [how] at how0; cases how0;obtain ⟨p,hpd⟩:∃ p,p=n*i.size:=⟨_,rfl⟩
  rw [<- hpd] at Fe
  have hp:p+i.size<=c.size:=by
   have:=Nat.mul_le_mul_right i.size (show n+1<=cap by omega);rw [Nat.add_mul,Nat.one_mul] at this;rw [hpd,Fc]; exact this
  have hone1:∀ u∈(a.eval v).cells.toList,u.oneCell'=true:=by
   intro u hu;obtain ⟨j,hj,rfl⟩:=List.getElem_of_mem hu;simp only [Array.length_toList] at hj;exact (hs2 j ((z.cells.map AV.p)[j]'(by simp; omega)) _ (List.getElem?_eq_getElem (by simp; omega)) (by simp [hj])).2
  have hstc:=run_storeCells_at C.P b p e (a.eval v).cells.toList 0 c w k2 (by simp; omega) hone1;simp only [Nat.add_zero,Array.length_toList] at hstc;obtain ⟨c',hc'⟩:∃ c',c'=(c.toList.take p++(a.eval v).cells.toList++c.toList.drop (p+(a.eval v).cells.size)).toArray:=⟨_,rfl⟩
  rw [<- hc'] at hstc;have hsz':=run_sizeOf C.good hi w;have Fo:(a.eval v).cells.size=i.size:=hs1.trans hcl';unfold Oper.wp
  have hrun:(execOp a.eval o).run C.P w=.ok .skip (w.setRow b c'):=by
   simp [execOp,ho,Fe,Instr.storeAt,Instr.sureAddr,storeVar,hsz',Fo,hstc]
  rw [hrun];simp only [Oper.upon,hd,Act.put]
  have Fh:∀ j,c'[j]? = if p<=j/\j<p+i.size then (a.eval v).cells[j-p]? else c[j]?:=by
   intro j;rw [hc'];have:=ia c.toList (a.eval v).cells.toList p (by simp; omega) j;simp only [Array.length_toList,Array.getElem?_toList,Fo] at this;simpa [Fo] using this
  have hsize':c'.size=c.size:=by
   rw [hc']; simp; omega
  have hev':Ev w g.st (w.setRow b c') g.st:=by
   intro b2 o2 h2;by_cases e1:b2=b
   ·subst e1;have:=(Fi o2).1 h2;refine ⟨h2,?_⟩;simp only [World.cell?,k2,setRow_heap w b2 c c' e (0,0) k2];have h7:=Fh o2;rw [if_neg O] at h7;simpa using h7
   ·exact ⟨h2,by simp only [World.cell?,setRow_other w b b2 c' e1]⟩
  have IJ:∀ id b2,Nat.beq id tok=false->g.ow id=some b2->b2≠b:=λ id b2 hD h e=>by
   subst e;have:=hs.inj id tok b2 h how;subst this;simp at hD
  have hE:EvO (Nat.beq · tok) w g (w.setRow b c') g:=by
   refine ⟨hev',λ id b2 _ h=>h,λ id b2 c2 e2 hD h h2=>⟨c2,(setRow_other w b b2 c' (IJ id b2 hD h)).trans h2,Z⟩,λ id b2 o2 hD h h3=>h3,λ id b2 es2 k2' hD h h2=>(setRow_other w b b2 c' (IJ id b2 hD h)).trans h2,λ i hi=>?_,λ id b2 o2 hD h _=>setRow_other w b b2 c' (IJ id b2 hD h)⟩
   cases hq:Nat.beq i tok
   ·rfl
   ·have:=d3 hq; have:=ru hi; omega
  have hup:∀ {y:AV} {u:Value},ARep w g y u->ARep (w.setRow b c') g (upK tok i.size n z y) u:=by
   intro y u h;unfold upK;split
   ·rename_i t s es1
    cases hq:Nat.beq t tok
    ·have:=h.dem hE;simpa [AV.dem,hq] using this
    ·have e1:=d3 hq;subst e1;simp only [cond_true]
     cases hq2:Nat.beq s i.size
     ·exact .undef _
     ·have e2:=d3 hq2;subst e2;simp only [cond_true]
      cases h with
      | stkn=>exact .stkn _ _
      | stke=>exact .stke _ _ _
      | stk how2 hb2 hcs2 hlen2 hsz2 hone2 hst2 hr2=>
       rename_i b2 cap2 c2 e2;rw [how] at how2; cases how2;rw [k2] at hb2; cases hb2;have hl:(es1.set n z).length=es1.length:=List.length_set;rw [<- hl];refine .stk how (setRow_heap w b c c' e (0,0) k2) (hsize'.trans hcs2) O (λ x hx=>?_) (λ x hx y hy=>?_) hst2 (λ k x j p1 hx hp1=>?_)
       ·rcases List.mem_or_eq_of_mem_set hx with hx|rfl
        ·exact hsz2 x hx
        ·exact hcl'
       ·rcases List.mem_or_eq_of_mem_set hx with hx|rfl
        ·exact hone2 x hx y hy
        ·exact sQ hc hy
       ·rw [List.getElem?_set] at hx;split at hx
        ·rename_i hnk;subst hnk;split at hx
         ·simp only [bx] at hx;subst hx;have hjl:j<z.cells.length:=(List.getElem?_eq_some_iff.1 hp1).1;have hjc:j<(a.eval v).cells.size:=by omega
          have h8:=hs2 j (.p p1) _ (by simp [hp1]) (Array.getElem?_eq_getElem hjc);refine ⟨(a.eval v).cells[j],?_,?_⟩
          ·rw [Fh,<- hpd,if_pos ⟨by omega,by omega⟩];rw [show p+j-p=j by omega];exact Array.getElem?_eq_getElem hjc
          ·cases h8.1 with
           | p hr=>exact hr.mono hev'
         ·cases hx
        ·rename_i hnk;obtain ⟨u,hu,hrr⟩:=hr2 k x j p1 hx hp1;have hjl:j<i.size:=by rw [<- hsz2 x (List.mem_of_getElem? hx)]; exact (List.getElem?_eq_some_iff.1 hp1).1
         refine ⟨u,?_,hrr.mono hev'⟩;rw [Fh,if_neg ?_]
         ·exact hu
         ·rw [hpd];rcases Nat.lt_or_gt_of_ne hnk with h9|h9
          ·have:=Nat.mul_le_mul_right i.size (show n+1<=k from h9);rw [Nat.add_mul,Nat.one_mul] at this; omega
          ·have:=Nat.mul_le_mul_right i.size (show k+1<=n from h9);rw [Nat.add_mul,Nat.one_mul] at this; omega
   ·exact h.dem hE
  refine ⟨g,⟨sl.map λ p=>(p.1,upK tok i.size n z p.2),ob'⟩,?_,hK⟩;refine ⟨hs.nd,hs.sz,λ j=>?_,λ id' cs' h'=>?_,hs.inj,λ j b2 h=>?_,λ b2 o2 h=>?_,hs.fl,λ b2 h=>?_,hs.os,hs.out,hs.tape,?_,hs.stf,hs.owf,hs.shf.next (λ _ b c e _ _ h=>(n0 k2 hsize').1 b c e h),hs.nst,hs.ev0.trans hev'⟩
  ·have h:=hs.sl j;simp only [AS.get,ic];simp only [AS.get] at h
   cases hl:look sl j with
   | none=>simp only [Option.map_none,Option.getD_none]; exact .undef _
   | some x=>rw [hl] at h; simpa using hup h
  ·obtain ⟨hne',ds,m1,rfl⟩:=pt h2 id' cs' h';obtain ⟨b2,c2,e2,n1,n2,n3,n4,n5⟩:=hs.ob id' ds m1
   have hD:Nat.beq id' tok=false:=by
    cases hq:Nat.beq id' tok
    ·rfl
    ·exact absurd (d3 hq) hne'
   have hb2:=IJ id' b2 hD n1;refine ⟨b2,c2,e2,n1,(setRow_other w b b2 c' hb2).trans n2,by simpa using n3,n4,λ j y hy=>?_⟩;simp only [List.getElem?_map,n8] at hy;obtain ⟨y0,hy0,rfl⟩:=hy;obtain ⟨u,hu,hr⟩:=n5 j y0 hy0;exact ⟨u,hu,hup hr⟩
  ·have:=hs.own j b2 h; exact ⟨by simpa using this.1,this.2⟩
  ·have:=hs.lt b2 o2 h; simpa using this
  ·have Fo:b2≠b:=λ e=>(hs.own tok b how).2 (e ▸ h);exact (setRow_other w b b2 c' Fo).trans (hs.fr b2 h)
  ·have:=hs.size; simpa using this
theorem Ao {q tok sz:Nat}{es:List PV}(hq:look sl q=some (.stk tok sz es)){g:Gh}{a:Act}{w:World}(hs:St C.n C.w0 C.F g ⟨sl,ob⟩ a w):∃ u,ARep w g (.stk tok sz es) u:=by
 have h7:=hs.sl q;simp only [AS.get,hq,ro] at h7;exact ⟨_,h7⟩
theorem zU {id j tok sz:Nat}{cs:List AV}{es:List PV}(hq:look ob id=some cs)(hj:cs[j]? = some (.stk tok sz es)){g:Gh}{a:Act}{w:World}(hs:St C.n C.w0 C.F g ⟨sl,ob⟩ a w):∃ u,ARep w g (.stk tok sz es) u:=by
 obtain ⟨b2,c2,e2,n1,n2,n3,n4,n5⟩:=hs.ob id cs hq;obtain ⟨u,_,hr⟩:=n5 j _ hj;exact ⟨u,hr⟩
theorem rN {t e:TypeId}{x y:Operand}{i ie:TI}{k:IntKind}{n:Int}{id sz:Nat}{es:List PV}(ho:o.op=.indexAddr t x y)(hd:o.dst=some d)(hn:Nat.blt d C.n=true)
  (hi:look C.tt t=some i) (Fj:i.k=.slice e) (hie:look C.tt e=some ie) (hx:evo sl x=some (.stk id sz es))
  (hy:evo sl y=some (.p (.val (.int k n)))) (E':ie.size=sz) (hb:0<=n/\n<(es.length:Int))
  (hK:K ⟨(d,.ptr id (n.toNat*sz))::sl,ob⟩):bG C o K ⟨sl,ob⟩:=by
 obtain ⟨u,h1,h2⟩:=bP C.good hi;have h3:=bI (h2.trans Fj);subst h3;refine ok_one hd hn (λ g a w hs=>?_) hK;have h5:=bV hs hx;generalize hv:a.eval x=v at h5
 cases h5 with
 | stkn=>simp at hb; omega
 | stke=>simp at hb; omega
 | stk how hb' Fc hlenc hszc Ff Fi hr=>
  rename_i b cap c e';exact ⟨.pointer (some ⟨b,n.toNat*sz,none⟩),by simp [execOp,ho,hv,cn hs hy,Instr.indexAt,asIntOf,run_underlying h1,hb.1,hb.2,run_sizeOf C.good hie,E',add_lit],.ptr how⟩
theorem AN {id sz:Nat}{es:List PV}{q:Nat}{sl':List (Nat×AV)}{ob':List (Nat×List AV)}(hid:id<M1)(hq:look sl q=some (.stk id sz es))(h1:dmS (Nat.beq · id) sl=some sl')(h2:dmO (Nat.beq · id) ob=some ob') :
  dO C ⟨sl,ob⟩ ⟨(q,.p (.slice es))::sl',ob'⟩:=by
 intro g a w hs;have h6:=hs.sl q;simp only [AS.get,hq,ro] at h6
 have drop:∀ (st':Nat->Nat->Prop),(∀ b o,g.st b o->st' b o)->(∀ i b,i≠id->g.ow i=some b->∀ o,st' b o->g.st b o)->(∀ b o,st' b o->b<w.heap.size)->(∀ b,C.F b->∀ o,st' b o↔g.st b o) ->
   St C.n C.w0 C.F ⟨st',λ i=>if i=id then none else g.ow i⟩ (cM (Nat.beq · id) ⟨sl,ob⟩) a w:=by
  intro st' k1 k2 k3 k4;refine hs.evolve (Nat.beq · id) (Bq hid) (λ b o h=>⟨k1 b o h,rfl⟩) (λ i b hD h=>?_) (λ i j b h1 h2=>?_) (λ i b h=>?_) k3 (λ b h=>rfl) Z Z Z (mv _) k4 (λ i hi=>?_)
  ·have Fo:i≠id:=λ e=>by subst e; simp at hD
   exact ⟨by simp only [if_neg Fo]; exact h,Z,k2 i b Fo h⟩
  ·dsimp only at h1 h2;split at h1
   ·cases h1
   ·split at h2
    ·cases h2
    ·exact hs.inj i j b h1 h2
  ·dsimp only at h;split at h
   ·cases h
   ·exact hs.own i b h
  ·dsimp only; rw [if_neg O]
 obtain ⟨g',hs',hrep⟩:∃ g',St C.n C.w0 C.F g' (cM (Nat.beq · id) ⟨sl,ob⟩) a w/\ARep w g' (.p (.slice es)) (a.tmps.getD q Go.undef):=by
  generalize a.tmps.getD q Go.undef=vq at h6
  cases h6 with
  | stkn=>exact ⟨_,drop g.st (λ _ _ h=>h) (λ _ _ _ _ _ h=>h) hs.lt (λ _ _ _=>Iff.rfl),.p .nils⟩
  | stke=>exact ⟨_,drop g.st (λ _ _ h=>h) (λ _ _ _ _ _ h=>h) hs.lt (λ _ _ _=>Iff.rfl),.p (.nile _)⟩
  | stk how hb Fc E9 E' Ff Fi hr=>
   rename_i b cap c e;have hown:=hs.own id b how;refine ⟨_,drop (λ b' o=>g.st b' o\/(b'=b/\o<es.length*sz)) (λ _ _ h=>.inl h) (λ i b' Fo h o h2=>?_) (λ b' o h=>?_) (λ b' hF o=>?_),.p ?_⟩
   ·rcases h2 with h2|⟨h2,_⟩
    ·exact h2
    ·subst h2; exact absurd (hs.inj i id b' h how) Fo
   ·rcases h with h|⟨h,_⟩
    ·exact hs.lt b' o h
    ·subst h; exact hown.1
   ·constructor
    ·rintro (h|⟨h,_⟩)
     ·exact h
     ·subst h; exact absurd hF hown.2
    ·exact .inl
   ·refine .slice sz (λ i j=>(c[i*sz+j]?).getD Go.undef) E9 E' Ff (λ i x j p hx hp=>?_) (λ i x j p hx hp=>?_)
    ·obtain ⟨v,h3,h4⟩:=hr i x j p hx hp;have hil:i<es.length:=(List.getElem?_eq_some_iff.1 hx).1;have hjl:j<sz:=by have:=(List.getElem?_eq_some_iff.1 hp).1; rw [E' x (List.mem_of_getElem? hx)] at this; exact this
     have:=nq hil hjl;refine ⟨.inr ⟨Z,by omega⟩,?_⟩;simp only [World.cell?,hb,qr];rw [h3];simp
    ·obtain ⟨v,h3,h4⟩:=hr i x j p hx hp;rw [h3];exact h4.mono λ b o h=>⟨.inl h,rfl⟩
 refine ⟨g',?_⟩;rw [pA h1,nr h2];refine { hs' with sl:=λ i=>?_ };simp only [AS.get,bi];by_cases e:q=i
 ·subst e; rw [if_pos rfl]; exact hrep
 ·rw [if_neg e]; exact hs'.sl i
theorem yr {t e:Nat}{x y:Operand}{i ie:TI}{k k':IntKind}{m:Int}(ho:o.op=.makeSlice t x y)(hd:o.dst=some d)(hn:Nat.blt d C.n=true)
  (hi:look C.tt t=some i) (Fj:i.k=.slice e) (hie:look C.tt e=some ie) (hx:evo sl x=some (.p (.val (.int k 0)))) (hy:evo sl y=some (.p (.val (.int k' m))))
  (hb:0<=m/\m<=9223372036854775807/\(ie.bytes:Int)*m<=281474976710656) {sz:Nat} (E':ie.size=sz) {ob':List (Nat×List AV)} (hob:dmO (λ i=>Nat.beq i d) ob=some ob')
  (hK:K ⟨(d,.stk d sz [])::(cM (λ i=>Nat.beq i d) ⟨sl,ob⟩).sl,ob'⟩):bG C o K ⟨sl,ob⟩:=by
 subst E';have e1:=(nr hob).symm;have hdl:d<M1:=by have h1:=py C.nl; have h2:d<C.n:=n7 ▸ hn; omega
 intro g a w hs;obtain ⟨c,hc,hrun⟩:=yD C.good hi Fj hie k k' hb w;have hf:=hs.fresh (λ i=>Nat.beq i d) (λ i hi=>by have:=d3 hi; omega) d G (λ o=>o=m.toNat*ie.size) c e
 have hp:=hf.put (d:=some d) (λ t ht=>by cases ht; exact n7 ▸ hn) (x:=.stk d ie.size []) (v:=.slice (some ⟨w.heap.size,0,none⟩) 0 m.toNat)
  (.stk (es:=[]) (cap:=m.toNat) G bZ (by simpa using hc) (Nat.zero_le _) G G  (λ o=>by
   constructor
   ·rintro (h|⟨_,h⟩)
    ·exact absurd (hs.lt _ _ h) (Nat.lt_irrefl _)
    ·exact h
   ·intro h; exact .inr ⟨rfl,h⟩) (λ i x j p hx=>by simp at hx))
 unfold Oper.wp
 have hrun':(execOp a.eval o).run C.P w=.ok (.value (.slice (some ⟨w.heap.size,0,none⟩) 0 m.toNat)) (w.alloc (.cells c e)):=by
  simp only [execOp,ho,cn hs hx,cn hs hy,Sem.run_bind,hrun,Result.andThen_ok,Sem.run_pure]
 rw [hrun'];simp only [Oper.upon,hd];rw [<- show (cM (λ i=>Nat.beq i d) ⟨sl,ob⟩).ob=ob' from e1] at hK;exact ⟨_,_,hp,hK⟩
end
mutual
def AV.stl (tok:Nat):AV->AV|.stk t s es=>bif Nat.beq t tok then .p (.slice es) else .stk t s es|.agg cs=>.agg (AV.stlL tok cs)|.tuple cs=>.tuple (AV.stlL tok cs)|x=>x.dem (Nat.beq · tok)
def AV.stlL (tok:Nat):List AV->List AV|[]=>[]|x::r=>x.stl tok::AV.stlL tok r
end
theorem uh (tok:Nat):∀ l:List AV,AV.stlL tok l=l.map (AV.stl tok)
 | []=>by rw [AV.stlL]; rfl
 | x::r=>by rw [AV.stlL,uh tok r]; rfl
theorem ARep.stl {tok:Nat}{w:World}{g g':Gh}(hE:EvO (Nat.beq · tok) w g w g')(hs:∀ b c e,g.ow tok=some b->w.heap[b]? = some (.cells c e (0,0))->∀ o,o<c.size->g'.st b o)
  {x:AV} {v:Value} (h:ARep w g x v):ARep w g' (x.stl tok) v:=by
 induction h with
 | agg hl h ih=>
  simp only [AV.stl,uh];refine .agg (by simpa using hl) λ i c v h1 h2=>?_;rw [List.getElem?_map] at h1;obtain ⟨x,hx,rfl⟩:=n8.1 h1;exact ih i x v hx h2
 | stkn t sz=>
  simp only [AV.stl]
  cases Nat.beq t tok
  ·exact .stkn _ _
  ·exact .p .nils
 | stke t sz a=>
  simp only [AV.stl]
  cases Nat.beq t tok
  ·exact .stke _ _ _
  ·exact .p (.nile _)
 | stk how hb Fc E9 E' Ff Fi hr=>
  rename_i t sz es b cap c e;have hd:=(ARep.stk how hb Fc E9 E' Ff Fi hr).dem hE;simp only [AV.stl];simp only [AV.dem] at hd
  cases hq:Nat.beq t tok
  ·rw [hq] at hd; exact hd
  ·have:=d3 hq;subst this;refine .p (.slice sz (λ i j=>(c[i*sz+j]?).getD Go.undef) E9 E' Ff (λ i x j p hx hp=>?_) (λ i x j p hx hp=>?_))
   ·obtain ⟨v,h3,h4⟩:=hr i x j p hx hp;refine ⟨hs b c e how hb _ ?_,?_⟩
    ·have:=(Array.getElem?_eq_some_iff.1 h3).1;omega
    ·simp only [World.cell?,hb,qr];rw [h3];simp
   ·obtain ⟨v,h3,h4⟩:=hr i x j p hx hp;rw [h3];exact h4.mono hE.ev
 | undef v=>exact (ARep.undef v).dem hE
 | p h=>exact (ARep.p h).dem hE
 | vecn a b c=>exact (ARep.vecn a b c).dem hE
 | vece a b c=>exact (ARep.vece a b c).dem hE
 | vec h1 h2 h3 h4 h5 h6 h7=>exact (ARep.vec h1 h2 h3 h4 h5 h6 h7).dem hE
 | arr h1 h2 h3 h4=>exact (ARep.arr h1 h2 h3 h4).dem hE
 | ptr h1=>exact (ARep.ptr h1).dem hE
 | bptrn h1 h2 h3=>exact (ARep.bptrn h1 h2 h3).dem hE
 | bptr h1 h2 h3=>exact (ARep.bptr h1 h2 h3).dem hE
 | rptr a h1 h2=>exact (ARep.rptr a h1 h2).dem hE
 | tuple hl h ih=>
  simp only [AV.stl,uh];refine .tuple (by simpa using hl) λ i c v h1 h2=>?_;rw [List.getElem?_map] at h1;obtain ⟨x,hx,rfl⟩:=n8.1 h1;exact ih i x v hx h2
 | func hl h _=>exact (ARep.func hl h).dem hE
 | mp h1 h2 h3 h4 h5 h6=>exact (ARep.mp h1 h2 h3 h4 h5 h6).dem hE
 | mpr h1 h2 h3 h4 h5 h6 _=>exact (ARep.mpr h1 h2 h3 h4 h5 h6).dem hE
 | sem h1 h=>exact (ARep.sem h1 h).dem hE
 | it h1 h2 h3=>exact (ARep.it h1 h2 h3).dem hE
 | vecp h1 h2 h3 h4 h5 h6 h7 h8=>exact (ARep.vecp h1 h2 h3 h4 h5 h6 h7 h8).dem hE
 | elp h1 h2 h3 h4=>exact (ARep.elp h1 h2 h3 h4).dem hE
def BC (tok:Nat):List AV->Option (List AV)
 | []=>some []
 | x::r=>(match frc (x.stl tok) with
  | some y=>(match BC tok r with|some l=>some (y::l)|none=>none)
  | none=>none)
theorem xT {tok:Nat}:∀ {l l':List AV},BC tok l=some l'->l'=l.map (AV.stl tok)
 | [],l',h=>by cases h; rfl
 | x::r,l',h=>by
  unfold BC at h;split at h
  ·rename_i y hy;split at h
   ·rename_i m hm; cases h; rw [rm hy,xT hm]; rfl
   ·cases h
  ·cases h
def Cs (tok:Nat):List (Nat×AV)->Option (List (Nat×AV))
 | []=>some []
 | (i,x)::r=>(match frc (x.stl tok) with
  | some y=>(match Cs tok r with|some l=>some ((i,y)::l)|none=>none)
  | none=>none)
theorem xx {tok:Nat}:∀ {l l':List (Nat×AV)},Cs tok l=some l'->l'=l.map λ p=>(p.1,p.2.stl tok)
 | [],l',h=>by cases h; rfl
 | (i,x)::r,l',h=>by
  unfold Cs at h;split at h
  ·rename_i y hy;split at h
   ·rename_i m hm; cases h; rw [rm hy,xx hm]; rfl
   ·cases h
  ·cases h
def wS (tok:Nat):List (Nat×List AV)->Option (List (Nat×List AV))
 | []=>some []
 | (i,cs)::r=>(match Nat.beq i tok with
  | true=>wS tok r
  | false=>(match BC tok cs with
   | some ds=>(match wS tok r with|some l=>some ((i,ds)::l)|none=>none)
   | none=>none))
theorem pB {tok:Nat}:∀ {l l':List (Nat×List AV)},wS tok l=some l'->∀ id cs,look l' id=some cs->id≠tok/\∃ ds,look l id=some ds/\cs=ds.map (AV.stl tok)
 | [],l',h,id,cs,hc=>by cases h; cases hc
 | (i,xs)::r,l',h,id,cs,hc=>by
  unfold wS at h;split at h
  ·rename_i hb;obtain ⟨h1,ds,h2,h3⟩:=pB h id cs hc;have hi:=d3 hb;refine ⟨h1,ds,?_,h3⟩;rw [bi,if_neg (λ e'=>h1 O)];exact h2
  ·rename_i hb;have hi:i≠tok:=λ e=>by subst e; simp at hb
   split at h
   ·rename_i ds hds;split at h
    ·rename_i m hm
     cases h
     rw [bi] at hc ⊢;by_cases e1:i=id
     ·subst e1;rw [if_pos rfl] at hc ⊢
      cases hc
      exact ⟨hi,xs,Z,xT hds⟩
     ·rw [if_neg e1] at hc ⊢;exact pB hm id cs hc
    ·cases h
   ·cases h
theorem rH {C:Cx}{sl sl':List (Nat×AV)}{ob ob':List (Nat×List AV)}(tok:Nat)(hid:Nat.blt tok M1=true)(h1:sl'=sl.map λ p=>(p.1,p.2.stl tok))(h2:wS tok ob=some ob') :
  dO C ⟨sl,ob⟩ ⟨sl',ob'⟩:=by
 have hid':tok<M1:=n7 ▸ hid;intro g a w hs;obtain ⟨st',hst'⟩:∃ st':Nat->Nat->Prop,∀ b o,st' b o↔g.st b o\/(g.ow tok=some b/\∃ c e,w.heap[b]? = some (.cells c e (0,0))/\o<c.size):=⟨_,λ _ _=>Iff.rfl⟩
 have k1:∀ b o,g.st b o->st' b o:=λ b o h=>(hst' b o).2 (.inl h)
 have k2:∀ i b,i≠tok->g.ow i=some b->∀ o,st' b o->g.st b o:=λ i b Fo h o h2=>by
  rcases (hst' b o).1 h2 with h3|⟨h3,_⟩
  ·exact h3
  ·exact absurd (hs.inj i tok b h h3) Fo
 obtain ⟨g',hg',how'⟩:∃ g':Gh,g'.st=st'/\∀ i,g'.ow i=if i=tok then none else g.ow i:=⟨⟨st',λ i=>if i=tok then none else g.ow i⟩,rfl,λ _=>rfl⟩
 have hs':St C.n C.w0 C.F g' (cM (Nat.beq · tok) ⟨sl,ob⟩) a w:=by
  refine hs.evolve (Nat.beq · tok) (Bq hid') (λ b o h=>⟨by rw [hg']; exact k1 b o h,Z⟩) (λ i b hD h=>?_) (λ i j b h1 h2=>?_) (λ i b h=>?_) (λ b o h=>?_) (λ b h=>rfl) Z Z Z (mv _) (λ b hF o=>?_) (λ i hi=>?_)
  ·have Fo:i≠tok:=λ e=>by subst e; simp at hD
   exact ⟨by rw [how',if_neg Fo]; exact h,Z,by rw [hg']; exact k2 i b Fo h⟩
  ·rw [how'] at h1 h2;split at h1
   ·cases h1
   ·split at h2
    ·cases h2
    ·exact hs.inj i j b h1 h2
  ·rw [how'] at h;split at h
   ·cases h
   ·exact hs.own i b h
  ·rw [hg'] at h;rcases (hst' b o).1 h with h|⟨h,_⟩
   ·exact hs.lt b o h
   ·exact (hs.own tok b h).1
  ·rw [hg'];refine ⟨λ h=>?_,k1 b o⟩;rcases (hst' b o).1 h with h|⟨h,_⟩
   ·exact h
   ·exact absurd hF (hs.own tok b h).2
  ·rw [how',if_neg O]
 have hE:EvO (Nat.beq · tok) w g w g':=by
  refine ⟨λ b o h=>⟨by rw [hg']; exact k1 b o h,Z⟩,λ id b hD h=>?_,λ id b c e hD h hb=>⟨c,hb,Z⟩,λ id b o hD h h3=>?_,λ id b es k hD h hb=>hb,λ i hi=>?_,λ _ _ _ _ _ _=>rfl⟩
  ·have Fo:id≠tok:=λ e=>by subst e; simp at hD
   rw [how',if_neg Fo]; exact h
  ·have Fo:id≠tok:=λ e=>by subst e; simp at hD
   rw [hg'] at h3;exact k2 id b Fo h o h3
  ·cases hq:Nat.beq i tok
   ·rfl
   ·have:=d3 hq; have:=ru hi; omega
 have hall:∀ b c e,g.ow tok=some b->w.heap[b]? = some (.cells c e (0,0))->∀ o,o<c.size->g'.st b o:=λ b c e h h2 o h3=>by
  rw [hg']; exact (hst' b o).2 (.inr ⟨h,c,e,h2,h3⟩)
 refine ⟨g',{ hs' with sl:=λ i=>?_,ob:=λ id cs hc=>?_ }⟩
 ·have h:=hs.sl i;rw [h1];simp only [AS.get,ic];simp only [AS.get] at h
  cases hl:look sl i with
  | none=>simp only [Option.map_none,Option.getD_none]; exact .undef _
  | some x=>rw [hl] at h; simpa using h.stl hE hall
 ·obtain ⟨Fo,ds,m1,rfl⟩:=pB h2 id cs hc;obtain ⟨b2,c2,e2,n1,n2,n3,n4,n5⟩:=hs.ob id ds m1;refine ⟨b2,c2,e2,by rw [how',if_neg Fo]; exact n1,n2,by simpa using n3,λ o h3=>n4 o (k2 id b2 Fo n1 o (by rw [<- hg']; exact h3)),λ j y hy=>?_⟩;simp only [List.getElem?_map,n8] at hy;obtain ⟨y0,hy0,rfl⟩:=hy;obtain ⟨u,hu,hr⟩:=n5 j y0 hy0;exact ⟨u,hu,hr.stl hE hall⟩
theorem gQ {C:Cx}{sl sl':List (Nat×AV)}{ob ob':List (Nat×List AV)}(tok:Nat)(hid:Nat.blt tok M1=true)(h1:Cs tok sl=some sl')(h2:wS tok ob=some ob') :
  dO C ⟨sl,ob⟩ ⟨sl',ob'⟩:=rH tok hid (xx h1) h2
mutual
theorem td (D:Nat->Bool)(tok:Nat)(h:D tok=true):∀ x:AV,(x.dem D).dem (Nat.beq · tok)=x.dem D
 | .undef=>by simp only [AV.dem]
 | .p _=>by simp only [AV.dem]
 | .agg cs=>by simp only [AV.dem]; rw [mq D tok h cs]
 | .tuple cs=>by simp only [AV.dem]; rw [mq D tok h cs]
 | .func f cs=>by simp only [AV.dem]; rw [mq D tok h cs]
 | .rptr _=>by simp only [AV.dem]
 | .sem ts R=>by
  cases hd:ts.any D
  ·have:ts.any (Nat.beq · tok)=false:=List.any_eq_false.2 λ t ht=>by
    have h1:=List.any_eq_false.1 hd t ht;intro h2;rw [d3 h2] at h1;exact h1 h
   simp only [AV.dem,hd,cond_false,this]
  ·simp only [AV.dem,hd,cond_true]
 | .vec t _ _ _|.arr t _ _ _|.ptr t _|.bptr _ _ t|.mp t _|.mpr t _ _ _ _|.stk t _ _|.it t _ _|.vecp t _ _ _|.elp t _=>by
  cases hd:D t
  ·have:Nat.beq t tok=false:=by
    cases hb:Nat.beq t tok
    ·rfl
    ·rw [d3 hb,h] at hd; cases hd
   simp only [AV.dem,hd,cond_false,this]
  ·simp only [AV.dem,hd,cond_true]
theorem mq (D:Nat->Bool)(tok:Nat)(h:D tok=true):∀ l:List AV,iV (Nat.beq · tok) (iV D l)=iV D l
 | []=>by simp only [iV]
 | x::r=>by simp only [iV]; rw [td D tok h x,mq D tok h r]
end
mutual
theorem yh (D:Nat->Bool)(tok:Nat)(h:D tok=true):∀ x:AV,(x.dem D).stl tok=x.dem D
 | .agg cs=>by simp only [AV.dem,AV.stl]; rw [rx D tok h cs]
 | .stk t s es=>by
  cases hd:D t
  ·have:Nat.beq t tok=false:=by
    cases hb:Nat.beq t tok
    ·rfl
    ·rw [d3 hb,h] at hd; cases hd
   simp only [AV.dem,hd,cond_false,AV.stl,this]
  ·simp only [AV.dem,hd,cond_true,AV.stl]
 | .undef=>by simp only [AV.dem,AV.stl]
 | .p x=>by simp only [AV.dem,AV.stl]
 | .tuple cs=>by simp only [AV.dem,AV.stl]; rw [rx D tok h cs]
 | .func f cs=>by have:=td D tok h (.func f cs); simp only [AV.dem] at this; simp only [AV.dem,AV.stl]; exact this
 | .rptr _=>by simp only [AV.dem,AV.stl]
 | .sem ts R=>by
  cases hd:ts.any D
  ·have:ts.any (Nat.beq · tok)=false:=List.any_eq_false.2 λ t ht=>by
    have h1:=List.any_eq_false.1 hd t ht;intro h2;rw [d3 h2] at h1;exact h1 h
   simp only [AV.dem,hd,cond_false,AV.stl,this]
  ·simp only [AV.dem,hd,cond_true,AV.stl]
 | .vec t _ _ _|.arr t _ _ _|.ptr t _|.bptr _ _ t|.mp t _|.mpr t _ _ _ _|.it t _ _|.vecp t _ _ _|.elp t _=>by
  cases hd:D t
  ·have:Nat.beq t tok=false:=by
    cases hb:Nat.beq t tok
    ·rfl
    ·rw [d3 hb,h] at hd; cases hd
   simp only [AV.dem,hd,cond_false,AV.stl,this]
  ·simp only [AV.dem,hd,cond_true,AV.stl]
theorem rx (D:Nat->Bool)(tok:Nat)(h:D tok=true):∀ l:List AV,AV.stlL tok (iV D l)=iV D l
 | []=>by simp only [iV,AV.stlL]
 | x::r=>by simp only [iV,AV.stlL]; rw [yh D tok h x,rx D tok h r]
end
section
variable {C:Cx} {o:Oper} {K:AS->Prop} {sl:List (Nat×AV)} {ob:List (Nat×List AV)} {d:Nat}
theorem A6 {α:Type}(f:α->PV)(l0 l:List α){t tx e e':TypeId}{x y:Operand}{k sz:Nat}{Y0z:AV}{i ie j:TI}{sl':List (Nat×AV)}{ob':List (Nat×List AV)}(ho:o.op=.call { callee:=.builtin .append,args:=#[x,y],argTypes:=#[t,tx] })(hd:o.dst=some d)(hn:Nat.blt d C.n=true)
  (hi:look C.tt t=some i) (Fj:i.k=.slice e) (hie:look C.tt e=some ie) (hj:look C.tt tx=some j) (hjk:j.k=.slice e') (hx:evo sl x=some (.stk k sz (l0.map f))) (hk:Nat.blt k M1=true)
  (hy:evo sl y=some Y0z) (hY:Y0z.elems? = some (l.map f)) (E':∀ x,(f x).cells.length=sz) (hys:0<l.length) (h1s:ie.size=sz) (h0:Nat.blt 0 sz=true) (hzl:Nat.beq ie.zero.length ie.size=true) (hby:Nat.blt 0 ie.bytes=true)
  (E9:(l0.length+l.length)*ie.bytes<=140737488355328) (h1:dmS (λ i=>Nat.beq i k) sl=some sl') (h2:dmO (λ i=>Nat.beq i k) ob=some ob')
  (hK:K ⟨(d,.stk k sz ((l0++l).map f))::sl',ob'⟩):bG C o K ⟨sl,ob⟩:=by
 have hby':1<=ie.bytes:=Nat.succ_le_of_lt (by simpa using hby);have h3:(l0.length+l.length)*1<=(l0.length+l.length)*ie.bytes:=Nat.mul_le_mul_left _ hby';refine vI ho hd hn hi Fj hie hj hjk hx hk hy hY (λ y hy=>?_) (by simpa using hys) h1s h0 hzl (by rw [cl,cl]; exact E9) (by rw [cl,cl]; omega) ?_
 ·obtain ⟨x,_,rfl⟩:=List.mem_map.1 hy;exact E' x
 ·rw [<- List.map_append];simp only [cM];rw [<- pA h1,<- nr h2];exact hK
theorem kY {α:Type}(f:α->PV)(l:List α){t e:TypeId}{x y:Operand}{i ie:TI}{k:IntKind}{n:Int}{id sz:Nat}(ho:o.op=.indexAddr t x y)(hd:o.dst=some d)(hn:Nat.blt d C.n=true)
  (hi:look C.tt t=some i) (Fj:i.k=.slice e) (hie:look C.tt e=some ie) (hx:evo sl x=some (.stk id sz (l.map f)))
  (hy:evo sl y=some (.p (.val (.int k n)))) (E':ie.size=sz) (hb:0<=n/\n<(l.length:Int)) (hK:K ⟨(d,.ptr id (n.toNat*sz))::sl,ob⟩):bG C o K ⟨sl,ob⟩ :=
 rN ho hd hn hi Fj hie hx hy E' (by rw [cl]; exact hb) hK
def qT {α:Type}(l:List α)(n:Int)(y:α):List α:=l.set n.toNat y
theorem xF {α:Type}(f:α->PV)(tok sz:Nat)(l:List α)(n:Int)(y:α):upK tok sz n.toNat (f y) (.stk tok sz (l.map f))=.stk tok sz ((qT l n y).map f):=by
 simp [upK,qT,List.map_set]
theorem Da {α:Type}(f:α->PV)(l:List α)(y:α)(q:Nat){t:TypeId}{x v:Operand}{i:TI}{tok sz:Nat}{n:Int}{Y0z:AV}{sl':List (Nat×AV)}{ob':List (Nat×List AV)}(ho:o.op=.store t x v)(hd:o.dst=none)
  (hi:look C.tt t=some i) (hiz:i.size=sz) (hx:evo sl x=some (.ptr tok (n.toNat*sz))) (hq:look sl q=some (.stk tok sz (l.map f))) (hb:0<=n/\n<(l.length:Int))
  (hv:evo sl v=some Y0z) (hY:Y0z.sub (.p (f y))) (hc:(AV.p (f y)).cellsA=some ((f y).cells.map .p)) (hcl:Nat.beq (f y).cells.length sz=true) (htok:Nat.blt tok M1=true)
  (h1:sl'=sl.map λ p=>(p.1,upK tok sz n.toNat (f y) p.2)) (h2:ue tok sz n.toNat (f y) ob=some ob') (hK:K ⟨sl',ob'⟩):bG C o K ⟨sl,ob⟩ :=
 qj ho hd hi hiz hx Z (Ao hq) (by rw [cl]; omega) hv hY hc hcl htok h1 h2 hK
theorem qm {α:Type}(f:α->PV)(l:List α)(y:α)(id j:Nat){cs:List AV}{t:TypeId}{x v:Operand}{i:TI}{tok sz:Nat}{n:Int}{Y0z:AV}{sl':List (Nat×AV)}{ob':List (Nat×List AV)}(ho:o.op=.store t x v)(hd:o.dst=none)
  (hi:look C.tt t=some i) (hiz:i.size=sz) (hx:evo sl x=some (.ptr tok (n.toNat*sz))) (hq:look ob id=some cs) (hj:cs[j]? = some (.stk tok sz (l.map f))) (hb:0<=n/\n<(l.length:Int))
  (hv:evo sl v=some Y0z) (hY:Y0z.sub (.p (f y))) (hc:(AV.p (f y)).cellsA=some ((f y).cells.map .p)) (hcl:Nat.beq (f y).cells.length sz=true) (htok:Nat.blt tok M1=true)
  (h1:sl'=sl.map λ p=>(p.1,upK tok sz n.toNat (f y) p.2)) (h2:ue tok sz n.toNat (f y) ob=some ob') (hK:K ⟨sl',ob'⟩):bG C o K ⟨sl,ob⟩ :=
 qj ho hd hi hiz hx Z (zU hq hj) (by rw [cl]; omega) hv hY hc hcl htok h1 h2 hK
theorem ki {s0 s1 s2:AS}(h:∀ K':AS->Prop,K' s1->bG C o K' s0)(hg:dO C s1 s2)(hK:K s2):bG C o K s0:=by
 intro g a w hs;have h1:=h (λ s=>s=s1) rfl g a w hs;unfold Oper.wp at h1 ⊢;refine kR (λ a' w' hn=>?_) (λ _ _ _ h=>h) h1;obtain ⟨g',s',hs',rfl⟩:=hn;obtain ⟨g2,hs2⟩:=hg _ _ _ hs';exact ⟨g2,_,hs2,hK⟩
theorem pT {s s0:AS}{D:Nat->Bool}{x:AV}{ob1:List (Nat×List AV)}(tok:Nat)(h:∀ K':AS->Prop,K' ⟨(d,x)::(cM D s).sl,ob1⟩->bG C o K' s0)(hid:Nat.blt tok M1=true)(hD:D tok=true)(hob:wS tok ob1=some ob1)
  (hK:K ⟨(d,x.stl tok)::(cM D s).sl,ob1⟩):bG C o K s0:=by
 refine ki h (rH tok hid ?_ hob) hK;simp only [cM,n6,List.map_map];congr 1;refine List.map_congr_left λ p _=>?_;simp only [Function.comp,yh D tok hD]
theorem Cg (tok sz n:Nat)(z:PV)(x:AV):upK tok sz n z x=x.dem (Nat.beq · tok)\/x.dem (Nat.beq · tok)=.undef:=by
 unfold upK;split
 ·rename_i t s es
  cases h:Nat.beq t tok
  ·left; simp only [AV.dem,h,cond_false]
  ·right; simp only [AV.dem,h,cond_true]
 ·exact .inl Z
theorem vZ {α:Type}(f:α->PV)(l:List α)(y:α)(id j:Nat){cs:List AV}{t:TypeId}{x v:Operand}{i:TI}{tok sz:Nat}{n:Int}{Y0z:AV}{sl':List (Nat×AV)}{ob1 ob':List (Nat×List AV)}(ho:o.op=.store t x v)(hd:o.dst=none)
  (hi:look C.tt t=some i) (hiz:i.size=sz) (hx:evo sl x=some (.ptr tok (n.toNat*sz))) (hq:look ob id=some cs) (hj:cs[j]? = some (.stk tok sz (l.map f))) (hb:0<=n/\n<(l.length:Int))
  (hv:evo sl v=some Y0z) (hY:Y0z.sub (.p (f y))) (hc:(AV.p (f y)).cellsA=some ((f y).cells.map .p)) (hcl:∀ x,(f x).cells.length=sz) (htok:Nat.blt tok M1=true)
  (h1:sl'=sl.map λ p=>(p.1,p.2.dem (Nat.beq · tok))) (h2:ue tok sz n.toNat (f y) ob=some ob1) (h3:ob1=ob') (hK:K ⟨sl',ob'⟩):bG C o K ⟨sl,ob⟩:=by
 subst h1 h3;refine ki (s2:=⟨sl.map λ p=>(p.1,p.2.dem (Nat.beq · tok)),ob1⟩) (λ K' hK'=>qm f l y id j ho hd hi hiz hx hq hj hb hv hY hc (by simp [hcl y]) htok rfl h2 hK') (λ g a w hs=>⟨g,{ hs with sl:=λ j=>?_ }⟩) hK;have h:=hs.sl j;simp only [AS.get,ic] at h ⊢
 cases hl:look sl j with
 | none=>simp only [Option.map_none,Option.getD_none]; exact .undef _
 | some x=>
  rw [hl] at h;simp only [Option.map_some,ro] at h ⊢;rcases Cg tok sz n.toNat (f y) x with e|e
  ·rw [<- e]; exact h
  ·rw [e]; exact .undef _
end
def bor:AV->Option AV|.stk _ _ es=>some (.p (.slice es))|x=>x.mapA (λ _=>none)
def ux:List AV->Option (List AV)
 | []=>some []
 | x::r=>match bor x,ux r with
  | some y,some l=>some (y::l)
  | _,_=>none
theorem xz:∀ {l l':List AV},ux l=some l'->l.length=l'.length/\∀ (i:Nat) x y,l[i]? = some x->l'[i]? = some y->bor x=some y
 | [],l',h=>by simp only [ux,bx] at h; subst h; exact ⟨Z,by simp⟩
 | x::r,l',h=>by
  simp only [ux] at h;split at h
  ·rename_i y q hy hq
   cases h
   obtain ⟨h1,h2⟩:=xz hq;refine ⟨by simp [h1],λ i a b ha hb=>?_⟩
   cases i with
   | zero=>simp only [List.getElem?_cons_zero,bx] at ha hb; subst ha hb; exact hy
   | succ i=>simp only [List.getElem?_cons_succ] at ha hb; exact h2 i a b ha hb
  ·cases h
section
variable {C:Cx} {o:Oper} {K:AS->Prop} {sl:List (Nat×AV)} {ob:List (Nat×List AV)} {d:Nat}
def ry (w:World)(g:Gh)(l:List AV)(b o:Nat):Prop :=g.st b o\/((∃ tok sz es,.stk tok sz es∈l/\g.ow tok=some b)/\∃ c e,w.heap[b]? = some (.cells c e (0,0))/\o<c.size)
theorem Cy {w:World}{g:Gh}{l:List AV}{x y:AV}{v:Value}(hx:x∈l)(h:ARep w g x v)(hy:bor x=some y):ARep w ⟨ry w g l,λ _=>none⟩ y v:=by
 have hE:EvO (λ _=>false) w ⟨g.st,λ _=>none⟩ w ⟨ry w g l,λ _=>none⟩ :=
  ⟨λ b o h=>⟨.inl h,rfl⟩,(by intro _ _ _ h; cases h),(by intro _ _ _ _ _ h; cases h),(by intro _ _ _ _ h; cases h),(by intro _ _ _ _ _ h; cases h),λ _ _=>rfl,(by intro _ _ _ _ h; cases h)⟩
 by_cases hs:∃ tok sz es,x=.stk tok sz es
 ·obtain ⟨tok,sz,es,rfl⟩:=hs;simp only [bor,bx] at hy;subst hy
  cases h with
  | stkn=>exact .p .nils
  | stke=>exact .p (.nile _)
  | stk how hb Fc E9 E' Ff Fi hr=>
   rename_i b cap c e;refine .p (.slice sz (λ i j=>(c[i*sz+j]?).getD Go.undef) E9 E' Ff (λ i x j p hx' hp=>?_) (λ i x j p hx' hp=>?_))
   ·obtain ⟨v,h3,h4⟩:=hr i x j p hx' hp;refine ⟨.inr ⟨⟨_,_,_,hx,how⟩,c,e,hb,?_⟩,?_⟩
    ·have:=(Array.getElem?_eq_some_iff.1 h3).1;omega
    ·simp only [World.cell?,hb,qr];rw [h3];simp
   ·obtain ⟨v,h3,h4⟩:=hr i x j p hx' hp;rw [h3];exact h4.mono hE.ev
 ·have hm:x.mapA (λ _=>none)=some y:=by
   cases x <;> first|exact hy|exact absurd ⟨_,_,_,rfl⟩ hs
  exact (jA (g:=g) (g':=⟨g.st,λ _=>none⟩) rfl (λ i j b h _=>by cases h) h hm).mono hE
theorem AR:ux []=some []:=rfl
theorem tE {x y:AV}{r l:List AV}(h1:bor x=some y)(h2:ux r=some l):ux (x::r)=some (y::l):=by simp only [ux,h1,h2]
theorem zf {α:Type}(f:α->PV)(l0 l:List α){t tx e e':TypeId}{x y:Operand}(k:Nat){sz:Nat}{X Y0z:AV}{i ie j:TI}(ho:o.op=.call { callee:=.builtin .append,args:=#[x,y],argTypes:=#[t,tx] })(hd:o.dst=some d)(hn:Nat.blt d C.n=true)
  (hi:look C.tt t=some i) (Fj:i.k=.slice e) (hie:look C.tt e=some ie) (hj:look C.tt tx=some j) (hjk:j.k=.slice e') (hx:evo sl x=some X) (hX:X.sub (.stk k sz (l0.map f))) (hk:Nat.blt k M1=true)
  (hy:evo sl y=some Y0z) (hY:Y0z.elems? = some (l.map f)) (E':∀ x,(f x).cells.length=sz) (hys:0<l.length) (h1s:ie.size=sz) (h0:Nat.blt 0 sz=true) (hzl:Nat.beq ie.zero.length ie.size=true) (hby:Nat.blt 0 ie.bytes=true)
  (E9:(l0.length+l.length)*ie.bytes<=140737488355328)
  (hK:K ⟨(d,.stk k sz ((l0++l).map f))::(cM (λ i=>Nat.beq i k) ⟨sl,ob⟩).sl,(cM (λ i=>Nat.beq i k) ⟨sl,ob⟩).ob⟩):bG C o K ⟨sl,ob⟩:=by
 have hby':1<=ie.bytes:=Nat.succ_le_of_lt (by simpa using hby);have h3:(l0.length+l.length)*1<=(l0.length+l.length)*ie.bytes:=Nat.mul_le_mul_left _ hby';refine oT ho hd hn hi Fj hie hj hjk hx hX hk hy hY (λ y hy=>?_) (by simpa using hys) h1s h0 hzl (by rw [cl,cl]; exact E9) (by rw [cl,cl]; omega) ?_
 ·obtain ⟨x,_,rfl⟩:=List.mem_map.1 hy;exact E' x
 ·rw [<- List.map_append];exact hK
theorem mN {s0:AS}{x y:AV}{rest:List (Nat×AV)}{ob1:List (Nat×List AV)}(h:∀ K':AS->Prop,K' ⟨(d,x)::rest,ob1⟩->bG C o K' s0)(hs:x.sub y)(hK:K ⟨(d,y)::rest,ob1⟩):bG C o K s0:=by
 refine ki (s2:=⟨(d,y)::rest,ob1⟩) h (cF ⟨λ j z hz=>?_,λ id cs hc=>⟨cs,hc,mv _,λ i c d h1 h2=>by rw [h1] at h2; cases h2; exact AV.sub_refl _⟩⟩) hK;simp only [bi] at hz;simp only [AS.get,bi];by_cases e:d=j
 ·rw [if_pos e] at hz ⊢
  cases hz
  exact hs
 ·rw [if_neg e] at hz ⊢;rw [hz];exact AV.sub_refl _
end
theorem fw {P:Program}(w:World)(dT sT ty elem:TypeId)(g o dLen dCap:Nat)(a:Addr)(sLen sCap sz:Nat)(cur:Array Value)(t:TypeId)(cs:List Value)
  (hu:P.underlying dT=some (.slice elem)) (hs:(P.info? elem).map (·.size)=some sz)
  (hg:w.heap[g]? = some (.cells cur t (0,0))) (hn:cs.length=Nat.min sLen dLen*sz)
  (hsrc:∀ j v,cs[j]? = some v->w.cell? (a.add j)=some v) (hfit:o+cs.length<=cur.size) (h1:∀ v∈cs,v.oneCell'=true) :
  (Builtin.copy_ #[dT,sT] ty #[.slice (some ⟨g,o,none⟩) dLen dCap,.slice (some a) sLen sCap]).run P w =
   .ok (goInt (Nat.min sLen dLen)) (w.setRow g (cur.toList.take o++cs++cur.toList.drop (o+cs.length)).toArray):=by
 have hl:=run_loadCells_list (P:=P) w a cs hsrc;have Fi:=run_storeCells_at P g o t cs 0 cur w hg (by simpa using hfit) h1
 cases hq:P.info? elem with
 | none=>simp [hq] at hs
 | some i=>
  have hi:i.size=sz:=by simpa [hq] using hs
  simp [Builtin.copy_,run_underlying hu,Builtin.lenOf,Builtin.firstCells,sizeOf,typeInfo,hq,hi,<- hn,hl,Fi]
theorem lg {P:Program}(w:World)(tS tR e:TypeId)(ht:P.underlying tS=some (.slice e))(size:Nat)(hz:∀ w,(Go.sizeOf e).run P w=.ok size w)
  (a b:Addr) (la ca lb cb:Nat) (Fo:a.block≠b.block) {cA cB:Array Value} {tA tB:TypeId} {fA:Nat×Nat} (ha:w.heap[a.block]? = some (.cells cA tA fA)) (hb:w.heap[b.block]? = some (.cells cB tB (0,0))) (hA:cA.size≠0) :
  (Extern.SlicesOverlaps.overlaps #[tS,tS] #[tR] #[.slice (some a) la ca,.slice (some b) lb cb]).run P w=.ok (.bool false) w:=by
 have IJ:(a.block != b.block)=true:=by simpa using Fo
 have hnb':(a.block==b.block)=false:=by simpa using Fo
 have hsa:w.shape? a.block=some (tA,cA.size):=by simp [World.shape?,ha]
 have hsb:w.shape? b.block=some (tB,cB.size):=by simp [World.shape?,hb]
 have hfb:∀ o s,w.frozen? ⟨b.block,o,s⟩=false:=λ o s=>by simp [World.frozen?,hb]
 have hfb':w.frozen? b=false:=hfb b.off b.spot
 change Sem.run P (α:=Value) (do
  let some t:=(#[tS,tS]:Array TypeId)[0]?|stuck "slices.overlaps: no parameter types"
  let .slice elem <- underlying t|stuck "slices.overlaps: slice type expected"
  let size <- sizeOf elem
  match (some a:Option Addr),(some b:Option Addr) with
  | some a,some b=>
   if la=0\/lb=0\/size=0 then pure (Value.bool false)
   else if a.block != b.block&&(<- frozen a)&&(<- frozen b) then unsupported .addressObserved
   else do
    if a.block != b.block then do
     noView a; noView b
     if <- mayBeOne a b then return Value.bool ((<- choose (.extern "sameAddr.stringBytes" 2))==1)
    pure (Value.bool (a.block==b.block&&a.off<b.off+lb*size&&b.off<a.off+la*size))
  | _,_=>pure (Value.bool false)) w=_
 by_cases h0:la=0\/lb=0\/size=0
 ·simp [run_underlying ht,hz,h0]
 ·cases hk:cA.size with
  | zero=>exact absurd hk hA
  | succ kA=>
   rw [hk] at hsa
   cases hfa:w.frozen? a <;> simp [run_underlying ht,hz,h0,IJ,hnb',frozen,noView,viewAt,mayBeOne,stringish,shape,Sem.run,hsa,hsb,hfa,hfb]
def zk (c c':Array Value)(k n:Nat)(news:List Value):Prop :=(∀ j,j<k->c'[j]? = c[j]?)/\(∀ j,j<news.length->c'[k+j]? = news[j]?)/\(∀ j,k<=j->j<n->c'[news.length+j]? = c[j]?)
structure uG (w w':World)(B:Nat)(c':Array Value)(e:TypeId):Prop where
 os:w'.os=w.os
 out:w'.output=w.output
 tape:w'.tape=w.tape
 size:w.heap.size<=w'.heap.size
 here:w'.heap[B]? = some (.cells c' e (0,0))
 other:∀ k,k<w.heap.size->k≠B->w'.heap[k]? = w.heap[k]?
def ghI (g:Gh)(B m:Nat):Gh:=⟨λ b o=>g.st b o\/(b=B/\o=m),λ i=>if i=2000000 then some B else if M1<=i/\i<2*M1 then g.ow i else none⟩
theorem ud {g:Gh}{B m i b:Nat}(h:(ghI g B m).ow i=some b):(i=2000000/\B=b)\/(M1<=i/\i<2*M1/\g.ow i=some b):=by
 simp only [ghI] at h;split at h
 ·cases h; exact .inl ⟨‹_›,rfl⟩
 ·split at h
  ·rename_i h1; exact .inr ⟨h1.1,h1.2,h⟩
  ·cases h
theorem uc {w w':World}{g:Gh}{B m:Nat}{c':Array Value}{e:TypeId}(hok:Ok0 w g.st)(hm:c'.size=m)(h:uG w w' B c' e)
  (hold:(∃ c e0,w.heap[B]? = some (.cells c e0 (0,0))/\c.size=c'.size/\∀ o,g.st B o->o=m)\/w.heap.size<=B):Ev w g.st w' (ghI g B m).st:=by
 intro k o hk;refine ⟨.inl hk,?_⟩;have hlt:=hok.lt k o hk;by_cases e1:k=B
 ·subst e1;rcases hold with ⟨c,e0,h1,h2,h3⟩|h1
  ·have:=h3 o hk;simp only [World.cell?,h.here,h1];rw [Array.getElem?_eq_none O,Array.getElem?_eq_none O]
  ·omega
 ·simp only [World.cell?,h.other k hlt e1]
theorem pu {w w':World}{g:Gh}{B m:Nat}{c':Array Value}{e:TypeId}(hok:Ok0 w g.st)(hown:∀ i b,g.ow i=some b->b<w.heap.size/\i<2*M1)
  (hinj:∀ i j b,g.ow i=some b->g.ow j=some b->i=j) (hnst:∀ i b,M1<=i->g.ow i=some b->∀ o,¬ g.st b o) (hm:c'.size=m) (h:uG w w' B c' e)
  (hold:(g.ow 900000=some B/\∃ c e0,w.heap[B]? = some (.cells c e0 (0,0))/\c.size=c'.size/\∀ o,g.st B o->o=m)\/w.heap.size<=B):ml w g w' (ghI g B m):=by
 have hB:B<w'.heap.size:=by
  have:=h.here;exact (Array.getElem?_eq_some_iff.1 this).1
 have hnew:∀ i,M1<=i->g.ow i≠some B:=by
  intro i hi e1;rcases hold with ⟨h1,_⟩|h1
  ·have:=hinj _ _ _ e1 h1; unfold M1 at *; omega
  ·have:=(hown _ _ e1).1; omega
 refine ⟨h.os,h.out,h.tape,h.size,λ k hk hno=>h.other k hk (λ e=>?_),λ i k hi=>?_,λ i j k hi hj=>?_,λ k o hk=>?_,λ k hk hno o=>⟨λ hs=>?_,λ hs=>.inl hs⟩,λ i h1 h2=>?_,λ i k c e h1 h2 h3=>?_,λ i k hi hk o hs=>?_,uc hok hm h (hold.imp_left And.right)⟩
 ·subst e;rcases hold with ⟨h1,_⟩|h1
  ·exact hno _ h1
  ·omega
 ·rcases ud hi with ⟨_,rfl⟩|⟨_,_,h1⟩
  ·refine ⟨hB,?_⟩;rcases hold with ⟨h1,_⟩|h1
   ·exact .inr ⟨_,h1⟩
   ·exact .inl h1
  ·exact ⟨Nat.lt_of_lt_of_le (hown _ _ h1).1 h.size,.inr ⟨_,h1⟩⟩
 ·rcases ud hi with ⟨e1,h1⟩|⟨a1,a2,h1⟩ <;> rcases ud hj with ⟨e2,h2⟩|⟨b1,b2,h2⟩
  ·omega
  ·subst h1; exact absurd h2 (hnew j b1)
  ·subst h2; exact absurd h1 (hnew i a1)
  ·exact hinj _ _ _ h1 h2
 ·rcases hk with hk|⟨rfl,_⟩
  ·exact Nat.lt_of_lt_of_le (hok.lt _ _ hk) h.size
  ·exact hB
 ·rcases hs with hs|⟨rfl,_⟩
  ·exact hs
  ·rcases hold with ⟨h1,_⟩|h1
   ·exact absurd h1 (hno _)
   ·omega
 ·simp only [ghI];rw [if_neg (by unfold M1 at *; omega),if_pos ⟨h1,h2⟩]
 ·have:=hnew i h1;exact ⟨c,(h.other k (hown _ _ h2).1 (λ e=>this (e ▸ h2))).trans h3,Z⟩
 ·rcases hs with hs|⟨rfl,_⟩
  ·exact hnst i k hi hk o hs
  ·exact hnew i hi hk
theorem ri {c c1 c2:Array Value}{k nn s:Nat}{news mid:List Value}(hk:k<=nn)(hnl:news.length=s)(hml:mid.length=nn-k)(hm:∀ (j:Nat) (v:Value),mid[j]? = some v->c[k+j]? = some v)
  (h1:∀ j,c1[j]? = if k+s<=j/\j<k+s+mid.length then mid[j-(k+s)]? else c[j]?) (h2:∀ j,c2[j]? = if k<=j/\j<k+news.length then news[j-k]? else c1[j]?):zk c c2 k nn news:=by
 refine ⟨λ j hj=>?_,λ j hj=>?_,λ j h3 h4=>?_⟩
 ·rw [h2,if_neg O,h1,if_neg O]
 ·rw [h2,if_pos O]; congr 1; omega
 ·rw [h2,if_neg O,h1,if_pos O,show news.length+j-(k+s)=j-k by omega];have hl:j-k<mid.length:=by omega
  rw [List.getElem?_eq_getElem hl];have:=hm _ _ (List.getElem?_eq_getElem hl);rw [show k+(j-k)=j by omega] at this;exact this.symm
theorem vY {c c2:Array Value}{k:Nat}{news:List Value}(h2:∀ j,c2[j]? = if k<=j/\j<k+news.length then news[j-k]? else c[j]?):zk c c2 k k news:=by
 refine ⟨λ j hj=>?_,λ j hj=>?_,λ j h3 h4=>by omega⟩
 ·rw [h2,if_neg O]
 ·rw [h2,if_pos O]; congr 1; omega
theorem tK {c ROW c1 c2:Array Value}{k nn s:Nat}{news mid:List Value}(hk:k<=nn)(hnl:news.length=s)(hml:mid.length=nn-k)(hm:∀ (j:Nat) (v:Value),mid[j]? = some v->c[k+j]? = some v)(h0:∀ j,j<k->ROW[j]? = c[j]?)
  (h1:∀ j,c1[j]? = if k<=j/\j<k+news.length then news[j-k]? else ROW[j]?) (h2:∀ j,c2[j]? = if k+s<=j/\j<k+s+mid.length then mid[j-(k+s)]? else c1[j]?):zk c c2 k nn news:=by
 refine ⟨λ j hj=>?_,λ j hj=>?_,λ j h3 h4=>?_⟩
 ·rw [h2,if_neg O,h1,if_neg O]; exact h0 j hj
 ·rw [h2,if_neg O,h1,if_pos O]; congr 1; omega
 ·rw [h2,if_pos O,show news.length+j-(k+s)=j-k by omega];have hl:j-k<mid.length:=by omega
  rw [List.getElem?_eq_getElem hl];have:=hm _ _ (List.getElem?_eq_getElem hl);rw [show k+(j-k)=j by omega] at this;exact this.symm
theorem setRow_size (w:World)(b:Nat)(c:Array Value):(w.setRow b c).heap.size=w.heap.size:=by unfold World.setRow; simp
theorem uT {w:World}{b:Nat}{c:Array Value}{e0:TypeId}(hb:w.heap[b]? = some (.cells c e0 (0,0)))(c2:Array Value):uG w (w.setRow b c2) b c2 e0 :=
 ⟨Z,Z,Z,Nat.le_of_eq (setRow_size _ _ _).symm,setRow_heap w b c c2 e0 (0,0) hb,λ k _ hk=>setRow_other w b k c2 hk⟩
theorem tj {w:World}{b:Nat}{c:Array Value}{e0:TypeId}(hb:w.heap[b]? = some (.cells c e0 (0,0)))(c2:Array Value):uG w (w.drew.setRow b c2) b c2 e0 :=
 ⟨Z,Z,Z,Nat.le_of_eq (setRow_size w.drew _ _).symm,setRow_heap w.drew b c c2 e0 (0,0) hb,λ k _ hk=>setRow_other w.drew b k c2 hk⟩
theorem qi (w:World)(c:Array Value)(e:TypeId):uG w (w.drew.alloc (.cells c e)) w.heap.size c e :=
 ⟨Z,Z,Z,by show w.heap.size<=(w.heap.push _).size; simp,bZ (w:=w.drew),λ k hk _=>Lib.alloc_old w.drew _ k hk⟩
theorem qt (w:World)(ROW:Array Value)(e:TypeId)(c1 c2:Array Value):uG w ((((w.alloc (.cells ROW e)).drew.setRow w.heap.size c1).drew).setRow w.heap.size c2) w.heap.size c2 e:=by
 have h0:((w.alloc (.cells ROW e)).drew).heap[w.heap.size]? = some (.cells ROW e (0,0)):=bZ (w:=w);have h1:(((w.alloc (.cells ROW e)).drew.setRow w.heap.size c1).drew).heap[w.heap.size]? = some (.cells c1 e (0,0)):=setRow_heap _ _ ROW c1 e (0,0) h0;refine ⟨Z,Z,Z,?_,setRow_heap _ _ c1 c2 e (0,0) h1,λ k hk Fo=>?_⟩
 ·rw [setRow_size];show w.heap.size<=((w.alloc (.cells ROW e)).drew.setRow w.heap.size c1).heap.size;rw [setRow_size];show w.heap.size<=(w.heap.push _).size;simp
 ·rw [setRow_other _ _ k c2 Fo];show (((w.alloc (.cells ROW e)).drew.setRow w.heap.size c1)).heap[k]? = _;rw [setRow_other _ _ k c1 Fo];exact Lib.alloc_old w _ k hk
structure wu (P:Program)(F:FuncId)(e:TypeId)(sz bytes:Nat):Prop where
 room:∀ (w:World) (b n cap i vb voff vc:Nat) (c:Array Value) (e0:TypeId) (news:List Value) (cA:Array Value) (tA:TypeId) (fA:Nat×Nat),w.heap[b]? = some (.cells c e0 (0,0))->c.size=cap*sz->i<=n->n+1<=cap->n+1<=9223372036854775807->vb≠b ->
  news.length=sz->(∀ j v,news[j]? = some v->w.cell? ⟨vb,voff+j,none⟩=some v)->(∀ v∈news,v.oneCell'=true)->(∀ j v,j<n*sz->c[j]? = some v->v.oneCell'=true)->w.heap[vb]? = some (.cells cA tA fA) ->
  Calls P F #[.slice (some ⟨b,0,none⟩) n cap,.int .i64 i,.slice (some ⟨vb,voff,none⟩) 1 vc] w λ ed w'=>ed=.returned (.slice (some ⟨b,0,none⟩) (n+1) cap)/\∃ c',uG w w' b c' e0/\w'.heap.size=w.heap.size/\c'.size=c.size/\zk c c' (i*sz) (n*sz) news
 grow:∀ (w:World) (base:Option Addr) (n cap i vb voff vc:Nat) (c:Array Value) (news:List Value),(n=0/\cap=0\/∃ b e0,base=some ⟨b,0,none⟩/\w.heap[b]? = some (.cells c e0 (0,0))/\c.size=cap*sz)->i<=n->n<=cap->cap<n+1->(n+1)*bytes<=140737488355328 ->
  news.length=sz->(∀ j v,news[j]? = some v->w.cell? ⟨vb,voff+j,none⟩=some v)->(∀ v∈news,v.oneCell'=true)->(∀ j v,j<n*sz->c[j]? = some v->v.oneCell'=true) ->
  Calls P F #[.slice base n cap,.int .i64 i,.slice (some ⟨vb,voff,none⟩) 1 vc] w λ ed w'=>∃ G0z c',ed=.returned (.slice (some ⟨w.heap.size,0,none⟩) (n+1) G0z)/\uG w w' w.heap.size c' e/\n+1<=G0z/\c'.size=G0z*sz/\zk c c' (i*sz) (n*sz) news
def ls {α:Type}(l:List α)(i:Nat)(x:α):List α:=l.take i++x::l.drop i
theorem AD {α:Type}{l:List α}{i:Nat}{x:α}(hi:i<=l.length)(k:Nat):(ls l i x)[k]? = if k<i then l[k]? else if k=i then some x else l[k-1]?:=by
 unfold ls;rw [List.getElem?_append];have:(l.take i).length=i:=by rw [List.length_take]; omega
 rw [this];split
 ·rename_i h; rw [List.getElem?_take,if_pos h]
 ·rename_i h;split
  ·rename_i h2; subst h2; simp
  ·rename_i h2;rw [List.getElem?_cons,if_neg O,List.getElem?_drop];congr 1; omega
theorem vu {α β:Type}(f:α->β)(l:List α)(i:Nat)(x:α):ls (l.map f) i (f x)=(ls l i x).map f:=by
 unfold ls; simp [List.map_take,List.map_drop]
theorem vy {α:Type}{l:List α}{i:Nat}{x:α}(hi:i<=l.length):(ls l i x).length=l.length+1:=by
 unfold ls;rw [aq,List.length_take,bt,List.length_drop]; omega
theorem pd {α:Type}{l:List α}{i:Nat}{x y:α}(h:y∈ls l i x):y=x\/y∈l:=by
 unfold ls at h;rcases List.mem_append.1 h with h|h
 ·exact .inr (List.mem_of_mem_take h)
 ·rcases List.mem_cons.1 h with h|h
  ·exact .inl h
  ·exact .inr (List.mem_of_mem_drop h)
theorem ui {w w':World}{g:Gh}{B G0z sz:Nat}{c c':Array Value}{e:TypeId}{es:List PV}{i:Nat}{y:PV}{news:List Value}(hP:uG w w' B c' e)(hC:zk c c' (i*sz) (es.length*sz) news)(Fe:Ev w g.st w' (ghI g B (G0z*sz)).st)
  (Fi:∀ o,g.st B o->o=G0z*sz) (hi:i<=es.length) (hG:es.length+1<=G0z) (hs:c'.size=G0z*sz) (hn:news.length=sz) (hes:∀ x∈es,x.cells.length=sz) (hy:y.cells.length=sz) (Ff:∀ x∈es,∀ c∈x.cells,c.one=true) (hyo:∀ c∈y.cells,c.one=true)
  (hr:∀ (i:Nat) x (j:Nat) p,es[i]? = some x->x.cells[j]? = some p->∃ v,c[i*sz+j]? = some v/\PRep w g.st p v) (hy2:∀ (j:Nat) p,y.cells[j]? = some p->∃ v,news[j]? = some v/\PRep w g.st p v) :
  ARep w' (ghI g B (G0z*sz)) (.stk 2000000 sz (ls es i y)) (.slice (some ⟨B,0,none⟩) (es.length+1) G0z):=by
 rw [<- vy (x:=y) hi];refine .stk (by simp [ghI]) hP.here hs (by rw [vy hi]; exact hG) (λ x hx=>?_) (λ x hx c hc=>?_) (λ o=>⟨λ h=>?_,λ h=>.inr ⟨rfl,h⟩⟩) (λ k x j p hx hp=>?_)
 ·rcases pd hx with rfl|hx
  ·exact hy
  ·exact hes x hx
 ·rcases pd hx with rfl|hx
  ·exact hyo c hc
  ·exact Ff x hx c hc
 ·rcases h with h|⟨_,h⟩
  ·exact Fi o h
  ·exact h
 ·have hjl:j<x.cells.length:=(List.getElem?_eq_some_iff.1 hp).1;rw [AD hi] at hx;split at hx
  ·rename_i hk;obtain ⟨u,hu,hur⟩:=hr k x j p hx hp;rw [hes x (List.mem_of_getElem? hx)] at hjl;exact ⟨u,by rw [hC.1 _ (nq hk hjl)]; exact hu,hur.mono Fe⟩
  ·split at hx
   ·rename_i hk
    cases hx; subst hk
    obtain ⟨u,hu,hur⟩:=hy2 j p hp;exact ⟨u,by rw [hC.2.1 j O]; exact hu,hur.mono Fe⟩
   ·rename_i Hw GX;obtain ⟨u,hu,hur⟩:=hr (k-1) x j p hx hp;rw [hes x (List.mem_of_getElem? hx)] at hjl;have hkl:k-1<es.length:=(List.getElem?_eq_some_iff.1 hx).1;have h1:=nq hkl hjl;have h2:i*sz<=(k-1)*sz:=Nat.mul_le_mul_right _ O
    have h3:k*sz=(k-1)*sz+sz:=by
     obtain ⟨m,rfl⟩:∃ m,k=m+1:=⟨k-1,by omega⟩
     rw [Nat.add_sub_cancel,Nat.succ_mul]
    refine ⟨u,?_,hur.mono Fe⟩;rw [show k*sz+j=news.length+((k-1)*sz+j) by omega,hC.2.2 _ O h1];exact hu
theorem rR {P:Program}{F:FuncId}{e:TypeId}{sz bytes:Nat}(R:wu P F e sz bytes)(h0:0<sz)(es:List PV)(i:Nat)(y:PV)(hi:i<=es.length)
  (E9:(es.length+1)*bytes<=140737488355328) (hlen':es.length+1<=9223372036854775807) (hysz:y.cells.length=sz) :
  cq P F [.stk 900000 sz es,.p (.val (.int .i64 i)),.p (.slice [y])] [] (λ x q=>x=.stk 2000000 sz (ls es i y)/\q=[]):=by
 intro w g vs hok hown hinj hnst hvs hargs _
 obtain ⟨a,b,v,rfl⟩:∃ a b v,vs=#[a,b,v]:=by
  obtain ⟨l,rfl⟩:∃ l:List Value,vs=l.toArray:=⟨vs.toList,by simp⟩
  match l,hvs with
  | [a,b,v],_=>exact ⟨a,b,v,Z⟩
 have ha:=hargs 0 _ _ Z Z;have hb:=hargs 1 _ _ Z Z;have hv:=hargs 2 _ _ Z Z;replace ha:ARep w g (.stk 900000 sz es) a:=ha;replace hb:ARep w g (.p (.val (.int .i64 i))) b:=hb;replace hv:ARep w g (.p (.slice [y])) v:=hv
 have eb:b=.int .i64 i:=by
  cases hb with
  | p h=>cases h; rfl
 subst eb
 clear hargs hb
 obtain ⟨vb,voff,vc,cf,rfl,hc,hone1,hr1⟩:∃ (vb voff vc:Nat) (cf:Nat->Value),v=.slice (some ⟨vb,voff,none⟩) 1 vc/\(∀ (j:Nat) p,y.cells[j]? = some p->g.st vb (voff+j)/\w.cell? ⟨vb,voff+j,none⟩=some (cf j))/\(∀ c∈y.cells,c.one=true)/\(∀ (j:Nat) p,y.cells[j]? = some p->PRep w g.st p (cf j)):=by
  cases hv with
  | p h=>
   cases h with
   | slice sz' cf hcap E' Ff hc hr=>
    refine ⟨_,_,_,cf 0,Z,λ j p hp=>?_,Ff y G,λ j p hp=>hr 0 y j p Z hp⟩;have:=hc 0 y j p Z hp;simpa using this
 have hnews:∀ j,j<sz->∃ p,y.cells[j]? = some p:=λ j hj=>⟨y.cells[j],List.getElem?_eq_getElem O⟩
 let news:=(List.range sz).map cf
 have hnl:news.length=sz:=by simp [news]
 have hnget:∀ j v,news[j]? = some v->j<sz/\v=cf j:=by
  intro j v hj;have hl:j<news.length:=(List.getElem?_eq_some_iff.1 hj).1;rw [hnl] at hl;simp [news,hl] at hj;exact ⟨hl,hj.symm⟩
 have hncell:∀ j v,news[j]? = some v->w.cell? ⟨vb,voff+j,none⟩=some v:=by
  intro j v hj;obtain ⟨hl,rfl⟩:=hnget j v hj;obtain ⟨p,hp⟩:=hnews j hl;exact (hc j p hp).2
 have hn1:∀ v∈news,v.oneCell'=true:=by
  intro v hv;obtain ⟨j,hj⟩:=List.mem_iff_getElem?.1 hv;obtain ⟨hl,rfl⟩:=hnget j v hj;obtain ⟨p,hp⟩:=hnews j hl;exact PV.one_rep (hr1 j p hp) (hone1 p (List.mem_of_getElem? hp))
 have hy2:∀ (j:Nat) p,y.cells[j]? = some p->∃ v,news[j]? = some v/\PRep w g.st p v:=by
  intro j p hp;have hl:j<sz:=by have:=(List.getElem?_eq_some_iff.1 hp).1; omega
  exact ⟨cf j,by simp [news,hl],hr1 j p hp⟩
 have hempty:∀ base:Option Addr,es=[]->a=.slice base 0 0->Calls P F #[a,.int .i64 i,.slice (some ⟨vb,voff,none⟩) 1 vc] w λ ed w'=>∃ v r obs' g',ed=.returned v/\(r=AV.stk 2000000 sz (ls es i y)/\obs'=([]:List (Nat×List AV)))/\ARep w' g' r v/\(∀ p∈obs',jl w' g' p.1 p.2)/\ml w g w' g':=by
  rintro base rfl rfl;have hi0:i=0:=by simpa using hi
  subst hi0;refine (R.grow w base 0 0 0 vb voff vc #[] news (.inl ⟨rfl,rfl⟩) (mv _) (mv _) (Nat.lt_succ_self _) (by simpa using E9) hnl hncell hn1 (λ j v hj=>by simp at hj)).mono ?_;rintro ed w' ⟨G0z,c',rfl,hP,hG,hs,hC⟩;have Fe:=uc hok hs hP (.inr (mv _));have hrep:=ui (es:=[]) (i:=0) (y:=y) hP hC Fe (λ o h=>absurd (hok.lt _ _ h) (Nat.lt_irrefl _)) (mv _) hG hs hnl G hysz G hone1 (λ i x j p hx=>by simp at hx) hy2;exact ⟨_,_,[],ghI g w.heap.size (G0z*sz),rfl,⟨rfl,rfl⟩,hrep,by simp,pu hok hown hinj hnst hs hP (.inr (mv _))⟩
 cases ha with
 | stkn=>exact hempty none Z Z
 | stke=>exact hempty _ Z Z
 | @stk _ _ _ b0 cap c e0 how hb Fc hlenc hszc Ff Fi hr=>
  have hcone:∀ j v,j<es.length*sz->c[j]? = some v->v.oneCell'=true:=by
   intro j v hj hjv;have hd:j / sz<es.length:=Nat.div_lt_of_lt_mul (by rw [Nat.mul_comm]; exact hj);have hm:j%sz<sz:=Nat.mod_lt _ h0;have hx:=hszc es[j / sz] (List.getElem_mem hd);obtain ⟨u,hu,hur⟩:=hr (j / sz) es[j / sz] (j%sz) _ (List.getElem?_eq_getElem hd) (List.getElem?_eq_getElem O);have e1:j / sz*sz+j%sz=j:=Nat.div_add_mod' _ _;rw [e1,hjv] at hu
   cases hu
   exact PV.one_rep hur (Ff _ (List.getElem_mem hd) _ (List.getElem_mem _))
  by_cases hroom:es.length+1<=cap
  ·obtain ⟨p0,hp0⟩:=hnews 0 h0;obtain ⟨hst0,hcell0⟩:=hc 0 p0 hp0
   have Fo:vb≠b0:=by
    intro e1; subst e1;have:=(Fi _).1 hst0;simp only [World.cell?,hb] at hcell0;rw [Array.getElem?_eq_none O] at hcell0
    cases hcell0
   obtain ⟨cA,tA,fA,hA⟩:∃ cA tA fA,w.heap[vb]? = some (.cells cA tA fA):=by
    simp only [World.cell?] at hcell0
    cases hh:w.heap[vb]? with
    | none=>rw [hh] at hcell0; cases hcell0
    | some o=>
     rw [hh] at hcell0
     cases o with
     | cells cA tA fA=>exact ⟨cA,tA,fA,Z⟩
     | _=>cases hcell0
   refine (R.room w b0 es.length cap i vb voff vc c e0 news cA tA fA hb Fc hi hroom hlen' Fo hnl hncell hn1 hcone hA).mono ?_;rintro ed w' ⟨rfl,c',hP,hsz',hs,hC⟩;have hold:(∃ c e0,w.heap[b0]? = some (.cells c e0 (0,0))/\c.size=c'.size/\∀ o,g.st b0 o->o=cap*sz):=⟨c,e0,hb,hs.symm,λ o h=>(Fi o).1 h⟩
   have hs':c'.size=cap*sz:=hs.trans Fc;have Fe:=uc hok hs' hP (.inl hold);have hrep:=ui (es:=es) (i:=i) (y:=y) hP hC Fe (λ o h=>(Fi o).1 h) hi hroom hs' hnl hszc hysz Ff hone1 hr hy2;exact ⟨_,_,[],ghI g b0 (cap*sz),Z,⟨Z,Z⟩,hrep,by simp,pu hok hown hinj hnst hs' hP (.inl ⟨how,hold⟩)⟩
  ·refine (R.grow w (some ⟨b0,0,none⟩) es.length cap i vb voff vc c news (.inr ⟨b0,e0,rfl,hb,Fc⟩) hi hlenc O E9 hnl hncell hn1 hcone).mono ?_;rintro ed w' ⟨G0z,c',rfl,hP,hG,hs,hC⟩;have Fe:=uc hok hs hP (.inr (mv _));have hrep:=ui (es:=es) (i:=i) (y:=y) hP hC Fe (λ o h=>absurd (hok.lt _ _ h) (Nat.lt_irrefl _)) hi hG hs hnl hszc hysz Ff hone1 hr hy2;exact ⟨_,_,[],ghI g w.heap.size (G0z*sz),rfl,⟨rfl,rfl⟩,hrep,by simp,pu hok hown hinj hnst hs hP (.inr (mv _))⟩
def CF:AV->Bool|.p (.val _)=>true|_=>false
def Av:AV->Bool|.p (.val _)=>true|.tuple cs=>cs.all CF|_=>false
theorem yx {w w':World}{g g':Gh}{r:AV}{v:Value}(hf:CF r=true)(h:ARep w g r v):ARep w' g' r v:=by
 cases h with
 | p h=>
  cases h with
  | val v=>exact .p (.val v)
  | _=>cases hf
 | _=>cases hf
theorem zw {w w':World}{g g':Gh}{r:AV}{v:Value}(hf:Av r=true)(h:ARep w g r v):ARep w' g' r v:=by
 cases h with
 | p h=>
  cases h with
  | val v=>exact .p (.val v)
  | _=>cases hf
 | tuple hl h=>exact .tuple hl (λ i c v hc hv=>yx (ur.1 hf c (List.mem_of_getElem? hc)) (h i c v hc hv))
 | _=>cases hf
section
variable {C:Cx} {o:Oper} {K:AS->Prop} {sl:List (Nat×AV)} {ob:List (Nat×List AV)} {d:Nat}
theorem xa {f:FuncId}{args:Array Operand}{ts:Array TypeId}{l l' q:List AV}{r0:AV}(hc:fX C.P f q (·=r0))(hfl:Av r0=true)(ho:o.op=.call { callee:=.value (.func f),args:=args,argTypes:=ts })
  (hd:o.dst=some d) (hn:Nat.blt d C.n=true) (hl:kF sl args.toList=some l) (hl':ux l=some l') (hq:mx l' q) (henter:∀ vs w,(callFunc f vs).run C.P w=.ok (.enter f vs) w)
  (hK:K ⟨(d,r0)::sl,ob⟩):bG C o K ⟨sl,ob⟩:=by
 intro g a w hs;obtain ⟨a1,a2⟩:=lc hs _ l hl;obtain ⟨m1,m2⟩:=xz hl';obtain ⟨b1,b2⟩:=iX hq;have hEv:Ev w g.st w (ry w g l):=λ b o h=>⟨.inl h,rfl⟩
 have hok:Ok0 w (ry w g l):=by
  refine ⟨λ b o h=>?_,hs.ok0.gl.mono hEv⟩;rcases h with h|⟨_,c,e,h,_⟩
  ·exact hs.lt b o h
  ·exact (Array.getElem?_eq_some_iff.1 h).1
 have E9:=a1.symm.trans (m1.trans b1)
 have hcall:=hc w (ry w g l) (args.map a.eval) hok (by simpa using E9) (λ i c v hc hv=>by
  have hi':i<l'.length:=by have:=(List.getElem?_eq_some_iff.1 hc).1; omega
  have hi:i<l.length:=by omega
  have hv':(args.toList.map a.eval)[i]? = some v:=by rw [<- Array.toList_map]; simpa using hv
  have h1:=a2 i _ v (List.getElem?_eq_getElem hi) hv';have h2:=Cy (l:=l) (List.getElem_mem hi) h1 (m2 i _ _ (List.getElem?_eq_getElem hi) (List.getElem?_eq_getElem hi'))
  exact b2 i _ c (List.getElem?_eq_getElem hi') hc w _ v h2)
 unfold Oper.wp;have hrun:(execOp a.eval o).run C.P w=.ok (.enter f (args.map a.eval)) w:=by simp [execOp,ho,resolve,Act.eval,Deferred.ofValue,invoke,henter]
 rw [hrun];simp only [Oper.upon];refine hcall.mono λ e w' ⟨v,r,g',he,hR,hr,hA⟩=>?_;subst he;subst hR
 have hs':St C.n C.w0 C.F g ⟨sl,ob⟩ a w':=by
  refine hs.evolve0 (λ b o h=>?_) (λ id b h=>?_) hs.inj (λ i b h=>?_) (λ b o h=>?_) (λ b h=>?_) hA.os hA.out hA.tape hA.size (λ b hb o=>Iff.rfl) (λ _ _=>rfl)
  ·have hlt:=hs.lt b o h;exact ⟨h,by simp only [World.cell?,hA.fr b hlt]⟩
  ·have hlt:=(hs.own id b h).1;exact ⟨h,hA.fr b hlt,λ o ho=>ho⟩
  ·have:=hs.own i b h; have:=hA.size; exact ⟨by omega,(hs.own i b h).2⟩
  ·have:=hs.lt b o h; have:=hA.size; omega
  ·have:=hs.fl b h; have:=hs.size; exact hA.fr b O
 have hp:=hs'.put (d:=o.dst) (x:=r) (v:=v) (λ t ht=>by rw [hd] at ht; cases ht; exact n7 ▸ hn) (zw hfl hr);rw [hd] at hp;simp only;rw [hd];exact ⟨_,_,hp,hK⟩
theorem yk (D:Nat->Bool):∀ l:List (Nat×AV),dmS D l=some (l.map λ p=>(p.1,p.2.dem D))
 | []=>rfl
 | (i,x)::r=>by
  have h:∀ z:AV,frc z=some z:=λ z=>by cases z <;> rfl
  simp only [dmS,h,yk D r,n6]
theorem xu (D:Nat->Bool):∀ l:List AV,dmC D l=some (iV D l)
 | []=>rfl
 | x::r=>by
  have h:∀ z:AV,frc z=some z:=λ z=>by cases z <;> rfl
  simp only [dmC,h,xu D r,iV]
theorem uu (D:Nat->Bool):∀ l:List (Nat×List AV),dmO D l=some ((l.filter λ p=>!D p.1).map λ p=>(p.1,iV D p.2))
 | []=>rfl
 | (i,cs)::r=>by
  unfold dmO
  cases h:D i with
  | true=>simp only [uu D r,List.filter_cons,h,Bool.not_true,Bool.false_eq_true,if_false]
  | false=>simp only [xu D cs,uu D r,List.filter_cons,h,Bool.not_false,if_true,n6]
theorem vG {α:Type}(f:α->PV)(l:List α){d t e len:Nat}{parts:Array (Nat×Operand)}{i ie:TI}{es:List PV}{sz:Nat}(ho:o.op=.buildSlice t len parts)(hd:o.dst=some d)(hn:Nat.blt d C.n=true)
  (hi:look C.tt t=some i) (Fj:i.k=.slice e) (hie:look C.tt e=some ie) (hes:kz sl 0 parts.toList=some es) (E9:Nat.beq es.length len=true) (hpos:Nat.blt 0 len=true)
  (hk:Nat.blt 0 ie.size=true) (hsm:Nat.ble (len*ie.size) 16777216=true) (E':mX ie.size es=true) (hzl:Nat.beq ie.zero.length ie.size=true) (he:es=l.map f) (hsz1:ie.size=sz)
  (hK:K ⟨(d,.vec d sz 0 (l.map f))::(cM (λ i=>Nat.beq i d) ⟨sl,ob⟩).sl,(cM (λ i=>Nat.beq i d) ⟨sl,ob⟩).ob⟩):bG C o K ⟨sl,ob⟩ :=
 sy f l ho hd hn hi Fj hie hes E9 hpos hk hsm E' hzl he hsz1 (yk _ _) (uu _ _) hK
theorem wn {α:Type} [Inhabited α] (f:α->PV)(l:List α)(cf:α->List PV)(q j:Nat){cs:List AV}{d:Nat}{t:TypeId}{x:Operand}{i:TI}{id sz:Nat}{n:Int}(ho:o.op=.load t x)(hd:o.dst=some d)(hn:Nat.blt d C.n=true)
  (hi:look C.tt t=some i) (hia:i.k.isAgg=true) (hx:evo sl x=some (.ptr id (n.toNat*sz))) (hq:look ob q=some cs) (hj:cs[j]? = some (.stk id sz (l.map f))) (E':i.size=sz) (hb:0<=n/\n<(l.length:Int)) (hcf:∀ x,(f x).cells=cf x)
  (hK:K ⟨(d,.p (.agg (cf (lat l n))))::sl,ob⟩):bG C o K ⟨sl,ob⟩:=by
 obtain ⟨m,rfl⟩:∃ m:Nat,n=m:=⟨n.toNat,by omega⟩
 have hm:m<l.length:=by omega
 have hy:(l.map f)[m]? = some (f (lat l (m:Int))):=by rw [List.getElem?_map,List.getElem?_eq_getElem hm,gv l m hm]; rfl
 rw [<- hcf] at hK;rw [Int.toNat_natCast] at hx;generalize f (lat l (m:Int))=y at hy hK;refine ok_one hd hn (λ g a w hs=>?_) hK;have h5:=bV hs hx;generalize hv:a.eval x=v at h5
 cases h5 with
 | ptr how=>
  rename_i b;obtain ⟨_,c0,_,_,_,_,_,hcs0⟩:=hs.ob q cs hq;obtain ⟨u0,_,h6⟩:=hcs0 j _ hj;generalize l.map f=es at h6 hy
  cases h6 with
  | stkn=>simp at hy
  | stke=>simp at hy
  | @stk _ _ _ b2 cap c e how2 hb Fc E9 hszc Ff Fi hr=>
   rw [how] at how2; cases how2;have hyl:=hszc y (List.mem_of_getElem? hy)
   have hc:∀ j,j<i.size->w.cell? ⟨b,m*sz+j,none⟩=some (c.getD (m*sz+j) Go.undef):=by
    intro j hj;have hj':j<y.cells.length:=by omega
    obtain ⟨u,hu,_⟩:=hr m y j _ hy (List.getElem?_eq_getElem hj');rw [kV hs hb,Array.getD_eq_getD_getElem?,hu]
    rfl
   have hld:=lw C.good hi hia (f:=λ j=>c.getD (m*sz+j) Go.undef) hc;refine ⟨.agg ((List.range i.size).map λ j=>c.getD (m*sz+j) Go.undef).toArray,by simp only [execOp,ho,hv,Instr.loadAt,Instr.sureAddr,Sem.run_bind,Sem.run_pure,Result.andThen_ok,hld],.p (.agg (by simp; omega) λ j y' v h1 h2=>?_)⟩;have hj:j<i.size:=by have:=(List.getElem?_eq_some_iff.1 h1).1; omega
   simp only [List.getElem?_toArray,List.getElem?_map,List.getElem?_range hj,Option.map_some,bx] at h2;subst h2;obtain ⟨u,hu,hr2⟩:=hr m y j y' hy h1;rw [Array.getD_eq_getD_getElem?,hu];exact hr2
theorem uX {α:Type}(f:α->PV)(l:List α)(y:α)(id j:Nat){cs:List AV}{t:TypeId}{x v:Operand}{i:TI}{tok sz:Nat}{n:Int}{Y0z:AV}{sl':List (Nat×AV)}{ob1 ob':List (Nat×List AV)}(ho:o.op=.store t x v)(hd:o.dst=none)
  (hi:look C.tt t=some i) (hiz:i.size=sz) (hx:evo sl x=some (.ptr tok (n.toNat*sz))) (hq:look ob id=some cs) (hj:cs[j]? = some (.stk tok sz (l.map f))) (hb:0<=n/\n<(l.length:Int))
  (hv:evo sl v=some Y0z) (hY:Y0z.sub (.p (f y))) (hc:(AV.p (f y)).cellsA=some ((f y).cells.map .p)) (hcl:∀ x,(f x).cells.length=sz) (htok:Nat.blt tok M1=true)
  (h1:sl'=sl.map λ p=>(p.1,upK tok sz n.toNat (f y) p.2)) (h2:ue tok sz n.toNat (f y) ob=some ob1) (h3:ob1=ob') (hK:K ⟨sl',ob'⟩):bG C o K ⟨sl,ob⟩:=by
 subst h1 h3;exact qm f l y id j ho hd hi hiz hx hq hj hb hv hY hc (by simp [hcl y]) htok rfl h2 hK
end
end Go.Ab
end
