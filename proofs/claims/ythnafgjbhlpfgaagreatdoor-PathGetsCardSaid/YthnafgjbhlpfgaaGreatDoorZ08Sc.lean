/- Texts of the proof, one behind the other. No statement is proved here. -/
import Derived.WalkKit
import Derived.Lib.Builder
import Derived.Lib.UnsafeStr
import Derived.Laws.Externs
import Derived.Shelf.RegionOpenPlain
import Derived.Below
import Derived.Lib.LaidTab
import Derived.Shelf.Lays
import Derived.Shelf.Small.Utf8
import Derived.Shelf.Small.Strs
import Derived.Shelf.Strings.Prefix
import Derived.Shelf.LaysM
import Derived.Shelf.Strconv.Itoa3
import Derived.Shelf.LaysC
import Derived.Shelf.Strconv.ParseIntPublic10
import Derived.Shelf.Unicode.DecodeAny
import Derived.Shelf.Strings.IndexAnyAll
import Derived.Shelf.Strings.Runes
import Derived.Shelf.Unicode.ValidAny
import Derived.Shelf.Strings.IndexAny
import Derived.Test.YthnafgjbhlpfgaaGreatDoorProg
import Derived.Lib.AppendIntMem
import Derived.Deep.LoopGhost
import Derived.Laws.Runes
import Derived.Scope
import Derived.Deep.QuietTactic
import Derived.BigQuiet
import Derived.Laws.RangeString
import Derived.Lib.IndexAny
import Derived.Lib.TrimU
import Derived.MapKept
import Derived.Lib.AppendZeros
import Derived.Lib.OthersKept
import Derived.Defers
import Derived.Lib.MapLaws
import Derived.Lib.ValidLaws
import Derived.Lib.ParseIntB
import Derived.Test.YthnafgjbhlpfgaaGreatDoorZ08Sa
import Derived.Test.YthnafgjbhlpfgaaGreatDoorZ08Sb
set_option maxHeartbeats 4000000
section
namespace Go.Ab
open Go.Proofs Go.RowKit Go
structure aC where
 Cs:Bk
def cR (b:aC):Option aC:=some b
def dz (b:aC):Option (Bk×aC):=ck (b.Cs.length<=9223372036854775807)<|some (b.Cs,b)
theorem A2:∃ j,Tryz.prog.info? 65=some j/\j.size=2:=by
 have h:(Tryz.prog.info? 65).map (·.size)=some 2:=by kernel_rfl
 obtain ⟨j,hj,hs⟩:=ld.1 h;exact ⟨j,hj,hs⟩
set_option maxRecDepth 100000 in
theorem pz (b:Nat)(w:World)(h0:w.cell? ⟨b,0,none⟩=some (.pointer (some ⟨b,0,none⟩))) :
  Calls Tryz.prog 79 #[.pointer (some ⟨b,0,none⟩)] w λ e w'=>e=.returned (.tuple #[])/\w'=w:=by
 obtain ⟨j,hj,_⟩:=A2
 go_enter Tryz.func79,Tryz.ntmps79
 go_wp2
 rw [Lib.run_neq_ptr_same w _ Tryz.underlying62 hj]
 go_wp2
 go_end0
 exact ⟨Z,Z⟩
set_option maxRecDepth 100000 in
theorem nY (b:Nat)(w:World)(h0:w.cell? ⟨b,0,none⟩=some (.pointer none))(hsh:w.shape? b=some (65,2))(hfz:w.frozen? ⟨b,0,none⟩=false) :
  Calls Tryz.prog 79 #[.pointer (some ⟨b,0,none⟩)] w λ e w'=>e=.returned (.tuple #[])/\w'=w.setCell ⟨b,0,none⟩ (.pointer (some ⟨b,0,none⟩)):=by
 obtain ⟨j,hj,hjs⟩:=A2
 go_enter Tryz.func79,Tryz.ntmps79
 go_wp2
 rw [Lib.run_to_unsafe w ⟨b,0,none⟩ Tryz.underlying62 Tryz.underlying121 hj (by rw [hjs]; decide) hsh (Nat.zero_lt_succ 1)];simp only [Result.andThen];rw [Oper.upon_value]
 go_wp2
 rw [run_callFunc_extern Tryz.func109 (by kernel_rfl) (by kernel_rfl) (by kernel_rfl) (e:=Extern.AbiNoEscape.same) (by kernel_rfl)];rw [Lib.run_noEscape];simp only [Result.andThen];rw [Oper.upon_value]
 go_wp2
 rw [Lib.run_from_unsafe w ⟨b,0,none⟩ Tryz.underlying121 Tryz.underlying62 hj hsh (by kernel_rfl)];simp only [Result.andThen];rw [Oper.upon_value]
 go_wp2
 go_end0
 exact ⟨Z,Z⟩
structure vY (b:Nat)(w w':World):Prop where
 os:w'.os=w.os
 out:w'.output=w.output
 tape:w'.tape=w.tape
 size:w'.heap.size=w.heap.size
 other:∀ k,k≠b->w'.heap[k]? = w.heap[k]?
def back (i:Nat):Option Nat:=if i=900000 then some 2000000 else if i=1000000 then some 1000000 else none
def ghB (g:Gh):Gh:=⟨g.st,λ i=>if i=2000000 then g.ow 900000 else if M1<=i/\i<2*M1 then g.ow i else none⟩
theorem sG {g:Gh}{i b:Nat}(h:(ghB g).ow i=some b):(i=2000000/\g.ow 900000=some b)\/(M1<=i/\i<2*M1/\g.ow i=some b):=by
 simp only [ghB] at h;split at h
 ·exact .inl ⟨‹_›,h⟩
 ·split at h
  ·rename_i h1; exact .inr ⟨h1.1,h1.2,h⟩
  ·cases h
theorem ua {g:Gh}:∀ i j b,back i=some j->g.ow i=some b->(ghB g).ow j=some b:=by
 intro i j b h hb;unfold back at h;split at h
 ·cases h; subst_vars; simp only [ghB,if_true]; exact hb
 ·split at h
  ·cases h; subst_vars
   simp only [ghB];rw [if_neg (by decide),if_pos (by decide)]; exact hb
  ·cases h
theorem wm {w w':World}{g:Gh}{b:Nat}(hok:Ok0 w g.st)(hown:∀ i b,g.ow i=some b->b<w.heap.size/\i<2*M1)
  (hinj:∀ i j b,g.ow i=some b->g.ow j=some b->i=j) (hnst:∀ i b,M1<=i->g.ow i=some b->∀ o,¬ g.st b o)
  (hb:g.ow 1000000=some b) (h:vY b w w')
  (hsh:∀ (c:Array Value) (e:TypeId),w.heap[b]? = some (.cells c e (0,0))->∃ c':Array Value,w'.heap[b]? = some (.cells c' e (0,0))/\c'.size=c.size):j5 w g w' (ghB g):=by
 have hbs:∀ o,¬ g.st b o:=hnst _ b (bt _) hb
 have CL:Ev w g.st w' g.st:=λ k o hk=>⟨hk,by
  have:k≠b:=λ e=>hbs o (e ▸ hk)
  simp only [World.cell?,h.other k this]⟩
 refine ⟨h.os,h.out,h.tape,by rw [h.size]; exact bt _,λ k hk hno=>h.other k (λ e=>hno 1000000 (e ▸ hb)),λ i k hi=>?_,λ i j k hi hj=>?_,λ k o hk=>by rw [h.size]; exact hok.lt k o hk,λ k hk _ o=>Iff.rfl,λ i h1 h2=>?_,λ i k c e h1 h2 h3=>?_,λ i k hi hk o=>hnst i k hi hk o,CL⟩
 ·rcases sG hi with ⟨_,h1⟩|⟨_,_,h1⟩
  ·exact ⟨by rw [h.size]; exact (hown _ _ h1).1,.inr ⟨_,h1⟩⟩
  ·exact ⟨by rw [h.size]; exact (hown _ _ h1).1,.inr ⟨_,h1⟩⟩
 ·rcases sG hi with ⟨e1,h1⟩|⟨a1,a2,h1⟩ <;> rcases sG hj with ⟨e2,h2⟩|⟨b1,b2,h2⟩
  ·omega
  ·have:=hinj _ _ _ h1 h2; unfold M1 at *; omega
  ·have:=hinj _ _ _ h1 h2; unfold M1 at *; omega
  ·exact hinj _ _ _ h1 h2
 ·simp only [ghB];rw [if_neg (by unfold M1 at *; omega),if_pos ⟨h1,h2⟩]
 ·by_cases e1:k=b
  ·subst e1; exact hsh c e h3
  ·exact ⟨c,(h.other k e1).trans h3,Z⟩
theorem Cg {w w':World}{g:Gh}{b:Nat}(hbs:∀ o,¬ g.st b o)(h:vY b w w')(hc:∃ c e,w.heap[b]? = some (.cells c e (0,0)))
  (hsh:∀ (c:Array Value) (e:TypeId),w.heap[b]? = some (.cells c e (0,0))->∃ c':Array Value,w'.heap[b]? = some (.cells c' e (0,0))/\c'.size=c.size):EvO (λ _=>false) w g w' g:=by
 refine ⟨λ k o hk=>⟨hk,?_⟩,λ _ _ _ h=>h,λ id k c e _ _ hk=>?_,λ _ _ _ _ _ h=>h,λ id k es k' _ _ hk=>(h.other k (λ e=>by subst e; obtain ⟨c,t,hc⟩:=hc; rw [hc] at hk; cases hk)).trans hk,λ _ _=>rfl,λ id k o _ _ ho=>h.other k (λ e=>hbs o (e ▸ ho))⟩
 ·have:k≠b:=λ e=>hbs o (e ▸ hk);simp only [World.cell?,h.other k this]
 ·by_cases e1:k=b
  ·subst e1; exact hsh c e hk
  ·exact ⟨c,(h.other k e1).trans hk,Z⟩
theorem zn {w:World}{g:Gh}{es:List PV}{vs:Array Value}{T ty:Nat}(CC:vs.size=1)
  (hargs:∀ (i:Nat) c v,[AV.ptr 1000000 0][i]? = some c->vs[i]? = some v->ARep w g c v)
  (hobs:∀ id cs,look [(1000000,[AV.bptr T 2 1000000,AV.vec 900000 1 ty es])] id=some cs->gu w g id cs) :
  ∃ b p q,g.ow 1000000=some b/\vs=#[.pointer (some ⟨b,0,none⟩)]/\w.heap[b]? = some (.cells #[p,q] T (0,0))/\(∀ o,¬ g.st b o) /\
   (p=.pointer none\/p=.pointer (some ⟨b,0,none⟩))/\ARep w g (.vec 900000 1 ty es) q:=by
 obtain ⟨b,c,e,h1,h2,h3,h4,h5⟩:=hobs 1000000 _ rfl;obtain ⟨p,hp,hpr⟩:=h5 0 _ rfl;obtain ⟨q,hq,hqr⟩:=h5 1 _ rfl;have hv0:vs[0]? = some vs[0]:=Array.getElem?_eq_getElem O;have ha:=hargs 0 _ _ rfl hv0
 have hvs:vs=#[vs[0]]:=by
  apply Array.ext
  ·simp [CC]
  ·intro i h1 h2;have:i=0:=by omega
   subst this; rfl
 have hc:∀ c1:Array Value,c1=c->c1.size=2->c=#[p,q]:=by
  rintro c1 rfl h;apply Array.ext
  ·simp [h]
  ·intro i k1 k2
   match i,k2 with
   | 0,_=>rw [Array.getElem?_eq_getElem k1] at hp; simpa using hp
   | 1,_=>rw [Array.getElem?_eq_getElem k1] at hq; simpa using hq
 have hav:vs[0]=.pointer (some ⟨b,0,none⟩):=by
  generalize vs[0]=v at ha
  cases ha with
  | ptr how=>rw [h1] at how; cases how; rfl
 refine ⟨b,p,q,h1,by rw [hvs,hav],?_,h4,?_,hqr⟩
 ·cases hpr with
  | bptrn how hb CJ=>rw [h1] at how; cases how; rw [h2] at hb; cases hb; rw [h2,hc _ rfl CJ]
  | bptr how hb CJ=>rw [h1] at how; cases how; rw [h2] at hb; cases hb; rw [h2,hc _ rfl CJ]
 ·cases hpr with
  | bptrn how hb CJ=>exact .inl Z
  | bptr how hb CJ=>rw [h1] at how; cases how; exact .inr rfl
theorem ob_B {w':World}{g:Gh}{es:List PV}{T ty b:Nat}{p q:Value}(hb:g.ow 1000000=some b)(h4:∀ o,¬ g.st b o)(h:w'.heap[b]? = some (.cells #[p,q] T (0,0)))
  (hp:p=.pointer none\/p=.pointer (some ⟨b,0,none⟩)) (hq:ARep w' g (.vec 900000 1 ty es) q):gu w' (ghB g) 1000000 [.bptr T 2 1000000,.vec 2000000 1 ty es]:=by
 have how:(ghB g).ow 1000000=some b:=ua 1000000 1000000 b Z hb;refine ⟨b,#[p,q],T,how,h,by simp,h4,λ i x hx=>?_⟩
 match i,hx with
 | 0,hx=>
  simp only [List.getElem?_cons_zero,aq] at hx; subst hx;refine ⟨p,rfl,?_⟩;rcases hp with rfl|rfl
  ·exact .bptrn how h Z
  ·exact .bptr how h Z
 | 1,hx=>
  simp only [List.getElem?_cons_succ,List.getElem?_cons_zero,aq] at hx; subst hx;exact ⟨q,rfl,gG (m:=back) (g:=g) (g':=ghB g) rfl ua hq rfl⟩
 | n+2,hx=>simp at hx
theorem du (b_0:aC)(r:aC)(h0:cR b_0=some r):bs Tryz.prog 79 [.ptr 1000000 0] [(1000000,[.bptr 65 2 1000000,.vec 900000 1 (5+1) (b_0.Cs.map eU)])]
  (λ x y=>x=.tuple []/\y=[(1000000,[.bptr 65 2 1000000,.vec 2000000 1 (5+1) (r.Cs.map eU)])]):=by
 cases h0
 intro w g vs hok hown hinj hnst CC hargs hobs;obtain ⟨b,p,q,hb,rfl,hheap,hbs,hp,hq⟩:=zn CC hargs hobs;have hc0:w.cell? ⟨b,0,none⟩=some p:=by simp [World.cell?,hheap]
 rcases hp with rfl|rfl
 ·refine (nY b w hc0 (by simp [World.shape?,hheap]) (by simp [World.frozen?,hheap])).mono ?_;rintro e w' ⟨rfl,rfl⟩;have hO:vY b w (w.setCell ⟨b,0,none⟩ (.pointer (some ⟨b,0,none⟩))):=⟨rfl,rfl,rfl,by simp [World.setCell],λ k hk=>Below.heap_setCell _ _ _ _ hk⟩
  have hheap':(w.setCell ⟨b,0,none⟩ (.pointer (some ⟨b,0,none⟩))).heap[b]? = some (.cells #[.pointer (some ⟨b,0,none⟩),q] 65 (0,0)):=by
   simp [World.setCell,Array.getElem?_modify,hheap]
  have hsh:∀ (c:Array Value) (e:TypeId),w.heap[b]? = some (.cells c e (0,0))->∃ c':Array Value,(w.setCell ⟨b,0,none⟩ (.pointer (some ⟨b,0,none⟩))).heap[b]? = some (.cells c' e (0,0))/\c'.size=c.size:=λ c e h=>by
   rw [hheap] at h; cases h; exact ⟨_,hheap',rfl⟩
  refine ⟨_,_,_,ghB g,Z,⟨Z,Z⟩,.tuple Z G,λ x hx=>?_,wm hok hown hinj hnst hb hO hsh⟩;simp only [List.mem_singleton] at hx; subst hx;exact ob_B hb hbs hheap' (.inr Z) (hq.mono (Cg hbs hO ⟨_,_,hheap⟩ hsh))
 ·refine (pz b w hc0).mono ?_;rintro e w' ⟨rfl,rfl⟩;have hO:vY b w' w':=⟨rfl,rfl,rfl,rfl,λ k hk=>rfl⟩
  refine ⟨_,_,_,ghB g,Z,⟨Z,Z⟩,.tuple Z G,λ x hx=>?_,wm hok hown hinj hnst hb hO (λ c e h=>⟨c,h,Z⟩)⟩;simp only [List.mem_singleton] at hx; subst hx;exact ob_B hb hbs hheap (.inr Z) hq
theorem rH:Tryz.prog.follows .mixedOrders=true:=by kernel_rfl
theorem lU (w:World):Below w.heap.size w w.drew:=Below.drew (Below.refl _ w)
set_option maxRecDepth 100000 in
theorem uK (b:Nat)(p:Value)(w:World)(hbk:w.heap[b]? = some (.cells #[p,.slice none 0 0] 65 (0,0))) :
  Calls Tryz.prog 53 #[.pointer (some ⟨b,0,none⟩)] w λ e w'=>e=.returned (.string ⟨#[]⟩)/\Below w.heap.size w w':=by
 have mixed:=rH;have hUS:∀ (W:World) (q:Option Addr),(Builtin.unsafeString_ #[99,3] 9 #[.pointer q,.int .i64 0]).run Tryz.prog W=.ok (.string .empty) W:=λ W q=>Lib.run_unsafeString_none W _ _ _ q
 have c1:w.drew.cell? ⟨b,1,none⟩=some (.slice none 0 0):=by
  have:w.drew.heap[b]? = some (.cells #[p,.slice none 0 0] 65 (0,0)):=hbk;rw [Lib.cell_of_heap this]; rfl
 have hSD:(Builtin.unsafeSliceData_ #[63] 99 #[.slice none 0 0]).run Tryz.prog w.drew=.ok (.pointer none) w.drew:=rfl
 go_enter Tryz.func53,Tryz.ntmps53
 go_wp2
 go_region_o
 all_goals (go_wp2; go_ret; exact ⟨Z,lU w⟩)
set_option maxRecDepth 100000 in
theorem ui (b g cap:Nat)(p:Value)(w:World)(hc0:cap≠0)(hbk:w.heap[b]? = some (.cells #[p,.slice (some ⟨g,0,none⟩) 0 cap] 65 (0,0))) :
  Calls Tryz.prog 53 #[.pointer (some ⟨b,0,none⟩)] w λ e w'=>e=.returned (.string ⟨#[]⟩)/\Below w.heap.size w w':=by
 have mixed:=rH;have hUS:∀ (W:World) (q:Option Addr),(Builtin.unsafeString_ #[99,3] 9 #[.pointer q,.int .i64 0]).run Tryz.prog W=.ok (.string .empty) W:=λ W q=>Lib.run_unsafeString_none W _ _ _ q
 have c1:w.drew.cell? ⟨b,1,none⟩=some (.slice (some ⟨g,0,none⟩) 0 cap):=by
  have:w.drew.heap[b]? = some (.cells #[p,.slice (some ⟨g,0,none⟩) 0 cap] 65 (0,0)):=hbk;rw [Lib.cell_of_heap this]; rfl
 have hSD:(Builtin.unsafeSliceData_ #[63] 99 #[.slice (some ⟨g,0,none⟩) 0 cap]).run Tryz.prog w.drew=.ok (.pointer (some ⟨g,0,none⟩)) w.drew:=Lib.run_unsafeSliceData_row _ _ _ _ _ _ hc0
 clear hc0
 go_enter Tryz.func53,Tryz.ntmps53
 go_wp2
 go_region_o
 all_goals (go_wp2; go_ret; exact ⟨Z,lU w⟩)
set_option maxRecDepth 100000 in
theorem qh (b g:Nat)(p:Value)(cur:Array Value)(w:World)(hbk:w.heap[b]? = some (.cells #[p,.slice (some ⟨g,0,none⟩) 0 0] 65 (0,0)))(hg:w.heap[g]? = some (.cells cur 5 (0,0))) :
  Calls Tryz.prog 53 #[.pointer (some ⟨b,0,none⟩)] w λ e w'=>e=.returned (.string ⟨#[]⟩)/\Below w.heap.size w w':=by
 have mixed:=rH;have hUS:∀ (W:World) (q:Option Addr),(Builtin.unsafeString_ #[99,3] 9 #[.pointer q,.int .i64 0]).run Tryz.prog W=.ok (.string .empty) W:=λ W q=>Lib.run_unsafeString_none W _ _ _ q
 have hlt:b<w.heap.size:=by
  rcases Nat.lt_or_ge b w.heap.size with h'|h'
  ·exact h'
  ·simp [Array.getElem?_eq_none h'] at hbk
 have c1:w.drew.cell? ⟨b,1,none⟩=some (.slice (some ⟨g,0,none⟩) 0 0):=by
  have:w.drew.heap[b]? = some (.cells #[p,.slice (some ⟨g,0,none⟩) 0 0] 65 (0,0)):=hbk;rw [Lib.cell_of_heap this]; rfl
 have hSD:(Builtin.unsafeSliceData_ #[63] 99 #[.slice (some ⟨g,0,none⟩) 0 0]).run Tryz.prog w.drew=.ok (.pointer (some ⟨w.drew.heap.size,0,none⟩)) (w.drew.alloc (.view ⟨g,0,none⟩ 5)) :=
  Lib.run_unsafeSliceData_zero w.drew _ _ 5 Tryz.underlying99 ⟨g,0,none⟩ 0 (5,cur.size) (by have hg':w.drew.heap[g]? = some (.cells cur 5 (0,0)):=hg; simp [World.shape?,hg'])
 have c2:(w.drew.alloc (.view ⟨g,0,none⟩ 5)).cell? ⟨b,1,none⟩=some (.slice (some ⟨g,0,none⟩) 0 0):=by
  have:(w.drew.alloc (.view ⟨g,0,none⟩ 5)).heap[b]? = _:=(Lib.alloc_old w.drew _ b hlt).trans hbk;rw [Lib.cell_of_heap this]; rfl
 have c3:(w.alloc (.view ⟨g,0,none⟩ 5)).drew.cell? ⟨b,1,none⟩=some (.slice (some ⟨g,0,none⟩) 0 0):=c2;have c0:w.cell? ⟨b,1,none⟩=some (.slice (some ⟨g,0,none⟩) 0 0):=c1
 go_enter Tryz.func53,Tryz.ntmps53
 go_wp2
 go_region_o
 all_goals (go_wp2; go_ret; exact ⟨Z,(lU w).alloc (bt _) _⟩)
set_option maxRecDepth 100000 in
theorem us (b g cap:Nat)(p:Value)(cur:Array Value)(l:List UInt8)(w:World)(h0:l≠[])(hbk:w.heap[b]? = some (.cells #[p,.slice (some ⟨g,0,none⟩) l.length cap] 65 (0,0)))(hg:w.heap[g]? = some (.cells cur 5 (0,0)))
  (hnc:l.length<=cap) (CJ:cur.size=cap) (hcm:l.length<=9223372036854775807) (CP:∀ (j:Nat) x,l[j]? = some x->w.cell? ⟨g,j,none⟩=some (.int .u8 x.toNat)) :
  Calls Tryz.prog 53 #[.pointer (some ⟨b,0,none⟩)] w λ e w'=>e=.returned (.string ⟨l.toArray⟩)/\w'=(w.drew.freeze ⟨g,0,none⟩ l.length):=by
 have mixed:=rH;have hl0:l.length≠0:=by simpa using h0
 have c1:w.drew.cell? ⟨b,1,none⟩=some (.slice (some ⟨g,0,none⟩) l.length cap):=by
  have:w.drew.heap[b]? = some (.cells #[p,.slice (some ⟨g,0,none⟩) l.length cap] 65 (0,0)):=hbk;rw [Lib.cell_of_heap this]; rfl
 have hSD:(Builtin.unsafeSliceData_ #[63] 99 #[.slice (some ⟨g,0,none⟩) l.length cap]).run Tryz.prog w.drew=.ok (.pointer (some ⟨g,0,none⟩)) w.drew:=Lib.run_unsafeSliceData_row _ _ _ _ _ _ O
 have hUS:(Builtin.unsafeString_ #[99,3] 9 #[.pointer (some ⟨g,0,none⟩),.int .i64 l.length]).run Tryz.prog w.drew=.ok (.string ⟨l.toArray⟩) (w.drew.freeze ⟨g,0,none⟩ l.length):=by
  refine Lib.run_unsafeString_row w.drew 99 3 9 5 Tryz.underlying99 (by kernel_rfl) g cur.size (by have hg':w.drew.heap[g]? = some (.cells cur 5 (0,0)):=hg; simp [World.shape?,hg']) l h0 O hcm ?_;intro j x hx;have:=CP j x hx;rw [add_lit,rd,World.cell?_drew]; exact this
 clear CP CJ hcm hnc h0 hl0
 go_enter Tryz.func53,Tryz.ntmps53
 go_wp2
 go_region_o
 all_goals (go_wp2; go_ret; exact ⟨Z,Z⟩)
theorem sd (w:World)(g n k:Nat)(h:k≠g):(w.freeze ⟨g,0,none⟩ n).heap[k]? = w.heap[k]?:=by
 unfold World.freeze;split
 ·rfl
 ·simp only [Array.getElem?_modify];rw [if_neg (λ e=>h e.symm)]
theorem tc (w:World)(g n:Nat)(a:Addr):(w.freeze ⟨g,0,none⟩ n).cell? a=w.cell? a:=by
 unfold World.freeze;split
 ·rfl
 ·simp only [World.cell?,Array.getElem?_modify];by_cases h:g=a.block
  ·simp only [h,if_true]
   cases w.heap[a.block]? with
   | none=>rfl
   | some o=>cases o <;> rfl
  ·simp only [h,if_false]
theorem sQ (w:World)(g n:Nat):(w.freeze ⟨g,0,none⟩ n).heap.size=w.heap.size:=by
 unfold World.freeze; split <;> simp
theorem sV (w:World)(g n:Nat):(w.freeze ⟨g,0,none⟩ n).os=w.os/\(w.freeze ⟨g,0,none⟩ n).output=w.output/\(w.freeze ⟨g,0,none⟩ n).tape=w.tape:=by
 unfold World.freeze; split <;> exact ⟨Z,Z,Z⟩
def ghS (g:Gh):Gh:=⟨g.st,λ i=>if M1<=i/\i<2*M1 then g.ow i else none⟩
theorem rQ {g:Gh}{i b:Nat}(h:(ghS g).ow i=some b):M1<=i/\i<2*M1/\g.ow i=some b:=by
 simp only [ghS] at h;split at h
 ·rename_i h1; exact ⟨h1.1,h1.2,h⟩
 ·cases h
theorem vP {w w':World}{g:Gh}{q:Nat}(hok:Ok0 w g.st)(hown:∀ i b,g.ow i=some b->b<w.heap.size/\i<2*M1)
  (hinj:∀ i j b,g.ow i=some b->g.ow j=some b->i=j) (hnst:∀ i b,M1<=i->g.ow i=some b->∀ o,¬ g.st b o)
  (hq:g.ow 900000=some q\/w.heap.size<=q) (os:w'.os=w.os) (out:w'.output=w.output) (tape:w'.tape=w.tape) (size:w.heap.size<=w'.heap.size)
  (other:∀ k,k<w.heap.size->k≠q->w'.heap[k]? = w.heap[k]?) (cell:∀ b o,b<w.heap.size->w'.cell? ⟨b,o,none⟩=w.cell? ⟨b,o,none⟩):j5 w g w' (ghS g):=by
 have CL:Ev w g.st w' g.st:=λ k o hk=>⟨hk,cell k o (hok.lt k o hk)⟩
 refine ⟨os,out,tape,size,λ k hk hno=>other k hk (λ e=>?_),λ i k hi=>?_,λ i j k hi hj=>?_,λ k o hk=>Nat.lt_of_lt_of_le (hok.lt k o hk) size,λ k hk _ o=>Iff.rfl,λ i h1 h2=>?_,λ i k c e h1 h2 h3=>?_,λ i k hi hk o=>hnst i k hi hk o,CL⟩
 ·rcases hq with hq|hq
  ·exact hno _ (e ▸ hq)
  ·omega
 ·obtain ⟨_,_,h1⟩:=rQ hi;exact ⟨Nat.lt_of_lt_of_le (hown _ _ h1).1 size,.inr ⟨_,h1⟩⟩
 ·exact hinj _ _ _ (rQ hi).2.2 (rQ hj).2.2
 ·simp only [ghS]; rw [if_pos ⟨h1,h2⟩]
 ·refine ⟨c,(other k (hown _ _ h2).1 (λ e=>?_)).trans h3,rfl⟩;rcases hq with hq|hq
  ·have:=hinj _ _ _ h2 (e ▸ hq); unfold M1 at *; omega
  ·have:=(hown _ _ h2).1; omega
theorem ob_S {w':World}{g:Gh}{es:List PV}{T b:Nat}{p q:Value}(hb:g.ow 1000000=some b)(h4:∀ o,¬ g.st b o)(h:w'.heap[b]? = some (.cells #[p,q] T (0,0)))
  (hp:p=.pointer none\/p=.pointer (some ⟨b,0,none⟩)) (hq:PRep w' g.st (.slice es) q):gu w' (ghS g) 1000000 [.bptr T 2 1000000,.p (.slice es)]:=by
 have how:(ghS g).ow 1000000=some b:=by simp only [ghS]; rw [if_pos (by decide)]; exact hb
 refine ⟨b,#[p,q],T,how,h,by simp,h4,λ i x hx=>?_⟩
 match i,hx with
 | 0,hx=>
  simp only [List.getElem?_cons_zero,aq] at hx; subst hx;refine ⟨p,rfl,?_⟩;rcases hp with rfl|rfl
  ·exact .bptrn how h Z
  ·exact .bptr how h Z
 | 1,hx=>
  simp only [List.getElem?_cons_succ,List.getElem?_cons_zero,aq] at hx; subst hx;exact ⟨q,rfl,.p hq⟩
 | n+2,hx=>simp at hx
theorem dV (b_0:aC)(r:Bk×aC)(h0:dz b_0=some r):bs Tryz.prog 53 [.ptr 1000000 0] [(1000000,[.bptr 65 2 1000000,.vec 900000 1 (5+1) (b_0.Cs.map eU)])]
  (λ x y=>x=.p (eS r.1)/\y=[(1000000,[.bptr 65 2 1000000,.p (eL eU r.2.Cs)])]):=by
 obtain ⟨hmax,h0⟩:=cU h0
 cases h0
 intro w g vs hok hown hinj hnst CC hargs hobs;obtain ⟨b,p,q,hb,rfl,hheap,hbs,hp,hq⟩:=zn CC hargs hobs;have hbl:b<w.heap.size:=(hown _ _ hb).1;obtain ⟨l,hl⟩:∃ l,l=b_0.Cs:=⟨_,rfl⟩
 rw [<- hl] at hq ⊢
 -- a builder that holds nothing
 have none_:∀ q0,l=[]->q=q0->(Calls Tryz.prog 53 #[.pointer (some ⟨b,0,none⟩)] w λ e w'=>e=.returned (.string ⟨#[]⟩)/\Below w.heap.size w w')->PRep w g.st (.slice []) q0 ->
   Calls Tryz.prog 53 #[.pointer (some ⟨b,0,none⟩)] w λ e w'=>∃ v r obs' g',e=.returned v/\(r=.p (eS l)/\obs'=[(1000000,[.bptr 65 2 1000000,.p (eL eU l)])])/\ARep w' g' r v/\(∀ p∈obs',gu w' g' p.1 p.2)/\j5 w g w' g':=by
  rintro q0 rfl rfl hc hr;refine hc.mono ?_;rintro e w' ⟨rfl,hB⟩;have CP:∀ b o,b<w.heap.size->w'.cell? ⟨b,o,none⟩=w.cell? ⟨b,o,none⟩:=λ b o h=>hB.cell (p:=⟨b,o,none⟩) h;refine ⟨_,_,_,ghS g,rfl,⟨rfl,rfl⟩,.p (.val _),λ x hx=>?_,vP (q:=w.heap.size) hok hown hinj hnst (.inr (bt _)) hB.os hB.output hB.tape hB.size (λ k hk _=>hB.block k hk) CP⟩;simp only [List.mem_singleton] at hx; subst hx;exact ob_S hb hbs ((hB.block b hbl).trans hheap) hp (hr.mono (w':=w') (st':=g.st) (λ k o hk=>⟨hk,CP k o (hok.lt k o hk)⟩))
 generalize hes:l.map eU=es at hq
 cases hq with
 | vecn=>
  have e:l=[]:=by simpa using hes
  exact none_ _ e Z (uK b p w hheap) .nils
 | vec how hb2 CJ hsz2 CN hr hty=>
  rename_i g2 off2 cap c e2
  have he2:e2=5/\off2=0:=by
   rcases hty with h|h
   ·cases h
   ·exact ⟨(Nat.succ.inj h.1).symm,h.2⟩
  obtain ⟨rfl,rfl⟩:=he2;rw [rd] at CJ;simp only [rd] at CN;have hgl:g2<w.heap.size:=(hown _ _ how).1;subst hes;simp only [n6] at hheap;by_cases hl0:l=[]
  ·subst hl0;by_cases hc0:cap=0
   ·subst hc0;exact none_ _ Z Z (qh b g2 p c w hheap hb2) (by simpa using hr)
   ·exact none_ _ Z Z (ui b g2 cap p w hc0 hheap) (by simpa using hr)
  ·have hcap:l.length<=cap:=by
    obtain ⟨a',cap',he,hle⟩:=ko hr
    cases he
    simpa using hle
   have CP:∀ (j:Nat) x,l[j]? = some x->w.cell? ⟨g2,j,none⟩=some (.int .u8 x.toNat):=by
    intro j x hx;have hinv:=z8 hsz2 hb2 hr;obtain ⟨_,u,hu,hru⟩:=hinv j (eU x) 0 (eU x) (by simp [hx]) rfl
    cases hru
    simp only [World.cell?,hb2];simpa using hu
   refine (us b g2 cap p c l w hl0 (by simpa using hheap) hb2 hcap (by simpa using CJ) ?_ CP).mono ?_
   ·rw [hl]; exact hmax
   rintro e w' ⟨rfl,rfl⟩;have hother:∀ k,k≠g2->(w.drew.freeze ⟨g2,0,none⟩ l.length).heap[k]? = w.heap[k]?:=λ k hk=>sd w.drew g2 _ k hk;have hcell2:∀ b o,(w.drew.freeze ⟨g2,0,none⟩ l.length).cell? ⟨b,o,none⟩=w.cell? ⟨b,o,none⟩:=λ b o=>tc w.drew g2 _ _;obtain ⟨r1,r2,r3⟩:=sV w.drew g2 l.length;refine ⟨_,_,_,ghS g,rfl,⟨rfl,rfl⟩,.p (.val _),λ x hx=>?_,vP (q:=g2) hok hown hinj hnst (.inl how) r1 r2 r3 (by rw [sQ]; exact bt _) (λ k _ hk=>hother k hk) (λ b o _=>hcell2 b o)⟩;simp only [List.mem_singleton] at hx; subst hx;have CQ:b≠g2:=λ e=>by subst e; have:=hinj _ _ _ hb how; omega
   exact ob_S hb hbs ((hother b CQ).trans (by simpa using hheap)) hp (by simpa using hr.mono (w':=w.drew.freeze ⟨g2,0,none⟩ l.length) (st':=g.st) (λ k o hk=>⟨hk,hcell2 k o⟩))
end Go.Ab
end
section
namespace Go.Ab.RB
open Go.Proofs Go.Ab
attribute [local irreducible] awp ea aO au bs AV.sub M bY
def cP (CI:List UInt8)(CU:Int):Option (List UInt8) :=if IntKind.wrap .u32 (CU)<=2047 then ck ((0:Int)<=6)<|ck ((0:Int)<=iOr .u8 192 (IntKind.wrap .u8 (dF .i32 CU 6))/\iOr .u8 192 (IntKind.wrap .u8 (dF .i32 CU 6))<256)<|ck ((0:Int)<=iOr .u8 128 (bU .u8 (IntKind.wrap .u8 (CU)) 63)/\iOr .u8 128 (bU .u8 (IntKind.wrap .u8 (CU)) 63)<256)<|ck ((CI.length+[u8 (iOr .u8 192 (IntKind.wrap .u8 (dF .i32 CU 6))),u8 (iOr .u8 128 (bU .u8 (IntKind.wrap .u8 (CU)) 63))].length)*1<=140737488355328)<|some (CI++[u8 (iOr .u8 192 (IntKind.wrap .u8 (dF .i32 CU 6))),u8 (iOr .u8 128 (bU .u8 (IntKind.wrap .u8 (CU)) 63))])else(if IntKind.wrap .u32 (CU)<55296 then some true else if 57343<IntKind.wrap .u32 (CU) then some (decide (IntKind.wrap .u32 (CU)<=65535))else some false : Option Bool).bind λ t8=>if t8=true then ck ((0:Int)<=12)<|ck ((0:Int)<=6)<|ck ((0:Int)<=iOr .u8 224 (IntKind.wrap .u8 (dF .i32 CU 12))/\iOr .u8 224 (IntKind.wrap .u8 (dF .i32 CU 12))<256)<|ck ((0:Int)<=iOr .u8 128 (bU .u8 (IntKind.wrap .u8 (dF .i32 CU 6)) 63)/\iOr .u8 128 (bU .u8 (IntKind.wrap .u8 (dF .i32 CU 6)) 63)<256)<|ck ((0:Int)<=iOr .u8 128 (bU .u8 (IntKind.wrap .u8 (CU)) 63)/\iOr .u8 128 (bU .u8 (IntKind.wrap .u8 (CU)) 63)<256)<|ck ((CI.length+[u8 (iOr .u8 224 (IntKind.wrap .u8 (dF .i32 CU 12))),u8 (iOr .u8 128 (bU .u8 (IntKind.wrap .u8 (dF .i32 CU 6)) 63)),u8 (iOr .u8 128 (bU .u8 (IntKind.wrap .u8 (CU)) 63))].length)*1<=140737488355328)<|some (CI++[u8 (iOr .u8 224 (IntKind.wrap .u8 (dF .i32 CU 12))),u8 (iOr .u8 128 (bU .u8 (IntKind.wrap .u8 (dF .i32 CU 6)) 63)),u8 (iOr .u8 128 (bU .u8 (IntKind.wrap .u8 (CU)) 63))])else(if 65535<IntKind.wrap .u32 (CU) then some (decide (IntKind.wrap .u32 (CU)<=1114111))else some false : Option Bool).bind λ CS=>if CS=true then ck ((0:Int)<=18)<|ck ((0:Int)<=12)<|ck ((0:Int)<=6)<|ck ((0:Int)<=iOr .u8 240 (IntKind.wrap .u8 (dF .i32 CU 18))/\iOr .u8 240 (IntKind.wrap .u8 (dF .i32 CU 18))<256)<|ck ((0:Int)<=iOr .u8 128 (bU .u8 (IntKind.wrap .u8 (dF .i32 CU 12)) 63)/\iOr .u8 128 (bU .u8 (IntKind.wrap .u8 (dF .i32 CU 12)) 63)<256)<|ck ((0:Int)<=iOr .u8 128 (bU .u8 (IntKind.wrap .u8 (dF .i32 CU 6)) 63)/\iOr .u8 128 (bU .u8 (IntKind.wrap .u8 (dF .i32 CU 6)) 63)<256)<|ck ((0:Int)<=iOr .u8 128 (bU .u8 (IntKind.wrap .u8 (CU)) 63)/\iOr .u8 128 (bU .u8 (IntKind.wrap .u8 (CU)) 63)<256)<|ck ((CI.length+[u8 (iOr .u8 240 (IntKind.wrap .u8 (dF .i32 CU 18))),u8 (iOr .u8 128 (bU .u8 (IntKind.wrap .u8 (dF .i32 CU 12)) 63)),u8 (iOr .u8 128 (bU .u8 (IntKind.wrap .u8 (dF .i32 CU 6)) 63)),u8 (iOr .u8 128 (bU .u8 (IntKind.wrap .u8 (CU)) 63))].length)*1<=140737488355328)<|some (CI++[u8 (iOr .u8 240 (IntKind.wrap .u8 (dF .i32 CU 18))),u8 (iOr .u8 128 (bU .u8 (IntKind.wrap .u8 (dF .i32 CU 12)) 63)),u8 (iOr .u8 128 (bU .u8 (IntKind.wrap .u8 (dF .i32 CU 6)) 63)),u8 (iOr .u8 128 (bU .u8 (IntKind.wrap .u8 (CU)) 63))])else ck ((CI.length+[(239:UInt8),(191:UInt8),(189:UInt8)].length)*1<=140737488355328)<|some (CI++[(239:UInt8),(191:UInt8),(189:UInt8)])
theorem gm (CI:List UInt8)(CU:Int)(r:(List UInt8))(h0:cP CI CU=some r):bs Tryz.prog 152 [.vec 900000 1 (5+1) (CI.map eU),.p (eK .i32 CU)] [] (λ x y=>x=.vec 2000000 1 (5+1) (r.map eU)/\y=[]):=by
 unfold cP at h0;refine gN good [800000] [] Tryz.func152 Z Z Z Z Z λ w0 F=>mPo (λ v:(List UInt8)=>.vec 2000000 1 (5+1) (v.map eU)) (λ v=>[]) ?_;refine nx 17 Z (fD [11,13] h0 Z (λ c1 h0=>?_) λ c1 h0=>?_)
 ·refine nx 5 Z (cc' h0 λ D1 h0=>?_);refine mO Z (jM Z Z Z Z Z Z D1 ?_);refine nx 6 Z (cc' h0 λ Fz h0=>?_);refine cc' h0 λ EB h0=>mO Z (bA eU [u8 (iOr .u8 192 (IntKind.wrap .u8 (dF .i32 CU 6))),u8 (iOr .u8 128 (bU .u8 (IntKind.wrap .u8 (CU)) 63))] Z Z Z Z Z Z Z Z Z Z Z Z Z (congr (congrArg List.cons (kT Fz)) (congr (congrArg List.cons (kT EB)) Z)) ?_);refine cc' h0 λ Hl h0=>mO Z (dS eU CI [u8 (iOr .u8 192 (IntKind.wrap .u8 (dF .i32 CU 6))),u8 (iOr .u8 128 (bU .u8 (IntKind.wrap .u8 (CU)) 63))] Z Z Z Z Z Z Z Z Z Z Z Z Z Y Z Z Z Z Hl ?_);exact nx 3 Z (mQo (oi h0) (aQ (bp 24 800000 Z Z Z Z Z) (bB _)) Z Z Z Z (sr) trivial)
 refine nx 2 Z (bd h0 λ o30 h1 h0=>?_);refine kN o30 (λ v31=>⟨[(0,.vec 900000 1 (5+1) (CI.map eU)),(1,.p (eK .i32 CU)),(5,.p (eK .u32 (IntKind.wrap .u32 (CU)))),(25,.p (eB v31))],[]⟩) ?_ ?_
 ·refine nx 1 Z (fB [25] h0 Z (λ c9 h0=>?_) λ c9 h0=>?_)
  ·refine nx 5 Z (cc' h0 λ Es h0=>?_);refine mO Z (jM Z Z Z Z Z Z Es ?_);refine nx 3 Z (cc' h0 λ Fj h0=>?_);refine mO Z (jM Z Z Z Z Z Z Fj ?_);refine nx 7 Z (cc' h0 λ Er h0=>?_);refine cc' h0 λ EI h0=>cc' h0 λ EJ h0=>mO Z (bA eU [u8 (iOr .u8 224 (IntKind.wrap .u8 (dF .i32 CU 12))),u8 (iOr .u8 128 (bU .u8 (IntKind.wrap .u8 (dF .i32 CU 6)) 63)),u8 (iOr .u8 128 (bU .u8 (IntKind.wrap .u8 (CU)) 63))] Z Z Z Z Z Z Z Z Z Z Z Z Z (congr (congrArg List.cons (kT Er)) (congr (congrArg List.cons (kT EI)) (congr (congrArg List.cons (kT EJ)) Z))) ?_);refine cc' h0 λ DW h0=>mO Z (dS eU CI [u8 (iOr .u8 224 (IntKind.wrap .u8 (dF .i32 CU 12))),u8 (iOr .u8 128 (bU .u8 (IntKind.wrap .u8 (dF .i32 CU 6)) 63)),u8 (iOr .u8 128 (bU .u8 (IntKind.wrap .u8 (CU)) 63))] Z Z Z Z Z Z Z Z Z Z Z Z Z Y Z Z Z Z DW ?_);exact nx 3 Z (mQo (oi h0) (aQ (bp 49 800000 Z Z Z Z Z) (bB _)) Z Z Z Z (sr) trivial)
  refine nx 2 Z (bd h0 λ o32 h1 h0=>?_);refine kN o32 (λ v33=>⟨[(0,.vec 900000 1 (5+1) (CI.map eU)),(1,.p (eK .i32 CU)),(50,.p (eB v33))],[]⟩) ?_ ?_
  ·refine nx 1 Z (fB [50] h0 Z (λ EN h0=>?_) λ EN h0=>?_)
   ·refine nx 5 Z (cc' h0 λ DT h0=>?_);refine mO Z (jM Z Z Z Z Z Z DT ?_);refine nx 3 Z (cc' h0 λ C4 h0=>?_);refine mO Z (jM Z Z Z Z Z Z C4 ?_);refine nx 4 Z (cc' h0 λ Eq h0=>?_);refine mO Z (jM Z Z Z Z Z Z Eq ?_);refine nx 7 Z (cc' h0 λ Fi h0=>?_);refine cc' h0 λ D6 h0=>cc' h0 λ DI h0=>cc' h0 λ Gv h0=>mO Z (bA eU [u8 (iOr .u8 240 (IntKind.wrap .u8 (dF .i32 CU 18))),u8 (iOr .u8 128 (bU .u8 (IntKind.wrap .u8 (dF .i32 CU 12)) 63)),u8 (iOr .u8 128 (bU .u8 (IntKind.wrap .u8 (dF .i32 CU 6)) 63)),u8 (iOr .u8 128 (bU .u8 (IntKind.wrap .u8 (CU)) 63))] Z Z Z Z Z Z Z Z Z Z Z Z Z (congr (congrArg List.cons (kT Fi)) (congr (congrArg List.cons (kT D6)) (congr (congrArg List.cons (kT DI)) (congr (congrArg List.cons (kT Gv)) Z)))) ?_);refine cc' h0 λ Ep h0=>mO Z (dS eU CI [u8 (iOr .u8 240 (IntKind.wrap .u8 (dF .i32 CU 18))),u8 (iOr .u8 128 (bU .u8 (IntKind.wrap .u8 (dF .i32 CU 12)) 63)),u8 (iOr .u8 128 (bU .u8 (IntKind.wrap .u8 (dF .i32 CU 6)) 63)),u8 (iOr .u8 128 (bU .u8 (IntKind.wrap .u8 (CU)) 63))] Z Z Z Z Z Z Z Z Z Z Z Z Z Y Z Z Z Z Ep ?_);exact nx 3 Z (mQo (oi h0) (aQ (bp 77 800000 Z Z Z Z Z) (bB _)) Z Z Z Z (sr) trivial)
   refine nx 4 Z (mO Z (bA eU [(239:UInt8),(191:UInt8),(189:UInt8)] Z Z Z Z Z Z Z Z Z Z Z Z Z Z ?_));refine cc' h0 λ Hq h0=>mO Z (dS eU CI [(239:UInt8),(191:UInt8),(189:UInt8)] Z Z Z Z Z Z Z Z Z Z Z Z Z Y Z Z Z Z Hq ?_);exact nx 3 Z (mQo (oi h0) (aQ (bp 10 800000 Z Z Z Z Z) (bB _)) Z Z Z Z (sr) trivial)
  refine nx 4 Z (fD [52,53] h1 Z (λ FO h1=>?_) λ FO h1=>?_)
  ·exact nx 5 Z (eX _ (oi h1).symm (gE Z Z))
  exact nx 5 Z (eX _ (oi h1).symm (gE Z Z))
 refine nx 6 Z (fD [25,27] h1 Z (λ c6 h1=>?_) λ c6 h1=>?_)
 ·exact nx 2 Z (eX _ (oi h1).symm (gE Z Z))
 refine nx 5 Z (fD [29,30] h1 Z (λ c7 h1=>?_) λ c7 h1=>?_)
 ·exact nx 5 Z (eX _ (oi h1).symm (gE Z Z))
 exact nx 5 Z (eX _ (oi h1).symm (gE Z Z))
def ei (CI:List UInt8)(CU:Int):Option (List UInt8) :=if IntKind.wrap .u32 (CU)<=127 then ck ((0:Int)<=IntKind.wrap .u8 (CU)/\IntKind.wrap .u8 (CU)<256)<|ck ((CI.length+[u8 (IntKind.wrap .u8 (CU))].length)*1<=140737488355328)<|some (CI++[u8 (IntKind.wrap .u8 (CU))])else(cP CI CU).bind λ r4=>some r4
theorem iX (CI:List UInt8)(CU:Int)(r:(List UInt8))(h0:ei CI CU=some r):bs Tryz.prog 139 [.vec 900000 1 (5+1) (CI.map eU),.p (eK .i32 CU)] [] (λ x y=>x=.vec 2000000 1 (5+1) (r.map eU)/\y=[]):=by
 unfold ei at h0;refine gN good [800000] [] Tryz.func139 Z Z Z Z Z λ w0 F=>mPo (λ v:(List UInt8)=>.vec 2000000 1 (5+1) (v.map eU)) (λ v=>[]) ?_;refine nx 11 Z (fD [7] h0 Z (λ c1 h0=>?_) λ c1 h0=>?_)
 ·refine nx 6 Z (cc' h0 λ D1 h0=>?_);refine mO Z (bA eU [u8 (IntKind.wrap .u8 (CU))] Z Z Z Z Z Z Z Z Z Z Z Z Z (congr (congrArg List.cons (kT D1)) Z) ?_);refine cc' h0 λ EB h0=>mO Z (dS eU CI [u8 (IntKind.wrap .u8 (CU))] Z Z Z Z Z Z Z Z Z Z Z Z Z Y Z Z Z Z EB ?_);exact nx 3 Z (mQo (oi h0) (aQ (bp 12 800000 Z Z Z Z Z) (bB _)) Z Z Z Z (sr) trivial)
 refine nx 6 Z (bd h0 λ r4 e5 h0=>?_);refine mO Z (br [] [900000] 101000 101001 (gm CI CU _ e5) Z Z Z Z Z ⟨sr,sr,trivial⟩ Z Z trivial Z Z Z Z Z Z Z Z Tryz.call152 Z Z ?_);exact nx 3 Z (mQo (oi h0) (aQ (bp 101000 800000 Z Z Z Z Z) (bB _)) Z Z Z Z (sr) trivial)
def aX (b_0:aC)(s_1:Bk):Option (Int×Bool×aC) :=(cR (aC.mk b_0.Cs)).bind λ r1=>ck ((r1.Cs.length+s_1.length)*1<=140737488355328)<|some ((s_1.length:Int),false,(aC.mk (r1.Cs++s_1)))
theorem bi (b_0:aC)(s_1:Bk)(r:Int×Bool×aC)(h0:aX b_0 s_1=some r):bs Tryz.prog 49 [.ptr 1000000 0,.p (eS s_1)] [(1000000,[.bptr 65 2 1000000,.vec 900000 1 (5+1) (b_0.Cs.map eU)])] (λ x y=>x=.tuple [.p (eI r.1),.p (eE r.2.1)]/\y=[(1000000,[.bptr 65 2 1000000,.vec 2000000 1 (5+1) (r.2.2.Cs.map eU)])]):=by
 unfold aX at h0;refine gN good [800000] [1000000] Tryz.func49 Z Z Z Z Z λ w0 F=>mPo (λ v:Int×Bool×aC=>.tuple [.p (eI v.1),.p (eE v.2.1)]) (λ v=>[(1000000,[.bptr 65 2 1000000,.vec 2000000 1 (5+1) (v.2.2.Cs.map eU)])]) ?_;refine nx 8 Z (bd h0 λ r1 e2 h0=>?_);refine mO Z (br [1000000] [900000] 101000 101001 (du (aC.mk b_0.Cs) _ e2) Z Z Z Z Z ⟨sr,trivial⟩ Z Z ⟨⟨_,Z,⟨sr,sr,trivial⟩⟩,trivial⟩ Z Z Z Z Z Z Z Z Tryz.call79 Z Z ?_);refine nx 9 Z (cc' h0 λ EB h0=>?_);refine mO Z (zu r1.Cs s_1 Z Z Z Z Z Z Z Z Z Z Z Z Z Z Z EB ?_);refine nx 7 Z (oLs Z ?_);exact nx 4 Z (mQo (oi h0) (aQ (bp 14 800000 Z Z Z Z Z) (bB _)) Z Z Z Z (ar ⟨sr,sr,trivial⟩) ⟨⟨_,Z,⟨sr,sr,trivial⟩⟩,trivial⟩)
def bN (b_0:aC)(c_1:Int):Option (Bool×aC) :=(cR (aC.mk b_0.Cs)).bind λ r1=>ck ((0:Int)<=c_1/\c_1<256)<|ck ((r1.Cs.length+[u8 c_1].length)*1<=140737488355328)<|some (false,(aC.mk (r1.Cs++[u8 c_1])))
theorem b7 (b_0:aC)(c_1:Int)(r:Bool×aC)(h0:bN b_0 c_1=some r):bs Tryz.prog 81 [.ptr 1000000 0,.p (eK .u8 c_1)] [(1000000,[.bptr 65 2 1000000,.vec 900000 1 (5+1) (b_0.Cs.map eU)])] (λ x y=>x=.p (eE r.1)/\y=[(1000000,[.bptr 65 2 1000000,.vec 2000000 1 (5+1) (r.2.Cs.map eU)])]):=by
 unfold bN at h0;refine gN good [800000] [1000000] Tryz.func81 Z Z Z Z Z λ w0 F=>mPo (λ v:Bool×aC=>.p (eE v.1)) (λ v=>[(1000000,[.bptr 65 2 1000000,.vec 2000000 1 (5+1) (v.2.Cs.map eU)])]) ?_;refine nx 7 Z (bd h0 λ r1 e2 h0=>?_);refine mO Z (br [1000000] [900000] 101000 101001 (du (aC.mk b_0.Cs) _ e2) Z Z Z Z Z ⟨sr,trivial⟩ Z Z ⟨⟨_,Z,⟨sr,sr,trivial⟩⟩,trivial⟩ Z Z Z Z Z Z Z Z Tryz.call79 Z Z ?_);refine nx 9 Z (cc' h0 λ EB h0=>?_);refine mO Z (bA eU [u8 c_1] Z Z Z Z Z Z Z Z Z Z Z Z Z (congr (congrArg List.cons (kT EB)) Z) ?_);refine cc' h0 λ Fz h0=>mO Z (dS eU r1.Cs [u8 c_1] Z Z Z Z Z Z Z Z Z Z Z Z Z Y Z Z Z Z Fz ?_);exact nx 9 Z (mQo (oi h0) (aQ (bp 14 800000 Z Z Z Z Z) (bB _)) Z Z Z Z (sr) ⟨⟨_,Z,⟨sr,sr,trivial⟩⟩,trivial⟩)
def dW (b_0:aC)(CU:Int):Option (Int×Bool×aC) :=(cR (aC.mk b_0.Cs)).bind λ r1=>(ei r1.Cs CU).bind λ r3=>ck (inR ((r3.length:Int)-(r1.Cs.length:Int)))<|some ((r3.length:Int)-(r1.Cs.length:Int),false,(aC.mk r3))
theorem iC (b_0:aC)(CU:Int)(r:Int×Bool×aC)(h0:dW b_0 CU=some r):bs Tryz.prog 118 [.ptr 1000000 0,.p (eK .i32 CU)] [(1000000,[.bptr 65 2 1000000,.vec 900000 1 (5+1) (b_0.Cs.map eU)])] (λ x y=>x=.tuple [.p (eI r.1),.p (eE r.2.1)]/\y=[(1000000,[.bptr 65 2 1000000,.vec 2000000 1 (5+1) (r.2.2.Cs.map eU)])]):=by
 unfold dW at h0;refine gN good [800000] [1000000] Tryz.func118 Z Z Z Z Z λ w0 F=>mPo (λ v:Int×Bool×aC=>.tuple [.p (eI v.1),.p (eE v.2.1)]) (λ v=>[(1000000,[.bptr 65 2 1000000,.vec 2000000 1 (5+1) (v.2.2.Cs.map eU)])]) ?_;refine nx 8 Z (bd h0 λ r1 e2 h0=>?_);refine mO Z (br [1000000] [900000] 101000 101001 (du (aC.mk b_0.Cs) _ e2) Z Z Z Z Z ⟨sr,trivial⟩ Z Z ⟨⟨_,Z,⟨sr,sr,trivial⟩⟩,trivial⟩ Z Z Z Z Z Z Z Z Tryz.call79 Z Z ?_);refine nx 7 Z (oLl (f:=eU) Z Z ?_);refine nx 10 Z (bd h0 λ r3 e4 h0=>?_);refine mO Z (br [] [101000] 102000 102001 (iX r1.Cs CU _ e4) Z Z Z Z Z ⟨sr,sr,trivial⟩ Z Z trivial Z Z Z Z Z Z Z Z Tryz.call139 Z Z ?_);refine nx 10 Z (oLl (f:=eU) Z Z ?_);refine nx 1 Z (oA h0 Z Z λ Hl h0=>?_);refine nx 3 Z (mG (gE (t:=⟨[(4,.p (eI ((r3.length:Int)-(r1.Cs.length:Int)))),(5,.p (eE false))],[(1000000,[.bptr 65 2 1000000,.vec 102000 1 (5+1) (r3.map eU)])]⟩) Z Z) ?_);exact nx 1 Z (mQo (oi h0) (aQ (bp 102000 800000 Z Z Z Z Z) (bB _)) Z Z Z Z (ar ⟨sr,sr,trivial⟩) ⟨⟨_,Z,⟨sr,sr,trivial⟩⟩,trivial⟩)
def fO (b_0:aC):Option (Int×aC) :=some ((b_0.Cs.length:Int),(aC.mk b_0.Cs))
theorem j1 (b_0:aC)(r:Int×aC)(h0:fO b_0=some r):bs Tryz.prog 119 [.ptr 1000000 0] [(1000000,[.bptr 65 2 1000000,.vec 900000 1 (5+1) (b_0.Cs.map eU)])] (λ x y=>x=.p (eI r.1)/\y=[(1000000,[.bptr 65 2 1000000,.vec 2000000 1 (5+1) (r.2.Cs.map eU)])]):=by
 unfold fO at h0;refine gN good [800000] [1000000] Tryz.func119 Z Z Z Z Z λ w0 F=>mPo (λ v:Int×aC=>.p (eI v.1)) (λ v=>[(1000000,[.bptr 65 2 1000000,.vec 2000000 1 (5+1) (v.2.Cs.map eU)])]) ?_;refine nx 10 Z (oLl (f:=eU) Z Z ?_);exact nx 3 Z (mQo (oi h0) (aQ (bp 900000 800000 Z Z Z Z Z) (bB _)) Z Z Z Z (sr) ⟨⟨_,Z,⟨sr,sr,trivial⟩⟩,trivial⟩)
end Go.Ab.RB
end
section
namespace Go.Ab
open Go.RowKit
theorem au.of_calls {P:Program}{f:FuncId}{l:List Value}{r:AV}
  (h:∀ (w:World) (st:Nat->Nat->Prop),Ok0 w st->Calls P f l.toArray w λ e w'=>∃ v,e=.returned v/\Below w.heap.size w w'/\∀ g',ARep w' g' r v):au P f (l.map PV.val) (·=r):=by
 intro w st vs hok CC hargs
 have e:vs=l.toArray:=by
  apply Array.ext
  ·simpa using CC
  ·intro i h1 h2;have hi:i<l.length:=by simpa using h2
   have:=hargs i (.val l[i]) vs[i] (by simp [hi]) (Array.getElem?_eq_getElem h1);generalize hv:vs[i]=v at this
   cases this
   simp
 subst e;refine (h w st hok).mono ?_;rintro e w' ⟨v,rfl,hB,hr⟩;refine ⟨v,r,⟨st,λ _=>none⟩,rfl,rfl,hr _,⟨hB.os,hB.output,hB.tape,hB.size,λ b hb=>hB.block b hb,?_,?_,λ b o hb=>Nat.lt_of_lt_of_le (hok.lt b o hb) hB.size,λ b _ o=>Iff.rfl⟩⟩
 ·intro i b hi; cases hi
 ·intro i j b hi; cases hi
theorem kp {w:World}{st:Nat->Nat->Prop}(h:iE w st){g j:Nat}{l:List GC}{k:IntKind}{n:Int}(hl:look l9 g=some l)(hj:l[j]? = some (.int k n)):w.cell? ⟨g,j,none⟩=some (.int k n):=by
 obtain ⟨_,v,h2,h3⟩:=(h g (l.map GC.pv) (by rw [j3,hl]; rfl)).1 j (.val (.int k n)) (by rw [List.getElem?_map,hj]; rfl)
 cases h3
 exact h2
theorem tM {w:World}{st:Nat->Nat->Prop}(h:iE w st){g j:Nat}{l:List GC}(hl:look l9 g=some l)(hj:l[j]? = some .ifc):∃ t v,w.cell? ⟨g,j,none⟩=some (.iface t v):=by
 obtain ⟨_,v,h2,h3⟩:=(h g (l.map GC.pv) (by rw [j3,hl]; rfl)).1 j .ifc (by rw [List.getElem?_map,hj]; rfl)
 cases h3 with
 | ifc t v=>exact ⟨t,v,h2⟩
theorem x8 {P:Program}{w:World}{st:Nat->Nat->Prop}(h:iE w st){g:Nat}{l:List GC}{nm:String}{k:IntKind}{zs:List Int}(hl:look l9 g=some l)(hn:P.globalNamed nm=some g)(hz:l=zs.map (GC.int k))(CQ:zs≠[]):Lib.TabIs P w nm k zs:=by
 obtain ⟨h0,h1,h2⟩:=h g (l.map GC.pv) (by rw [j3,hl]; rfl);have hc:∀ (j:Nat) z,zs[j]? = some z->w.cell? ⟨g,j,none⟩=some (.int k z):=λ j z hj=>kp h hl (by rw [hz,List.getElem?_map,hj]; rfl);unfold Lib.TabIs World.var?;rw [hn];simp only [Option.bind_some];have CE:(l.map GC.pv).length=zs.length:=by rw [hz]; simp
 rw [CE] at h2
 obtain ⟨z0,hz0⟩:∃ z0,zs[0]? = some z0:=by
  cases zs with
  | nil=>exact absurd Z CQ
  | cons z r=>exact ⟨z,Z⟩
 have hc0:=hc 0 z0 hz0;simp only [World.cell?] at hc hc0 h2
 cases hh:w.heap[g]? with
 | none=>rw [hh] at hc0; cases hc0
 | some o=>
  rw [hh] at hc hc0 h2
  cases o with
  | cells c e fz=>
   simp only [Option.isSome_none,Bool.false_eq_true,if_false] at hc hc0 h2;refine congrArg some ?_;apply Array.ext_getElem?;intro j;by_cases hj:j<zs.length
   ·rw [hc j zs[j] (List.getElem?_eq_getElem hj)];simp [hj]
   ·have h3:c.size<=zs.length:=by
     rcases Nat.lt_or_ge zs.length c.size with h'|h'
     ·rw [Array.getElem?_eq_getElem h'] at h2; cases h2
     ·exact h'
    rw [Array.getElem?_eq_none O,Array.getElem?_eq_none (by simp; omega)]
  | _=>simp at hc0
theorem fT (s:Bk):(str s).data.toList=s:=by simp [str]
theorem jW (w:World):Below w.heap.size w w:=Below.refl _ w
end Go.Ab
end
section
namespace Go.Proofs
open Go.Shelf
def Tryz.lays119_ren:Go.Shelf.Ren:=⟨λ|119=>123|n=>n,λ|21=>21|4=>4|n=>n,λ|n=>n⟩
theorem Tryz.lays119:Go.Proofs.Lays.n119 Tryz.prog Tryz.lays119_ren:={
 mixed:=by kernel_rfl
 f119:=Tryz.func123.trans (congrArg some (by kernel_rfl))
 t4:=Tryz.underlying4
 a4:=Tryz.isAgg4
 z4:=Tryz.sizeOf4
 v4:=Tryz.zeroValue4
 t21:=Tryz.underlying21
 a21:=Tryz.isAgg21
 z21:=Tryz.sizeOf21
 v21:=Tryz.zeroValue21 }
theorem Tryz.utf8_ValidRune (r:Int)(w:World) :
  Calls Tryz.prog 123 #[.int .i32 r] w λ e w'=>e=.returned (.bool (Lib.validRune r))/\w'=w:=Any.utf8_ValidRune Tryz.lays119 r w
def Tryz.lays137_ren:Go.Shelf.Ren:=⟨λ|137=>122|217=>142|266=>158|n=>n,λ|9=>9|5=>5|3=>3|n=>n,λ|n=>n⟩
theorem Tryz.lays137:Go.Proofs.Lays.n137 Tryz.prog Tryz.lays137_ren:={
 mixed:=by kernel_rfl
 f137:=Tryz.func122.trans (congrArg some (by kernel_rfl))
 f217:=Tryz.func142.trans (congrArg some (by kernel_rfl))
 f266:=Tryz.func158.trans (congrArg some (by kernel_rfl))
 t3:=Tryz.underlying3
 a3:=Tryz.isAgg3
 z3:=Tryz.sizeOf3
 v3:=Tryz.zeroValue3
 t5:=Tryz.underlying5
 a5:=Tryz.isAgg5
 z5:=Tryz.sizeOf5
 v5:=Tryz.zeroValue5
 t9:=Tryz.underlying9
 a9:=Tryz.isAgg9
 z9:=Tryz.sizeOf9
 v9:=Tryz.zeroValue9 }
open Go.RowKit in
theorem Tryz.strings_IndexByte (s:ByteArray)(c:Int)(w:World) :
  Calls Tryz.prog 122 #[.string s,.int .u8 c] w λ e w'=>e=.returned (.int .i64 (Lib.indexByte s.data.toList c.toNat.toUInt8))/\w'=w:=Any.strings_IndexByte Tryz.lays137 s c w
def Tryz.lays99_ren:Go.Shelf.Ren:=⟨λ|99=>89|206=>115|n=>n,λ|9=>9|4=>4|3=>3|n=>n,λ|n=>n⟩
theorem Tryz.lays99:Go.Proofs.Lays.n99 Tryz.prog Tryz.lays99_ren:={
 mixed:=by kernel_rfl
 f99:=Tryz.func89.trans (congrArg some (by kernel_rfl))
 f206:=Tryz.func115.trans (congrArg some (by kernel_rfl))
 t3:=Tryz.underlying3
 a3:=Tryz.isAgg3
 z3:=Tryz.sizeOf3
 v3:=Tryz.zeroValue3
 t4:=Tryz.underlying4
 a4:=Tryz.isAgg4
 z4:=Tryz.sizeOf4
 v4:=Tryz.zeroValue4
 t9:=Tryz.underlying9
 a9:=Tryz.isAgg9
 z9:=Tryz.sizeOf9
 v9:=Tryz.zeroValue9 }
open Go.RowKit Go.Lib in
theorem Tryz.strings_HasPrefix (s p:ByteArray)(w:World) :
  Calls Tryz.prog 89 #[.string s,.string p] w λ e w'=>e=.returned (.bool (Lib.hasPrefix s.data.toList p.data.toList))/\w'=w:=Any.strings_HasPrefix Tryz.lays99 s p w
def Tryz.laysM171_ren:Go.Shelf.Ren:=⟨λ|171=>80|243=>110|246=>111|283=>133|284=>134|285=>135|286=>136|129=>148|317=>147|318=>149|319=>150|320=>151|337=>162|338=>163|n=>n,λ|3=>3|9=>9|2=>2|4=>4|171=>139|0=>0|53=>138|37=>63|5=>5|173=>142|212=>149|51=>150|20=>20|213=>151|46=>112|232=>167|233=>168|n=>n,λ|17=>3|18=>6|19=>7|n=>n⟩
theorem Tryz.laysM171:Go.Proofs.LaysM.n171 Tryz.prog Tryz.laysM171_ren:={
 mixed:=by kernel_rfl
 f129:=Tryz.func148.trans (congrArg some (by kernel_rfl))
 f171:=Tryz.func80.trans (congrArg some (by kernel_rfl))
 f243:=Tryz.func110.trans (congrArg some (by kernel_rfl))
 f246:=Tryz.func111.trans (congrArg some (by kernel_rfl))
 f283:=Tryz.func133.trans (congrArg some (by kernel_rfl))
 f284:=Tryz.func134.trans (congrArg some (by kernel_rfl))
 f285:=Tryz.func135.trans (congrArg some (by kernel_rfl))
 f286:=Tryz.func136.trans (congrArg some (by kernel_rfl))
 f317:=Tryz.func147.trans (congrArg some (by kernel_rfl))
 f318:=Tryz.func149.trans (congrArg some (by kernel_rfl))
 f319:=Tryz.func150.trans (congrArg some (by kernel_rfl))
 f320:=Tryz.func151.trans (congrArg some (by kernel_rfl))
 f337:=Tryz.func162.trans (congrArg some (by kernel_rfl))
 f338:=Tryz.func163.trans (congrArg some (by kernel_rfl))
 t0:=Tryz.underlying0
 a0:=Tryz.isAgg0
 z0:=Tryz.sizeOf0
 v0:=Tryz.zeroValue0
 t2:=Tryz.underlying2
 a2:=Tryz.isAgg2
 z2:=Tryz.sizeOf2
 v2:=Tryz.zeroValue2
 t3:=Tryz.underlying3
 a3:=Tryz.isAgg3
 z3:=Tryz.sizeOf3
 v3:=Tryz.zeroValue3
 t4:=Tryz.underlying4
 a4:=Tryz.isAgg4
 z4:=Tryz.sizeOf4
 v4:=Tryz.zeroValue4
 t5:=Tryz.underlying5
 a5:=Tryz.isAgg5
 z5:=Tryz.sizeOf5
 v5:=Tryz.zeroValue5
 t9:=Tryz.underlying9
 a9:=Tryz.isAgg9
 z9:=Tryz.sizeOf9
 v9:=Tryz.zeroValue9
 t20:=Tryz.underlying20
 a20:=Tryz.isAgg20
 z20:=Tryz.sizeOf20
 v20:=Tryz.zeroValue20
 t37:=Tryz.underlying63
 a37:=Tryz.isAgg63
 z37:=Tryz.sizeOf63
 v37:=Tryz.zeroValue63
 t46:=Tryz.underlying112
 a46:=Tryz.isAgg112
 z46:=Tryz.sizeOf112
 v46:=Tryz.zeroValue112
 t51:=Tryz.underlying150
 a51:=Tryz.isAgg150
 z51:=Tryz.sizeOf150
 v51:=Tryz.zeroValue150
 t53:=Tryz.underlying138
 a53:=Tryz.isAgg138
 z53:=Tryz.sizeOf138
 v53:=Tryz.zeroValue138
 t171:=Tryz.underlying139
 a171:=Tryz.isAgg139
 z171:=Tryz.sizeOf139
 v171:=Tryz.zeroValue139
 t173:=Tryz.underlying142
 a173:=Tryz.isAgg142
 z173:=Tryz.sizeOf142
 v173:=Tryz.zeroValue142
 t212:=Tryz.underlying149
 a212:=Tryz.isAgg149
 z212:=Tryz.sizeOf149
 v212:=Tryz.zeroValue149
 t213:=Tryz.underlying151
 a213:=Tryz.isAgg151
 z213:=Tryz.sizeOf151
 t232:=Tryz.underlying167
 a232:=Tryz.isAgg167
 z232:=Tryz.sizeOf167
 v232:=Tryz.zeroValue167
 t233:=Tryz.underlying168
 a233:=Tryz.isAgg168
 z233:=Tryz.sizeOf168
 v233:=Tryz.zeroValue168
 g17:=by kernel_rfl
 g18:=by kernel_rfl
 g19:=by kernel_rfl
 i0:=by kernel_rfl
 i2:=by kernel_rfl
 i3:=by kernel_rfl
 i4:=by kernel_rfl
 i5:=by kernel_rfl
 i9:=by kernel_rfl
 i20:=by kernel_rfl
 i37:=by kernel_rfl
 i46:=by kernel_rfl
 i51:=by kernel_rfl
 i53:=by kernel_rfl
 i171:=by kernel_rfl
 i173:=by kernel_rfl
 i212:=by kernel_rfl
 i232:=by kernel_rfl
 i233:=by kernel_rfl
 m17:=by kernel_rfl
 m18:=by kernel_rfl
 m19:=by kernel_rfl }
open Go.RowKit Go.Sort Go.Lib in
theorem Tryz.strconv_Itoa (n:Int)(h0:-9223372036854775808<=n)(h1:n<=9223372036854775807)(w:World)(htab:Lib.TabIs Tryz.prog w "internal/strconv.uint64pow10" .u64 Lib.pow10Tab) :
  Calls Tryz.prog 80 #[.int .i64 n] w λ e w'=>e=.returned (.string ⟨(Lib.itoa n).toArray⟩)/\∃ k os,w'=grow (w.drewN k) os:=Any.strconv_Itoa Tryz.laysM171 n h0 h1 w htab
def Tryz.laysC174_ren:Go.Shelf.Ren:=⟨λ|174=>121|247=>140|245=>141|287=>153|279=>154|280=>155|281=>156|282=>157|321=>164|322=>165|316=>166|171=>80|205=>167|243=>110|246=>111|283=>133|284=>134|285=>135|286=>136|129=>148|317=>147|318=>149|319=>150|320=>151|337=>162|338=>163|n=>n,λ|9=>9|3=>3|2=>2|75=>67|85=>129|4=>4|167=>153|5=>5|53=>138|175=>154|46=>112|168=>156|37=>63|0=>0|210=>165|21=>21|127=>99|145=>171|143=>169|171=>139|173=>142|212=>149|51=>150|20=>20|213=>151|232=>167|233=>168|80=>72|n=>n,λ|15=>4|16=>5|17=>3|18=>6|19=>7|n=>n⟩
theorem Tryz.laysC174:Go.Proofs.LaysC.n174 Tryz.prog Tryz.laysC174_ren:={
 mixed:=by kernel_rfl
 f129:=Tryz.func148.trans (congrArg some (by kernel_rfl))
 f171:=Tryz.func80.trans (congrArg some (by kernel_rfl))
 f174:=Tryz.func121.trans (congrArg some (by kernel_rfl))
 f205:=Tryz.func167.trans (congrArg some (by kernel_rfl))
 f243:=Tryz.func110.trans (congrArg some (by kernel_rfl))
 f245:=Tryz.func141.trans (congrArg some (by kernel_rfl))
 f246:=Tryz.func111.trans (congrArg some (by kernel_rfl))
 f247:=Tryz.func140.trans (congrArg some (by kernel_rfl))
 f279:=Tryz.func154.trans (congrArg some (by kernel_rfl))
 f280:=Tryz.func155.trans (congrArg some (by kernel_rfl))
 f281:=Tryz.func156.trans (congrArg some (by kernel_rfl))
 f282:=Tryz.func157.trans (congrArg some (by kernel_rfl))
 f283:=Tryz.func133.trans (congrArg some (by kernel_rfl))
 f284:=Tryz.func134.trans (congrArg some (by kernel_rfl))
 f285:=Tryz.func135.trans (congrArg some (by kernel_rfl))
 f286:=Tryz.func136.trans (congrArg some (by kernel_rfl))
 f287:=Tryz.func153.trans (congrArg some (by kernel_rfl))
 f316:=Tryz.func166.trans (congrArg some (by kernel_rfl))
 f317:=Tryz.func147.trans (congrArg some (by kernel_rfl))
 f318:=Tryz.func149.trans (congrArg some (by kernel_rfl))
 f319:=Tryz.func150.trans (congrArg some (by kernel_rfl))
 f320:=Tryz.func151.trans (congrArg some (by kernel_rfl))
 f321:=Tryz.func164.trans (congrArg some (by kernel_rfl))
 f322:=Tryz.func165.trans (congrArg some (by kernel_rfl))
 f337:=Tryz.func162.trans (congrArg some (by kernel_rfl))
 f338:=Tryz.func163.trans (congrArg some (by kernel_rfl))
 t0:=Tryz.underlying0
 a0:=Tryz.isAgg0
 z0:=Tryz.sizeOf0
 v0:=Tryz.zeroValue0
 t2:=Tryz.underlying2
 a2:=Tryz.isAgg2
 z2:=Tryz.sizeOf2
 v2:=Tryz.zeroValue2
 t3:=Tryz.underlying3
 a3:=Tryz.isAgg3
 z3:=Tryz.sizeOf3
 v3:=Tryz.zeroValue3
 t4:=Tryz.underlying4
 a4:=Tryz.isAgg4
 z4:=Tryz.sizeOf4
 v4:=Tryz.zeroValue4
 t5:=Tryz.underlying5
 a5:=Tryz.isAgg5
 z5:=Tryz.sizeOf5
 v5:=Tryz.zeroValue5
 t9:=Tryz.underlying9
 a9:=Tryz.isAgg9
 z9:=Tryz.sizeOf9
 v9:=Tryz.zeroValue9
 t20:=Tryz.underlying20
 a20:=Tryz.isAgg20
 z20:=Tryz.sizeOf20
 v20:=Tryz.zeroValue20
 t21:=Tryz.underlying21
 a21:=Tryz.isAgg21
 z21:=Tryz.sizeOf21
 v21:=Tryz.zeroValue21
 t37:=Tryz.underlying63
 a37:=Tryz.isAgg63
 z37:=Tryz.sizeOf63
 v37:=Tryz.zeroValue63
 t46:=Tryz.underlying112
 a46:=Tryz.isAgg112
 z46:=Tryz.sizeOf112
 v46:=Tryz.zeroValue112
 t51:=Tryz.underlying150
 a51:=Tryz.isAgg150
 z51:=Tryz.sizeOf150
 v51:=Tryz.zeroValue150
 t53:=Tryz.underlying138
 a53:=Tryz.isAgg138
 z53:=Tryz.sizeOf138
 v53:=Tryz.zeroValue138
 t75:=Tryz.underlying67
 a75:=Tryz.isAgg67
 z75:=Tryz.sizeOf67
 v75:=Tryz.zeroValue67
 t85:=Tryz.underlying129
 a85:=Tryz.isAgg129
 z85:=Tryz.sizeOf129
 v85:=Tryz.zeroValue129
 t127:=Tryz.underlying99
 a127:=Tryz.isAgg99
 z127:=Tryz.sizeOf99
 v127:=Tryz.zeroValue99
 t143:=Tryz.underlying169
 a143:=Tryz.isAgg169
 z143:=Tryz.sizeOf169
 v143:=Tryz.zeroValue169
 t145:=Tryz.underlying171
 a145:=Tryz.isAgg171
 z145:=Tryz.sizeOf171
 v145:=Tryz.zeroValue171
 t167:=Tryz.underlying153
 a167:=Tryz.isAgg153
 z167:=Tryz.sizeOf153
 v167:=Tryz.zeroValue153
 t168:=Tryz.underlying156
 a168:=Tryz.isAgg156
 z168:=Tryz.sizeOf156
 v168:=Tryz.zeroValue156
 t171:=Tryz.underlying139
 a171:=Tryz.isAgg139
 z171:=Tryz.sizeOf139
 v171:=Tryz.zeroValue139
 t173:=Tryz.underlying142
 a173:=Tryz.isAgg142
 z173:=Tryz.sizeOf142
 v173:=Tryz.zeroValue142
 t175:=Tryz.underlying154
 a175:=Tryz.isAgg154
 z175:=Tryz.sizeOf154
 v175:=Tryz.zeroValue154
 t210:=Tryz.underlying165
 a210:=Tryz.isAgg165
 z210:=Tryz.sizeOf165
 v210:=Tryz.zeroValue165
 t212:=Tryz.underlying149
 a212:=Tryz.isAgg149
 z212:=Tryz.sizeOf149
 v212:=Tryz.zeroValue149
 t213:=Tryz.underlying151
 a213:=Tryz.isAgg151
 z213:=Tryz.sizeOf151
 t232:=Tryz.underlying167
 a232:=Tryz.isAgg167
 z232:=Tryz.sizeOf167
 v232:=Tryz.zeroValue167
 t233:=Tryz.underlying168
 a233:=Tryz.isAgg168
 z233:=Tryz.sizeOf168
 v233:=Tryz.zeroValue168
 g15:=by kernel_rfl
 g16:=by kernel_rfl
 g17:=by kernel_rfl
 g18:=by kernel_rfl
 g19:=by kernel_rfl
 t80:=Tryz.underlying72
 a80:=Tryz.isAgg72
 z80:=Tryz.sizeOf72
 v80:=Tryz.zeroValue72
 i0:=by kernel_rfl
 i2:=by kernel_rfl
 i3:=by kernel_rfl
 i4:=by kernel_rfl
 i5:=by kernel_rfl
 i9:=by kernel_rfl
 i20:=by kernel_rfl
 i21:=by kernel_rfl
 i37:=by kernel_rfl
 i46:=by kernel_rfl
 i51:=by kernel_rfl
 i53:=by kernel_rfl
 i75:=by kernel_rfl
 i80:=by kernel_rfl
 i85:=by kernel_rfl
 i127:=by kernel_rfl
 i143:=by kernel_rfl
 i145:=by kernel_rfl
 i167:=by kernel_rfl
 i168:=by kernel_rfl
 i171:=by kernel_rfl
 i173:=by kernel_rfl
 i175:=by kernel_rfl
 i210:=by kernel_rfl
 i212:=by kernel_rfl
 i232:=by kernel_rfl
 i233:=by kernel_rfl
 m15:=by kernel_rfl
 m16:=by kernel_rfl
 m17:=by kernel_rfl
 m18:=by kernel_rfl
 m19:=by kernel_rfl
 c0:=by kernel_rfl
 c2:=by kernel_rfl
 c3:=by kernel_rfl
 c4:=by kernel_rfl
 c5:=by kernel_rfl
 c9:=by kernel_rfl
 c20:=by kernel_rfl
 c21:=by kernel_rfl
 c37:=by kernel_rfl
 c46:=by kernel_rfl
 c51:=by kernel_rfl
 c53:=by kernel_rfl
 c75:=by kernel_rfl
 c80:=by kernel_rfl
 c85:=by kernel_rfl
 c127:=by kernel_rfl
 c143:=by kernel_rfl
 c145:=by kernel_rfl
 c167:=by kernel_rfl
 c168:=by kernel_rfl
 c171:=by kernel_rfl
 c173:=by kernel_rfl
 c175:=by kernel_rfl
 c210:=by kernel_rfl
 c212:=by kernel_rfl
 c213:=by kernel_rfl
 c232:=by kernel_rfl
 c233:=by kernel_rfl }
open Go.RowKit in
theorem Tryz.strconv_ParseInt_10_at64_ok (s:ByteArray)(hmax:s.size<=9223372036854775806)(v:Int)(h:Lib.parseIntB 64 s.data.toList=.ok v)(w:World) :
  Calls Tryz.prog 121 #[.string s,.int .i64 10,.int .i64 64] w λ e w'=>e=.returned (.tuple #[.int .i64 v,.nilIface])/\(w'=w\/∃ t,w'=Lib.bytesWorld w 5 t):=Any.strconv_ParseInt_10_at64_ok Tryz.laysC174 s hmax v h w
open Go.RowKit in
theorem Tryz.strconv_ParseInt_10_at64_range (s:ByteArray)(hlim:s.size<=281474976710656)(h:Lib.parseIntB 64 s.data.toList=.range)(ev:Value)(w:World)(hv:w.cell? ⟨5,0,none⟩=some ev)(CL:ev=.nilIface\/∃ te pe,ev=.iface te pe) :
  Calls Tryz.prog 121 #[.string s,.int .i64 10,.int .i64 64] w λ e w'=>∃ N,e=.returned (.tuple #[.int .i64 (Lib.intSat 64 s.data.toList),.iface 156 (.pointer (some ⟨N,0,none⟩))])/\w.heap.size<=N/\w'.heap[N]? = some (.cells #[.string ⟨#[80,97,114,115,101,73,110,116]⟩,.string s,ev] 165 (0,0))/\Below w.heap.size w w':=Any.strconv_ParseInt_10_at64_range Tryz.laysC174 s hlim h ev w hv CL
open Go.RowKit in
theorem Tryz.strconv_ParseInt_10_at64_syntax (s:ByteArray)(hlim:s.size<=281474976710656)(h:Lib.parseIntB 64 s.data.toList=Lib.parseIntB 64 [])(ev:Value)(w:World)(hv:w.cell? ⟨4,0,none⟩=some ev)(CL:ev=.nilIface\/∃ te pe,ev=.iface te pe) :
  Calls Tryz.prog 121 #[.string s,.int .i64 10,.int .i64 64] w λ e w'=>∃ N,e=.returned (.tuple #[.int .i64 (0),.iface 156 (.pointer (some ⟨N,0,none⟩))])/\w.heap.size<=N/\w'.heap[N]? = some (.cells #[.string ⟨#[80,97,114,115,101,73,110,116]⟩,.string s,ev] 165 (0,0))/\Below w.heap.size w w':=Any.strconv_ParseInt_10_at64_syntax Tryz.laysC174 s hlim h ev w hv CL
def Tryz.lays197_ren:Go.Shelf.Ren:=⟨λ|197=>116|260=>137|n=>n,λ|9=>9|21=>21|3=>3|4=>4|5=>5|105=>123|119=>117|0=>0|46=>112|139=>120|138=>119|n=>n,λ|3=>0|4=>1|n=>n⟩
theorem Tryz.lays197:Go.Proofs.Lays.n197 Tryz.prog Tryz.lays197_ren:={
 mixed:=by kernel_rfl
 f197:=Tryz.func116.trans (congrArg some (by kernel_rfl))
 f260:=Tryz.func137.trans (congrArg some (by kernel_rfl))
 t0:=Tryz.underlying0
 a0:=Tryz.isAgg0
 z0:=Tryz.sizeOf0
 v0:=Tryz.zeroValue0
 t3:=Tryz.underlying3
 a3:=Tryz.isAgg3
 z3:=Tryz.sizeOf3
 v3:=Tryz.zeroValue3
 t4:=Tryz.underlying4
 a4:=Tryz.isAgg4
 z4:=Tryz.sizeOf4
 v4:=Tryz.zeroValue4
 t5:=Tryz.underlying5
 a5:=Tryz.isAgg5
 z5:=Tryz.sizeOf5
 v5:=Tryz.zeroValue5
 t9:=Tryz.underlying9
 a9:=Tryz.isAgg9
 z9:=Tryz.sizeOf9
 v9:=Tryz.zeroValue9
 t21:=Tryz.underlying21
 a21:=Tryz.isAgg21
 z21:=Tryz.sizeOf21
 v21:=Tryz.zeroValue21
 t46:=Tryz.underlying112
 a46:=Tryz.isAgg112
 z46:=Tryz.sizeOf112
 v46:=Tryz.zeroValue112
 t105:=Tryz.underlying123
 a105:=Tryz.isAgg123
 z105:=Tryz.sizeOf123
 v105:=Tryz.zeroValue123
 t119:=Tryz.underlying117
 a119:=Tryz.isAgg117
 z119:=Tryz.sizeOf117
 t138:=Tryz.underlying119
 a138:=Tryz.isAgg119
 z138:=Tryz.sizeOf119
 v138:=Tryz.zeroValue119
 t139:=Tryz.underlying120
 a139:=Tryz.isAgg120
 z139:=Tryz.sizeOf120
 v139:=Tryz.zeroValue120
 g3:=by kernel_rfl
 g4:=by kernel_rfl }
open Go.RowKit Go.Lib in
theorem Tryz.utf8_DecodeRuneInString (s:ByteArray)(w:World)(hT:Lib.Utf8Tabs 0 1 w) :
  Calls Tryz.prog 116 #[.string s] w λ e w'=>e=.returned (.tuple #[.int .i32 (Lib.decodeGo s).1,.int .i64 (Lib.decodeGo s).2])/\Below w.heap.size w w':=Any.utf8_DecodeRuneInString Tryz.lays197 s w hT
def Tryz.lays153_ren:Go.Shelf.Ren:=⟨λ|153=>66|152=>92|226=>93|227=>94|228=>95|137=>122|119=>123|224=>124|225=>125|217=>142|266=>158|n=>n,λ|9=>9|3=>3|4=>4|5=>5|21=>21|117=>108|116=>107|0=>0|46=>112|124=>134|n=>n,λ|n=>n⟩
theorem Tryz.lays153:Go.Proofs.Lays.n153 Tryz.prog Tryz.lays153_ren:={
 mixed:=by kernel_rfl
 f119:=Tryz.func123.trans (congrArg some (by kernel_rfl))
 f137:=Tryz.func122.trans (congrArg some (by kernel_rfl))
 f152:=Tryz.func92.trans (congrArg some (by kernel_rfl))
 f153:=Tryz.func66.trans (congrArg some (by kernel_rfl))
 f217:=Tryz.func142.trans (congrArg some (by kernel_rfl))
 f224:=Tryz.func124.trans (congrArg some (by kernel_rfl))
 f225:=Tryz.func125.trans (congrArg some (by kernel_rfl))
 f226:=Tryz.func93.trans (congrArg some (by kernel_rfl))
 f227:=Tryz.func94.trans (congrArg some (by kernel_rfl))
 f228:=Tryz.func95.trans (congrArg some (by kernel_rfl))
 f266:=Tryz.func158.trans (congrArg some (by kernel_rfl))
 t0:=Tryz.underlying0
 a0:=Tryz.isAgg0
 z0:=Tryz.sizeOf0
 v0:=Tryz.zeroValue0
 t3:=Tryz.underlying3
 a3:=Tryz.isAgg3
 z3:=Tryz.sizeOf3
 v3:=Tryz.zeroValue3
 t4:=Tryz.underlying4
 a4:=Tryz.isAgg4
 z4:=Tryz.sizeOf4
 v4:=Tryz.zeroValue4
 t5:=Tryz.underlying5
 a5:=Tryz.isAgg5
 z5:=Tryz.sizeOf5
 v5:=Tryz.zeroValue5
 t9:=Tryz.underlying9
 a9:=Tryz.isAgg9
 z9:=Tryz.sizeOf9
 v9:=Tryz.zeroValue9
 t21:=Tryz.underlying21
 a21:=Tryz.isAgg21
 z21:=Tryz.sizeOf21
 v21:=Tryz.zeroValue21
 t46:=Tryz.underlying112
 a46:=Tryz.isAgg112
 z46:=Tryz.sizeOf112
 v46:=Tryz.zeroValue112
 t116:=Tryz.underlying107
 a116:=Tryz.isAgg107
 z116:=Tryz.sizeOf107
 t117:=Tryz.underlying108
 a117:=Tryz.isAgg108
 z117:=Tryz.sizeOf108
 v117:=Tryz.zeroValue108
 t124:=Tryz.underlying134
 a124:=Tryz.isAgg134
 z124:=Tryz.sizeOf134
 v124:=Tryz.zeroValue134 }
open Go.RowKit Go.Lib in
theorem Tryz.strings_IndexAny_long (hv116:∀ w,(zeroValue 107).run Tryz.prog w=.ok (.agg (Array.replicate 256 (.bool false))) w)(s chars:ByteArray)(w:World)(h2:2<=chars.size)(h8:8<s.size)(hs:s.size<4294967281)(CJ:chars.size<4294967281)(hascii:∀ (j:Nat) b,chars.data.toList[j]? = some b->b.toNat<128) :
  Calls Tryz.prog 66 #[.string s,.string chars] w λ e w'=>e=.returned (.int .i64 (Lib.indexAny s.data.toList chars.data.toList))/\w'=((w.alloc (.cells (Lib.setCells chars.data.toList) 107)).alloc (.cells (Lib.setCells chars.data.toList) 107)):=Any.strings_IndexAny_long Tryz.lays153 hv116 (by kernel_rfl) s chars w h2 h8 hs CJ hascii
def Tryz.lays152_ren:Go.Shelf.Ren:=⟨λ|152=>92|137=>122|119=>123|224=>124|225=>125|217=>142|266=>158|n=>n,λ|9=>9|21=>21|3=>3|4=>4|5=>5|0=>0|46=>112|n=>n,λ|n=>n⟩
theorem Tryz.lays152:Go.Proofs.Lays.n152 Tryz.prog Tryz.lays152_ren:={
 mixed:=by kernel_rfl
 f119:=Tryz.func123.trans (congrArg some (by kernel_rfl))
 f137:=Tryz.func122.trans (congrArg some (by kernel_rfl))
 f152:=Tryz.func92.trans (congrArg some (by kernel_rfl))
 f217:=Tryz.func142.trans (congrArg some (by kernel_rfl))
 f224:=Tryz.func124.trans (congrArg some (by kernel_rfl))
 f225:=Tryz.func125.trans (congrArg some (by kernel_rfl))
 f266:=Tryz.func158.trans (congrArg some (by kernel_rfl))
 t0:=Tryz.underlying0
 a0:=Tryz.isAgg0
 z0:=Tryz.sizeOf0
 v0:=Tryz.zeroValue0
 t3:=Tryz.underlying3
 a3:=Tryz.isAgg3
 z3:=Tryz.sizeOf3
 v3:=Tryz.zeroValue3
 t4:=Tryz.underlying4
 a4:=Tryz.isAgg4
 z4:=Tryz.sizeOf4
 v4:=Tryz.zeroValue4
 t5:=Tryz.underlying5
 a5:=Tryz.isAgg5
 z5:=Tryz.sizeOf5
 v5:=Tryz.zeroValue5
 t9:=Tryz.underlying9
 a9:=Tryz.isAgg9
 z9:=Tryz.sizeOf9
 v9:=Tryz.zeroValue9
 t21:=Tryz.underlying21
 a21:=Tryz.isAgg21
 z21:=Tryz.sizeOf21
 v21:=Tryz.zeroValue21
 t46:=Tryz.underlying112
 a46:=Tryz.isAgg112
 z46:=Tryz.sizeOf112
 v46:=Tryz.zeroValue112 }
open Go.RowKit Go.Lib in
theorem Tryz.strings_IndexRune_ascii (s:ByteArray)(r:Int)(w:World)(h0:0<=r)(h1:r<128) :
  Calls Tryz.prog 92 #[.string s,.int .i32 r] w λ e w'=>e=.returned (.int .i64 (Lib.indexByte s.data.toList r.toNat.toUInt8))/\w'=w:=Any.strings_IndexRune_ascii Tryz.lays152 s r w h0 h1
def Tryz.lays196_ren:Go.Shelf.Ren:=⟨λ|196=>78|259=>108|n=>n,λ|9=>9|4=>4|3=>3|5=>5|12=>12|119=>117|0=>0|46=>112|139=>120|138=>119|53=>138|n=>n,λ|3=>0|4=>1|n=>n⟩
theorem Tryz.lays196:Go.Proofs.Lays.n196 Tryz.prog Tryz.lays196_ren:={
 mixed:=by kernel_rfl
 f196:=Tryz.func78.trans (congrArg some (by kernel_rfl))
 f259:=Tryz.func108.trans (congrArg some (by kernel_rfl))
 t0:=Tryz.underlying0
 a0:=Tryz.isAgg0
 z0:=Tryz.sizeOf0
 v0:=Tryz.zeroValue0
 t3:=Tryz.underlying3
 a3:=Tryz.isAgg3
 z3:=Tryz.sizeOf3
 v3:=Tryz.zeroValue3
 t4:=Tryz.underlying4
 a4:=Tryz.isAgg4
 z4:=Tryz.sizeOf4
 v4:=Tryz.zeroValue4
 t5:=Tryz.underlying5
 a5:=Tryz.isAgg5
 z5:=Tryz.sizeOf5
 v5:=Tryz.zeroValue5
 t9:=Tryz.underlying9
 a9:=Tryz.isAgg9
 z9:=Tryz.sizeOf9
 v9:=Tryz.zeroValue9
 t12:=Tryz.underlying12
 a12:=Tryz.isAgg12
 z12:=Tryz.sizeOf12
 v12:=Tryz.zeroValue12
 t46:=Tryz.underlying112
 a46:=Tryz.isAgg112
 z46:=Tryz.sizeOf112
 v46:=Tryz.zeroValue112
 t53:=Tryz.underlying138
 a53:=Tryz.isAgg138
 z53:=Tryz.sizeOf138
 v53:=Tryz.zeroValue138
 t119:=Tryz.underlying117
 a119:=Tryz.isAgg117
 z119:=Tryz.sizeOf117
 t138:=Tryz.underlying119
 a138:=Tryz.isAgg119
 z138:=Tryz.sizeOf119
 v138:=Tryz.zeroValue119
 t139:=Tryz.underlying120
 a139:=Tryz.isAgg120
 z139:=Tryz.sizeOf120
 v139:=Tryz.zeroValue120
 g3:=by kernel_rfl
 g4:=by kernel_rfl }
open Go.RowKit Go.Lib in
theorem Tryz.utf8_ValidString (s:ByteArray)(w:World)(hs:s.size<=9223372036854775807)(hT:Lib.Utf8Tabs 0 1 w):Calls Tryz.prog 78 #[.string s] w λ e w'=>e=.returned (.bool (Lib.validD s.data.toList))/\Below w.heap.size w w':=Any.utf8_ValidString Tryz.lays196 s w hs hT
def Tryz.lays226_ren:Go.Shelf.Ren:=⟨λ|226=>93|n=>n,λ|3=>3|4=>4|n=>n,λ|n=>n⟩
theorem Tryz.lays226:Go.Proofs.Lays.n226 Tryz.prog Tryz.lays226_ren:={
 mixed:=by kernel_rfl
 f226:=Tryz.func93.trans (congrArg some (by kernel_rfl))
 t3:=Tryz.underlying3
 a3:=Tryz.isAgg3
 z3:=Tryz.sizeOf3
 v3:=Tryz.zeroValue3
 t4:=Tryz.underlying4
 a4:=Tryz.isAgg4
 z4:=Tryz.sizeOf4
 v4:=Tryz.zeroValue4 }
open Go.RowKit Go.Lib in
theorem Tryz.strings_shouldUseASCIISet (n:Int)(w:World) :
  Calls Tryz.prog 93 #[.int .i64 n] w λ e w'=>e=.returned (.bool (decide (8<n)))/\w'=w:=Any.strings_shouldUseASCIISet Tryz.lays226 n w
end Go.Proofs
end
section
namespace Go.Ab
open Go.Proofs Go.RowKit
def strings_IndexByte (s:Bk)(c:Int):Option Int:=some (Lib.indexByte s c.toNat.toUInt8)
theorem ky (CB:Bk)(c_1:Int)(r:Int)(h0:strings_IndexByte CB c_1=some r):au Tryz.prog 122 [eS CB,eK .u8 c_1] (·=.p (eI r)):=by
 cases h0
 refine au.of_calls (l:=[.string (str CB),.int .u8 c_1]) λ w st hok=>(Tryz.strings_IndexByte _ _ w).mono ?_;rintro e w' ⟨rfl,rfl⟩;rw [fT];exact ⟨_,rfl,jW _,λ _=>.p (.val _)⟩
def eC (r:Int):Option Bool:=some (Lib.validRune r)
theorem fK (r_0:Int)(r:Bool)(h0:eC r_0=some r):au Tryz.prog 123 [eK .i32 r_0] (·=.p (eB r)):=by
 cases h0
 refine au.of_calls (l:=[.int .i32 r_0]) λ w st hok=>(Tryz.utf8_ValidRune _ w).mono ?_;rintro e w' ⟨rfl,rfl⟩;exact ⟨_,rfl,jW _,λ _=>.p (.val _)⟩
theorem t1 {w:World}{g:Gh}{a b:Value}:ARep w g (.tuple [.p (.val a),.p (.val b)]) (.tuple #[a,b]):=by
 refine .tuple Z λ i c v h1 h2=>?_
 match i,h1,h2 with
 | 0,h1,h2=>simp at h1 h2; subst h1 h2; exact .p (.val _)
 | 1,h1,h2=>simp at h1 h2; subst h1 h2; exact .p (.val _)
 | n+2,h1,_=>simp at h1
def strings_HasPrefix (s p:Bk):Option Bool:=some (Lib.hasPrefix s p)
theorem kQ (CB p_1:Bk)(r:Bool)(h0:strings_HasPrefix CB p_1=some r):au Tryz.prog 89 [eS CB,eS p_1] (·=.p (eB r)):=by
 cases h0
 refine au.of_calls (l:=[.string (str CB),.string (str p_1)]) λ w st hok=>(Tryz.strings_HasPrefix _ _ w).mono ?_;rintro e w' ⟨rfl,rfl⟩;rw [fT,fT];exact ⟨_,rfl,jW _,λ _=>.p (.val _)⟩
def strconv_Itoa (n:Int):Option Bk:=ck (inR n)<|some (Lib.itoa n)
theorem oh (i_0:Int)(r:Bk)(h0:strconv_Itoa i_0=some r):au Tryz.prog 80 [eI i_0] (·=.p (eS r)):=by
 obtain ⟨hr,h0⟩:=cU h0
 cases h0
 refine au.of_calls (l:=[.int .i64 i_0]) λ w st hok=>(Tryz.strconv_Itoa _ hr.1 hr.2 w (x8 hok.gl (g:=3) rfl (by kernel_rfl) (by kernel_rfl) (by decide))).mono ?_;rintro e w' ⟨rfl,k,os,rfl⟩;exact ⟨_,rfl,Lib.below_grow _ w (bt _) k os,λ _=>.p (.val _)⟩
theorem xr:(List.range 256).all (λ c=>match sM[c]? with|some (.int .u8 n)=>n==(Lib.firstT c:Int)|_=>false)=true:=by kernel_rfl
theorem zR:(List.range 16).all (λ c=>(match yc[2*c]? with|some (.int .u8 n)=>n==(Lib.accLo c:Int)|_=>false)&&(match yc[2*c+1]? with|some (.int .u8 n)=>n==(Lib.accHi c:Int)|_=>false))=true:=by kernel_rfl
theorem yz {o:Option GC}{m:Int}(h:(match o with|some (.int .u8 n)=>n==m|_=>false)=true):o=some (.int .u8 m):=by
 split at h
 ·rw [eq_of_beq h]
 ·cases h
theorem tF {w:World}{st:Nat->Nat->Prop}(h:iE w st):Lib.Utf8Tabs 0 1 w:=by
 refine ⟨λ c hc=>kp h Z (yz (qr.1 xr c (by simpa using hc))),λ i hi=>?_⟩;have:=qr.1 zR i (by simpa using hi);simp only [n7] at this;exact ⟨kp h Z (yz this.1),kp h Z (yz this.2)⟩
def d9 (s:Bk):Option (Int×Int):=some ((Lib.decodeGo (str s)).1,(Lib.decodeGo (str s)).2)
theorem gj (CB:Bk)(r:Int×Int)(h0:d9 CB=some r):au Tryz.prog 116 [eS CB] (·=.tuple [.p (eK .i32 r.1),.p (eI r.2)]):=by
 cases h0
 refine au.of_calls (l:=[.string (str CB)]) λ w st hok=>(Tryz.utf8_DecodeRuneInString _ w (tF hok.gl)).mono ?_;rintro e w' ⟨rfl,hB⟩;exact ⟨_,rfl,hB,λ _=>t1⟩
def cW (s:Bk):Option Bool:=ck (s.length<=9223372036854775807)<|some (Lib.validD s)
theorem iI (CB:Bk)(r:Bool)(h0:cW CB=some r):au Tryz.prog 78 [eS CB] (·=.p (eB r)):=by
 obtain ⟨hl,h0⟩:=cU h0
 cases h0
 refine au.of_calls (l:=[.string (str CB)]) λ w st hok=>(Tryz.utf8_ValidString _ w (by rw [fk]; exact hl) (tF hok.gl)).mono ?_;rintro e w' ⟨rfl,hB⟩;rw [fT];exact ⟨_,rfl,hB,λ _=>.p (.val _)⟩
theorem tl (w:World)(e:TypeId)(t:ByteArray):Below w.heap.size w (Lib.bytesWorld w e t) :=
 ⟨Z,Z,Z,by rw [Lib.bytesWorld_size]; omega,λ k hk=>Lib.bytesWorld_at_old w e t k hk⟩
def jT (s:Bk)(b z:Int):Option (Int×Bool):=ck (b=10/\z=64/\s.length<=281474976710656)<|some (match Lib.parseIntB 64 s with|.ok v=>(v,false)|.range=>(Lib.intSat 64 s,true)|_=>(0,true))
theorem vL {w:World}{g:Gh}{a:Int}{t:TypeId}{v:Value}:ARep w g (.tuple [.p (eI a),.p (eE true)]) (.tuple #[.int .i64 a,.iface t v]):=by
 refine .tuple Z λ i c v h1 h2=>?_
 match i,h1,h2 with
 | 0,h1,h2=>simp at h1 h2; subst h1 h2; exact .p (.val _)
 | 1,h1,h2=>simp at h1 h2; subst h1 h2; exact .p (.ifc _ _)
 | n+2,h1,_=>simp at h1
theorem lB (CB:Bk)(base_1 bitSize_2:Int)(r:Int×Bool)(h0:jT CB base_1 bitSize_2=some r):au Tryz.prog 121 [eS CB,eI base_1,eI bitSize_2] (·=.tuple [.p (eI r.1),.p (eE r.2)]):=by
 obtain ⟨⟨rfl,rfl,hl⟩,h1⟩:=cU h0;have CC:(str CB).size<=281474976710656:=by rw [fk]; exact hl
 refine au.of_calls (l:=[.string (str CB),.int .i64 10,.int .i64 64]) λ w st hok=>?_
 cases hp:Lib.parseIntB 64 CB with
 | ok v=>
  rw [hp] at h1; cases h1;refine (Tryz.strconv_ParseInt_10_at64_ok (str CB) O v (by rw [fT]; exact hp) w).mono ?_;rintro e w' ⟨rfl,h⟩;refine ⟨_,rfl,?_,λ _=>t1⟩;rcases h with rfl|⟨t,rfl⟩
  ·exact jW _
  ·exact tl _ _ _
 | range=>
  rw [hp] at h1; cases h1;obtain ⟨t,v,hv⟩:=tM hok.gl (g:=5) (j:=0) rfl rfl;refine (Tryz.strconv_ParseInt_10_at64_range (str CB) CC (by rw [fT]; exact hp) _ w hv (.inr ⟨_,_,rfl⟩)).mono ?_;rintro e w' ⟨N,rfl,_,_,hB⟩;rw [fT];exact ⟨_,rfl,hB,λ _=>vL⟩
 | _=>
  rw [hp] at h1; cases h1;obtain ⟨t,v,hv⟩:=tM hok.gl (g:=4) (j:=0) rfl rfl;refine (Tryz.strconv_ParseInt_10_at64_syntax (str CB) CC (by rw [fT]; exact hp) _ w hv (.inr ⟨_,_,rfl⟩)).mono ?_;rintro e w' ⟨N,rfl,_,_,hB⟩;exact ⟨_,rfl,hB,λ _=>vL⟩
end Go.Ab
namespace Go.Ab
open Go.Proofs Go.RowKit Go
def hexDigit (n:Nat):UInt8:=if n<10 then UInt8.ofNat (48+n) else UInt8.ofNat (87+n)
def jt (u:Nat):Bk:=if u<16 then [hexDigit u] else [hexDigit (u / 16),hexDigit (u%16)]
set_option maxRecDepth 100000 in
theorem tz16 (w:World)(hT:w.cell? ⟨7,15,none⟩=some (.int .u8 4)) :
  Calls Tryz.prog 163 #[.int .u64 16] w λ e w'=>e=.returned (.int .i64 4)/\w'=w:=by
 have hq:IntKind.u64.wrap (Go.bits BinOp.and IntKind.u64 16 (IntKind.u64.wrap (-16))*285870213051353865) / 288230376151711744=15:=by kernel_rfl
 go_enter Tryz.func163,Tryz.ntmps163
 go_wp2
 go_ret
 exact ⟨Z,Z⟩
set_option maxRecDepth 100000 in
theorem pow2 (w:World):Calls Tryz.prog 150 #[.int .i64 16] w λ e w'=>e=.returned (.bool true)/\w'=w:=by
 have hq:bits BinOp.and IntKind.i64 16 15=0:=by kernel_rfl
 go_enter Tryz.func150,Tryz.ntmps150
 go_wp2
 go_ret
 exact ⟨Z,Z⟩
set_option maxRecDepth 100000 in
theorem tz (w:World)(hT:w.cell? ⟨7,15,none⟩=some (.int .u8 4)) :
  Calls Tryz.prog 151 #[.int .u64 16] w λ e w'=>e=.returned (.int .i64 4)/\w'=w:=by
 have HC:=tz16 w hT
 clear hT
 go_enter Tryz.func151,Tryz.ntmps151
 go_wp2_with (go_at_call 163; refine HC.mono ?_; rintro e w' ⟨rfl,rfl⟩)
 go_ret
 exact ⟨Z,Z⟩
end Go.Ab
namespace Go.Ab
open Go.Proofs Go.RowKit Go
abbrev digs:ByteArray:={ data:=#[48,49,50,51,52,53,54,55,56,57,97,98,99,100,101,102,103,104,105,106,107,108,109,110,111,112,113,114,115,116,117,118,119,120,121,122] }
def dig (n:Nat)(h:n<36):UInt8:=digs[n]'(by show n<36; exact h)
theorem u2 (n:Nat)(h:n<36):(({ data:=#[48,49,50,51,52,53,54,55,56,57,97,98,99,100,101,102,103,104,105,106,107,108,109,110,111,112,113,114,115,116,117,118,119,120,121,122] }:ByteArray)[n]'(by show n<36; exact h))=dig n h:=rfl
set_option maxRecDepth 100000 in
theorem fb (u:Int)(h0:0<=u)(h1:u<16)(w:World)(hT:w.cell? ⟨7,15,none⟩=some (.int .u8 4)) :
  Calls Tryz.prog 136 #[.slice none 0 0,.int .u64 u,.int .i64 16,.bool false,.bool false] w λ e w'=>e=.returned (.tuple #[.slice none 0 0,.string ⟨[dig u.toNat O].toArray⟩])/\Below w.heap.size w w':=by
 have hlt:(7:Nat)<w.heap.size:=by
  rcases Nat.lt_or_ge 7 w.heap.size with h|h
  ·exact h
  ·simp [World.cell?,Array.getElem?_eq_none h] at hT
 have HZ:Hid (∀ o,Calls Tryz.prog 151 #[.int .u64 16] (w.alloc o) λ e w'=>e=.returned (.int .i64 4)/\w'=w.alloc o):=λ o=>tz (w.alloc o) ((World.cell?_alloc_lt w _ _ hlt).trans hT)
 clear hT
 go_enter Tryz.func136,Tryz.ntmps136
 go_wp2_with (first|(go_at_call 150; refine (pow2 _).mono ?_; rintro e w' ⟨rfl,rfl⟩)|(go_at_call 151; refine (HZ.out _).mono ?_; rintro e w' ⟨rfl,rfl⟩))
 go_loopg [1,13] 1 (λ g uv iv wx=>g=1/\uv=.int .u64 u/\iv=.int .i64 65/\wx=w.alloc (.cells Tryz.zeroCells151 151))
 case atStart=>exact ⟨rfl,rfl,rfl,rfl⟩
 case round=>
  obtain ⟨rfl,rfl,rfl,rfl⟩:=hrel;have hlt16:decide ((16:Int)<=u)=false:=decide_eq_false O
  go_wp2
  rw [u2 u.toNat O];generalize hd:dig u.toNat O =dg
  have hcv:=run_convert_bytes_back (P:=Tryz.prog) (w.alloc (.cells (Tryz.zeroCells151.setIfInBounds 64 (.int .u8 dg.toNat)) 151)) 63 9 5 ⟨w.heap.size,64,none⟩ 1 [dg] Tryz.underlying63 Tryz.underlying5 Tryz.underlying9 (λ j hj=>by
   have:j=0:=by simpa using hj
   subst this;rw [add_lit,Nat.add_zero,World.cell?_alloc_new]
   rfl)
  rw [show [dg].length=1 from rfl] at hcv;rw [hcv];simp only [Result.andThen];rw [Oper.upon_value]
  go_wp2
  go_ret2
  subst hd;exact ⟨rfl,(Below.refl _ w).alloc (bt _) _⟩
theorem Ck:(List.range 256).all (λ n=>Go.bits BinOp.and IntKind.u64 (n:Int) 15==((n%16:Nat):Int))=true:=by kernel_rfl
set_option maxRecDepth 100000 in
theorem fb2 (u:Nat)(h0:16<=u)(h1:u<256)(w:World)(hT:w.cell? ⟨7,15,none⟩=some (.int .u8 4)) :
  Calls Tryz.prog 136 #[.slice none 0 0,.int .u64 u,.int .i64 16,.bool false,.bool false] w λ e w'=>e=.returned (.tuple #[.slice none 0 0,.string ⟨[dig (u / 16) O,dig (u%16) O].toArray⟩])/\Below w.heap.size w w':=by
 have hlt:(7:Nat)<w.heap.size:=by
  rcases Nat.lt_or_ge 7 w.heap.size with h|h
  ·exact h
  ·simp [World.cell?,Array.getElem?_eq_none h] at hT
 have HZ:Hid (∀ o,Calls Tryz.prog 151 #[.int .u64 16] (w.alloc o) λ e w'=>e=.returned (.int .i64 4)/\w'=w.alloc o):=λ o=>tz (w.alloc o) ((World.cell?_alloc_lt w _ _ hlt).trans hT)
 clear hT
 have hand:Go.bits BinOp.and IntKind.u64 (u:Int) 15=((u%16:Nat):Int):=eq_of_beq (qr.1 Ck u (List.mem_range.2 h1))
 go_enter Tryz.func136,Tryz.ntmps136
 go_wp2_with (first|(go_at_call 150; refine (pow2 _).mono ?_; rintro e w' ⟨rfl,rfl⟩)|(go_at_call 151; refine (HZ.out _).mono ?_; rintro e w' ⟨rfl,rfl⟩))
 go_loopg [1,13] 1 (λ g uv iv wx=>(g=1/\uv=.int .u64 u/\iv=.int .i64 65/\wx=w.alloc (.cells Tryz.zeroCells151 151))\/(g=0/\uv=.int .u64 ((u / 16:Nat):Int)/\iv=.int .i64 64/\wx=w.alloc (.cells (Tryz.zeroCells151.setIfInBounds 64 (.int .u8 (dig (u%16) O).toNat)) 151)))
 case atStart=>exact .inl ⟨rfl,rfl,rfl,rfl⟩
 case round=>
  rcases hrel with ⟨rfl,rfl,rfl,rfl⟩|⟨rfl,rfl,rfl,rfl⟩
  ·have hlt16:decide ((16:Int)<=(u:Int))=true:=decide_eq_true O
   go_wp2
   rw [u2 (u%16) O]
   go_roundg 0
   case measure=>omega
   case rel=>exact .inr ⟨rfl,by rw [Int.natCast_ediv]; rfl,rfl,rfl⟩
  ·have hlt16:decide ((16:Int)<=((u / 16:Nat):Int))=false:=decide_eq_false O
   go_wp2
   rw [u2 (u / 16) O];generalize hd:dig (u / 16) O =d1;generalize he:dig (u%16) O =d0
   have hcv:=run_convert_bytes_back (P:=Tryz.prog) (w.alloc (.cells ((Tryz.zeroCells151.setIfInBounds 64 (.int .u8 d0.toNat)).setIfInBounds 63 (.int .u8 d1.toNat)) 151)) 63 9 5 ⟨w.heap.size,63,none⟩ 2 [d1,d0] Tryz.underlying63 Tryz.underlying5 Tryz.underlying9 (λ j hj=>by
    have:j=0\/j=1:=by simp at hj; omega
    rcases this with rfl|rfl
    ·rw [add_lit,Nat.add_zero,World.cell?_alloc_new]
     rfl
    ·rw [add_lit,World.cell?_alloc_new]
     rfl)
   rw [show [d1,d0].length=2 from rfl] at hcv;rw [hcv];simp only [Result.andThen];rw [Oper.upon_value]
   go_wp2
   go_ret2
   subst hd he;exact ⟨rfl,(Below.refl _ w).alloc (bt _) _⟩
end Go.Ab
namespace Go.Ab
open Go.Proofs Go.RowKit Go
theorem zV:∀ n:Fin 16,dig n.1 (Nat.lt_of_lt_of_le n.2 (by decide))=hexDigit n.1:=by decide
theorem oZ (n:Nat)(h:n<16)(h':n<36):dig n h'=hexDigit n:=zV ⟨n,h⟩
theorem Cr (u:Nat)(h1:u<256)(w:World)(hT:w.cell? ⟨7,15,none⟩=some (.int .u8 4)) :
  Calls Tryz.prog 136 #[.slice none 0 0,.int .u64 u,.int .i64 16,.bool false,.bool false] w λ e w'=>e=.returned (.tuple #[.slice none 0 0,.string ⟨(jt u).toArray⟩])/\Below w.heap.size w w':=by
 by_cases h:u<16
 ·have:=fb u O O  w hT
  rwa [oZ _ O _,Int.toNat_natCast,show [hexDigit u]=jt u from (if_pos h).symm] at this
 ·have:=fb2 u O h1 w hT
  rwa [oZ (u / 16) O _,oZ (u%16) O _,show [hexDigit (u / 16),hexDigit (u%16)]=jt u from (if_neg h).symm] at this
set_option maxRecDepth 100000 in
theorem fint (u:Nat)(h1:u<256)(w:World)(hT:w.cell? ⟨7,15,none⟩=some (.int .u8 4)) :
  Calls Tryz.prog 111 #[.int .i64 u,.int .i64 16] w λ e w'=>e=.returned (.string ⟨(jt u).toArray⟩)/\Below w.heap.size w w':=by
 have HC:Hid _:=Cr u h1 w hT
 clear hT
 have hneg:decide ((u:Int)<0)=false:=decide_eq_false O;generalize jt u=tx at HC ⊢
 go_enter Tryz.func111,Tryz.ntmps111
 go_wp2_with (go_at_call 136; refine Calls.mono HC.out ?_; rintro e w' ⟨rfl,hB⟩)
 go_ret
 exact ⟨Z,hB⟩
set_option maxRecDepth 100000 in
theorem Cc (u:Nat)(h1:u<256)(w:World)(hT:w.cell? ⟨7,15,none⟩=some (.int .u8 4)) :
  Calls Tryz.prog 82 #[.int .i64 u,.int .i64 16] w λ e w'=>e=.returned (.string ⟨(jt u).toArray⟩)/\Below w.heap.size w w':=by
 have HC:Hid _:=fint u h1 w hT
 clear hT
 generalize jt u=tx at HC ⊢
 go_enter Tryz.func82,Tryz.ntmps82
 go_wp2_with (go_at_call 111; refine Calls.mono HC.out ?_; rintro e w' ⟨rfl,hB⟩)
 go_ret
 exact ⟨Z,hB⟩
def jx (i b:Int):Option Bk:=ck (b=16/\0<=i/\i<256)<|some (jt i.toNat)
theorem kI (i_0 base_1:Int)(r:Bk)(h0:jx i_0 base_1=some r):au Tryz.prog 82 [eI i_0,eI base_1] (·=.p (eS r)):=by
 obtain ⟨⟨rfl,h1,h2⟩,h3⟩:=cU h0
 cases h3
 obtain ⟨u,rfl⟩:∃ u:Nat,i_0=u:=⟨i_0.toNat,by omega⟩
 refine au.of_calls (l:=[.int .i64 u,.int .i64 16]) λ w st hok=>(Cc u O w (kp hok.gl rfl (by kernel_rfl))).mono ?_;rintro e w' ⟨rfl,hB⟩;exact ⟨_,rfl,hB,λ _=>.p (.val _)⟩
end Go.Ab
namespace Go.Ab
open Go.Proofs Go.RowKit Go
theorem decN (n b0 b1 b2 b3:Nat)(hn:1<=n)(h0:b0<256):1<=(Lib.decodeN n b0 b1 b2 b3).2/\(Lib.decodeN n b0 b1 b2 b3).2<=n/\(Lib.decodeN n b0 b1 b2 b3).2<=4 /\
  ((Lib.decodeN n b0 b1 b2 b3).1<128->(Lib.decodeN n b0 b1 b2 b3).2=1/\(Lib.decodeN n b0 b1 b2 b3).1=b0) /\
  (128<=(Lib.decodeN n b0 b1 b2 b3).1->128<=b0/\(2<=(Lib.decodeN n b0 b1 b2 b3).2->128<=b1)/\(3<=(Lib.decodeN n b0 b1 b2 b3).2->128<=b2)/\(4<=(Lib.decodeN n b0 b1 b2 b3).2->128<=b3)) /\
  ((Lib.decodeN n b0 b1 b2 b3).1<55296\/(57343<(Lib.decodeN n b0 b1 b2 b3).1/\(Lib.decodeN n b0 b1 b2 b3).1<=1114111)):=by
 unfold Lib.decodeN
 repeat' split
 all_goals (refine ⟨by dsimp only; omega,by dsimp only; omega,by dsimp only; omega,λ h=>⟨by dsimp only at h ⊢; first|done|omega,by dsimp only at h ⊢; first|done|omega⟩,λ h=>⟨by dsimp only at h; omega,λ k=>by dsimp only at k; omega,λ k=>by dsimp only at k; omega,λ k=>by dsimp only at k; omega⟩,by dsimp only; omega⟩)
end Go.Ab
namespace Go.Ab
open Go.Proofs Go.RowKit Go
abbrev oj:ByteArray:={ data:=#[46,91] }
theorem z7 {P:Program}(w:World)(b:Nat)(s:ByteArray)(pos:Nat)(ty:TypeId)(h:pos<s.size)(hb:w.heap[b]? = some (.stringIter s pos)) :
  (Instr.next (.pointer (some ⟨b,0,none⟩)) true ty).run P w=.ok (.tuple #[.bool true,.int .i64 pos,.int .i32 (Utf8.decode s pos).1]) { w with heap:=w.heap.setIfInBounds b (.stringIter s (pos+(Utf8.decode s pos).2)) }:=by
 simp only [Instr.next,getObj,setObj,Sem.run_bind,Sem.run,hb,Result.andThen,h,if_true];simp [goInt,Sem.run,hb]
theorem yQ {P:Program}(w:World)(b:Nat)(s:ByteArray)(pos:Nat)(ty:TypeId)(h:¬ pos<s.size)(hb:w.heap[b]? = some (.stringIter s pos)) :
  (Instr.next (.pointer (some ⟨b,0,none⟩)) true ty).run P w=.ok (.tuple #[.bool false]) w:=by
 simp [Instr.next,getObj,Sem.run,hb,h]
theorem sP (s:ByteArray)(k:Nat)(h:k<s.size):s.data.toList[k]? = some (s.get! k):=by
 have:s.get! k=s[k]'h:=by
  simp [ByteArray.get!,getElem!_pos,h]
  rfl
 rw [this]; exact Lib.data_getElem? s k h
theorem yA (s:ByteArray)(i:Nat)(h:i<s.size):∃ c k:Nat,Utf8.decode s i=(c,k)/\1<=k/\i+k<=s.size/\(c<128->k=1/\∃ x:UInt8,s.data.toList[i]? = some x/\c=x.toNat) /\
  (128<=c->∀ j b,i<=j->j<i+k->s.data.toList[j]? = some b->128<=b.toNat)/\(c<55296\/(57343<c/\c<=1114111)):=by
 refine ⟨(Utf8.decode s i).1,(Utf8.decode s i).2,rfl,?_⟩;rw [Lib.decode_at];obtain ⟨h1,h2,h3,h4,h5,h6⟩:=decN (s.size-i) (s.get! i).toNat (s.get! (i+1)).toNat (s.get! (i+2)).toNat (s.get! (i+3)).toNat O (UInt8.toNat_lt _);refine ⟨h1,by omega,λ q=>⟨(h4 q).1,s.get! i,sP s i h,(h4 q).2⟩,λ q j b a1 a2 hb=>?_,h6⟩;obtain ⟨q0,q1,q2,q3⟩:=h5 q;have hj:j<s.size:=by omega
 rw [sP s j hj] at hb
 cases hb
 obtain rfl|rfl|rfl|rfl:j=i\/j=i+1\/j=i+2\/j=i+3:=by omega
 ·exact q0
 ·exact q1 O
 ·exact q2 O
 ·exact q3 O
theorem xm (c:Nat)(h:128<=c)(hv:Lib.validRune c=true):(Utf8.encode (c:Int)=⟨#[UInt8.ofNat (0xC0+c / 64),UInt8.ofNat (0x80+c%64)]⟩)\/((Utf8.encode (c:Int)).size=3\/(Utf8.encode (c:Int)).size=4):=by
 have hv2:Utf8.valid (c:Int)=true:=by
  simp only [Lib.validRune,decide_eq_true_eq] at hv;simp only [Utf8.valid,Bool.or_eq_true,n7,decide_eq_true_eq];omega
 simp only [Utf8.encode,hv2,if_true,Int.toNat_natCast];rw [if_neg O];by_cases h1:c<2048
 ·rw [if_pos h1]; exact .inl rfl
 ·rw [if_neg h1];by_cases h2:c<65536
  ·rw [if_pos h2]; exact .inr (.inl rfl)
  ·rw [if_neg h2]; exact .inr (.inr rfl)
theorem Cj (c:Nat):(UInt8.ofNat (0x80+c%64)).toNat≠91:=by
 rw [UInt8.toNat_ofNat'];omega
theorem below_drewN' {B:Nat}{a w:World}(h:Below B a w)(n:Nat):Below B a (w.drewN n):=h.trans ⟨Z,Z,Z,bt _,λ _ _=>rfl⟩
theorem Bz (c:Int)(w:World):Calls Tryz.prog 122 #[.string ByteArray.empty,.int .u8 c] w λ e w'=>e=.returned (.int .i64 (-1))/\w'=w:=Tryz.strings_IndexByte ByteArray.empty c w
set_option maxRecDepth 1000000 in
theorem BO (s rs:ByteArray)(c:Nat)(h:128<=c)(hv:Lib.validRune c=true)(CQ:c≠65533)(henc:Utf8.encode (c:Int)=rs)(hs:s.size=2)(hr:rs.size=2)
  (h1:(s[1]' O)≠(rs[1]' O)) (w:World) :
  Calls Tryz.prog 92 #[.string s,.int .i32 c] w λ e w'=>e=.returned (.int .i64 (-1))/\Below w.heap.size w w':=by
 have hlt:decide ((c:Int)<128)=false:=decide_eq_false O;have hne':((c:Int)==65533)=false:=beq_eq_false_iff_ne.2 O;have h0:decide ((0:Int)<=(c:Int))=true:=decide_eq_true O;obtain ⟨x,hx⟩:∃ x,s[1]' O =x:=⟨_,rfl⟩
 obtain ⟨y,hy⟩:∃ y,rs[1]' O =y:=⟨_,rfl⟩
 rw [hx,hy] at h1;have CC:(s.size:Int)=2:=by omega
 have hrz:(rs.size:Int)=2:=by omega
 have hb:((x.toNat:Int)!=(y.toNat:Int))=true:=by
  rw [bne_iff_ne];intro e;exact h1 (UInt8.toNat_inj.1 O)
 go_enter Tryz.func92,Tryz.ntmps92
 go_wp2_with (go_at_call 123; refine (Tryz.utf8_ValidRune _ _).mono ?_; rintro e w' ⟨rfl,hw⟩; rw [hw,hv])
 refine wp_scope_straight ?_
 go_wp2
 go_loopg [9] 0 (λ g v wx=>g=0/\v=.int .i64 1/\wx=w)
 case atStart=>exact ⟨rfl,by go_num,rfl⟩
 case round=>
  obtain ⟨rfl,rfl,rfl⟩:=hrel
  go_wp2
  refine wp_scope_straight ?_
  go_wp2
  go_big_quiet (fail)
  go_wp2
  go_big_quiet ((go_at_call 122; exact (Bz _ _).mono (λ _ _ h=>⟨h.1,_,h.2⟩)))
  go_wp2
  simp only [Exit.noGoto,Exit.inBlock,Exit.then]
  go_ret
  exact ⟨Z,below_drewN' (Below.refl _ _) _⟩
set_option maxRecDepth 1000000 in
theorem z1 (s rs:ByteArray)(c:Nat)(h:128<=c)(hv:Lib.validRune c=true)(CQ:c≠65533)(henc:Utf8.encode (c:Int)=rs)(hs:s.size=2)(hr:3<=rs.size)(hr4:rs.size<=4)(w:World) :
  Calls Tryz.prog 92 #[.string s,.int .i32 c] w λ e w'=>e=.returned (.int .i64 (-1))/\Below w.heap.size w w':=by
 have hlt:decide ((c:Int)<128)=false:=decide_eq_false O;have hne':((c:Int)==65533)=false:=beq_eq_false_iff_ne.2 O;have h0:decide ((0:Int)<=(c:Int))=true:=decide_eq_true O;obtain ⟨i,hi⟩:∃ i:Nat,rs.size=i+1:=⟨rs.size-1,by omega⟩
 have CC:(s.size:Int)=2:=by omega
 have hrz:(rs.size:Int)=(i:Int)+1:=by omega
 have hlast:IntKind.i64.wrap ((i:Int)+1-1)=(i:Int):=by rw [wrap_small _ O O]; omega
 have hend:decide ((i:Int)<2)=false:=decide_eq_false O
 go_enter Tryz.func92,Tryz.ntmps92
 go_wp2_with (go_at_call 123; refine (Tryz.utf8_ValidRune _ _).mono ?_; rintro e w' ⟨rfl,hw⟩; rw [hw,hv])
 refine wp_scope_straight ?_
 go_wp2
 go_loopg [9] 0 (λ g v wx=>g=0/\v=.int .i64 i/\wx=w)
 case atStart=>exact ⟨rfl,by first|rfl|(congr 1; omega),rfl⟩
 case round=>
  obtain ⟨rfl,rfl,rfl⟩:=hrel
  go_wp2
  simp only [Exit.noGoto,Exit.inBlock,Exit.then]
  go_ret
  exact ⟨Z,Below.refl _ _⟩
set_option maxRecDepth 1000000 in
theorem BR (w:World) :
  Calls Tryz.prog 92 #[.string oj,.int .i32 65533] w λ e w'=>e=.returned (.int .i64 (-1))/\Below w.heap.size w w':=by
 generalize hs:oj=s;have hz:s.size=2:=by rw [<- hs]; rfl
 have ha:∀ i (hi:i<s.size),(s[i]'hi).toNat<128:=by
  subst hs;intro i hi;have:i=0\/i=1:=by have:i<2:=hi; omega
  rcases this with rfl|rfl
  ·show (46:UInt8).toNat<128; decide
  ·show (91:UInt8).toNat<128; decide
 go_enter Tryz.func92,Tryz.ntmps92
 go_wp2
 go_loopg [5,6] 2 (λ g _ _ wx=>∃ i:Nat,i+g=2/\wx=w.iter s i)
 case atStart=>exact ⟨0,rfl,rfl⟩
 case round=>
  obtain ⟨i,hig,rfl⟩:=hrel
  cases gk with
  | zero=>
   obtain rfl:i=2:=by omega
   have hnx:=run_next_end (P:=Tryz.prog) w s 2;rw [hz] at hnx
   go_wp2
   go_ret
   exact ⟨Z,(Below.refl _ w).alloc (bt _) _⟩
  | succ g=>
   have hi:i<s.size:=by omega
   have hx128:=ha i hi;have hnx:=λ ty=>run_next_ascii (P:=Tryz.prog) w s i ty hi hx128;obtain ⟨x,hx⟩:∃ x:UInt8,s[i]'hi=x:=⟨_,rfl⟩
   rw [hx] at hnx hx128;have CQ:((x.toNat:Int)==65533)=false:=beq_eq_false_iff_ne.2 O
   go_wp2
   go_roundg g
   case measure=>omega
   case rel=>exact ⟨i+1,by omega,rfl⟩
end Go.Ab
namespace Go.Ab
open Go.Proofs Go.RowKit Go
theorem zU (c:Nat)(hv:c<55296\/(57343<c/\c<=1114111))(h:128<=c)(w:World) :
  Calls Tryz.prog 92 #[.string oj,.int .i32 c] w λ e w'=>e=.returned (.int .i64 (-1))/\Below w.heap.size w w':=by
 have hv1:Lib.validRune (c:Int)=true:=by
  simp only [Lib.validRune,decide_eq_true_eq];omega
 by_cases CQ:c=65533
 ·subst CQ; exact BR w
 ·rcases xm c h hv1 with e|e
  ·refine BO oj _ c h hv1 CQ e Z Z ?_ w;have h91:=Cj c;intro q;apply h91;have q':(91:UInt8)=UInt8.ofNat (0x80+c%64):=q;rw [<- q']
   rfl
  ·exact z1 oj _ c h hv1 CQ Z Z O O  w
theorem vm {s cs:List UInt8}{i k:Nat}(CJ:∀ b,cs.contains b=true->b.toNat<128)(h:Lib.NoAny s cs i)(hk:∀ j b,i<=j->j<i+k->s[j]? = some b->128<=b.toNat):Lib.NoAny s cs (i+k):=λ j b hj hb=>by
 by_cases q:j<i
 ·exact h j b q hb
 ·cases hc:cs.contains b with
  | false=>rfl
  | true=>have:=hk j b O hj hb; have:=CJ b hc; omega
theorem w4 {B:Nat}{a w:World}(h:Below B a w){b:Nat}(hb:B<=b)(o:Obj):Below B a { w with heap:=w.heap.setIfInBounds b o } :=
 h.trans ⟨Z,Z,Z,by simp,λ k hk=>by
  show (w.heap.setIfInBounds b o)[k]? = _
  rw [Array.getElem?_setIfInBounds_ne O]⟩
set_option maxHeartbeats 8000000 in
set_option maxRecDepth 1000000 in
theorem oU (s:ByteArray)(w:World)(h8:s.size<=8) :
  Calls Tryz.prog 66 #[.string s,.string oj] w λ e w'=>e=.returned (.int .i64 (Lib.indexAny s.data.toList [46,91]))/\Below w.heap.size w w':=by
 have hn1:((oj.size:Int)==1)=false:=rfl;have h8z:decide ((8:Int)<(s.size:Int))=false:=decide_eq_false O
 have CJ:∀ b,([46,91]:List UInt8).contains b=true->b.toNat<128:=by
  intro b hb;simp at hb;rcases hb with rfl|rfl <;> decide
 have hemp:({ data:=#[46,91] }:ByteArray).toList.isEmpty=false:=by rw [Lib.toList_data]; rfl
 go_enter Tryz.func66,Tryz.ntmps66
 go_wp2_with (go_at_call 93; refine (Tryz.strings_shouldUseASCIISet _ _).mono ?_; rintro e w' ⟨rfl,hw⟩; rw [hw,h8z])
 go_loopg [9,10] s.size (λ g _ _ wx=>∃ i:Nat,i+g=s.size/\wx.heap[w.heap.size]? = some (.stringIter s i)/\Hid (Below w.heap.size w wx)/\Hid (Lib.NoAny s.data.toList [46,91] i))
 case atStart=>exact ⟨0,by omega,by simp [World.iter_heap],(Below.refl _ w).alloc (bt _) _,Lib.NoAny.zero _ _⟩
 case round=>
  obtain ⟨i,hig,hit,HB,HN⟩:=hrel
  cases gk with
  | zero=>
   obtain rfl:i=s.size:=by omega
   have hnx:=λ ty=>yQ (P:=Tryz.prog) wr w.heap.size s s.size ty O hit
   go_wp2
   go_ret
   exact ⟨by rw [Lib.indexAny_none (by rw [<- Lib.size_eq]; exact HN.out)]; rfl,HB.out⟩
  | succ g=>
   have hi:i<s.size:=by omega
   obtain ⟨c,k,hd,EK,D1,hlow,hhigh,hval⟩:=yA s i hi;have hnx:=λ ty=>z7 (P:=Tryz.prog) wr w.heap.size s i ty hi hit;rw [hd] at hnx
   have hlt:w.heap.size<wr.heap.size:=by
    rcases Nat.lt_or_ge w.heap.size wr.heap.size with h|h
    ·exact h
    ·rw [Array.getElem?_eq_none h] at hit; cases hit
   obtain ⟨W1,hW1⟩:∃ W1,({ wr with heap:=wr.heap.setIfInBounds w.heap.size (.stringIter s (i+k)) }:World)=W1:=⟨_,rfl⟩
   have HI:Hid (W1.heap[w.heap.size]? = some (.stringIter s (i+k))):=by
    rw [<- hW1];show (wr.heap.setIfInBounds w.heap.size (.stringIter s (i+k)))[w.heap.size]? = _;rw [Array.getElem?_setIfInBounds_self_of_lt hlt]
   have HL:Hid (w.heap.size<W1.heap.size):=by
    rw [<- hW1]; show w.heap.size<(wr.heap.setIfInBounds _ _).size; simp; exact hlt
   have HB1:Hid (Below w.heap.size w W1):=by rw [<- hW1]; exact w4 HB.out (bt _) _
   have Hk:Hid (∃ g',i+k+g'=s.size/\g'<=g):=⟨s.size-(i+k),by omega,by omega⟩
   simp only [hW1] at hnx
   clear hW1 hit HB hd
   by_cases h128:c<128
   ·obtain ⟨rfl,x,hx,rfl⟩:=hlow h128;have Hx:Hid (s.data.toList[i]? = some x):=hx;have HR:Hid _:=Tryz.strings_IndexRune_ascii oj (x.toNat:Int) W1 O O;have hback:((x.toNat:Int)).toNat.toUInt8=x:=by simp
    rw [hback] at HR;have hcon:=Lib.contains_iff_indexByte [46,91] x;rw [show oj.data.toList=[46,91] from rfl] at HR
    clear hx hlow hhigh hval hback
    cases hin:([46,91]:List UInt8).contains x
    ·rw [hin] at hcon;generalize Lib.indexByte [46,91] x=v at HR hcon;have hlt:decide ((0:Int)<=v)=false:=hcon.symm
     clear hcon
     go_wp2_with (go_at_call 92; refine Calls.mono HR.out ?_; rintro e w' ⟨rfl,hw'⟩; rw [hw'])
     go_roundg g
     case measure=>omega
     case rel=>exact ⟨i+1,by omega,HI.out,HB1,HN.out.succ Hx.out hin⟩
    ·rw [hin] at hcon;generalize Lib.indexByte [46,91] x=v at HR hcon;have hge:decide ((0:Int)<=v)=true:=hcon.symm
     clear hcon
     go_wp2_with (go_at_call 92; refine Calls.mono HR.out ?_; rintro e w' ⟨rfl,hw'⟩; rw [hw'])
     go_ret
     exact ⟨by rw [Lib.indexAny_hit HN.out Hx.out hin]; rfl,HB1.out⟩
   ·have HR:Hid _:=zU c hval O W1;have HN2:Hid _:=vm CJ HN.out (hhigh O)
    clear hlow hhigh hval
    go_wp2_with (go_at_call 92; refine Calls.mono HR.out ?_; rintro e w' ⟨rfl,hB'⟩)
    have h1:w'.heap[w.heap.size]? = some (.stringIter s (i+k)):=(hB'.block _ HL.out).trans HI.out;obtain ⟨g',hg',hg''⟩:=Hk.out
    go_roundg g'
    case measure=>omega
    case rel=>exact ⟨i+k,hg',h1,HB1.out.trans (hB'.mono HB1.out.size),HN2⟩
theorem wX:Tryz.zeroCells107=Array.replicate 256 (.bool false):=by kernel_rfl
theorem yu (w:World):(zeroValue 107).run Tryz.prog w=.ok (.agg (Array.replicate 256 (.bool false))) w:=by
 rw [<- wX]; exact Tryz.zeroValue107 w
theorem uL (j:Nat)(b:UInt8)(h:oj.data.toList[j]? = some b):b.toNat<128:=by
 match j,h with
 | 0,h=>cases h; decide
 | 1,h=>cases h; decide
 | n+2,h=>cases h
def strings_IndexAny (s cs:Bk):Option Int:=ck (cs=[46,91]/\s.length<4294967281)<|some (Lib.indexAny s cs)
theorem ly (CB chars_1:Bk)(r:Int)(h0:strings_IndexAny CB chars_1=some r):au Tryz.prog 66 [eS CB,eS chars_1] (·=.p (eI r)):=by
 obtain ⟨⟨rfl,hl⟩,h1⟩:=cU h0
 cases h1
 refine au.of_calls (l:=[.string (str CB),.string oj]) λ w st hok=>?_;have hz:(str CB).size=CB.length:=fk _;by_cases h8:(str CB).size<=8
 ·refine (oU (str CB) w h8).mono ?_;rintro e w' ⟨rfl,hB⟩;rw [fT];exact ⟨_,rfl,hB,λ _=>.p (.val _)⟩
 ·refine (Tryz.strings_IndexAny_long yu (str CB) oj w (by decide) O O  (by decide) uL).mono ?_;rintro e w' ⟨rfl,rfl⟩;rw [fT];exact ⟨_,rfl,((Below.refl _ w).alloc (bt _) _).alloc (by show w.heap.size<=(w.heap.push _).size; simp) _,λ _=>.p (.val _)⟩
end Go.Ab
end
section
namespace Go.Ab
open Go.MapKept
section
variable {C:Cx} {o:Oper} {K:AS->Prop} {sl:List (Nat×AV)} {ob:List (Nat×List AV)} {d:Nat}
theorem zg {d:Nat}(hd:d<M1):∀ i,Nat.beq i d=true->i<M1:=λ i hi=>by have:=bx hi; omega
end
/- As 'dem',for identities of any size; what is known of maps of rows is given up. -/
end Go.Ab
end
section
namespace Go.Ab
section
variable {C:Cx} {o:Oper} {K:AS->Prop} {sl:List (Nat×AV)} {ob:List (Nat×List AV)} {d:Nat}
theorem rJ {es ys:List PV}{t tx e e':TypeId}{i ie j:TI}{y:Operand}{Y0z:AV}{k:Nat}(D:Nat->Bool)(hDl:∀ i,D i=true->i<M1)(hDk:D k=true)
  (hi:look C.tt t=some i) (CR:i.k=.slice e) (hie:look C.tt e=some ie) (hj:look C.tt tx=some j) (hjk:j.k=.slice e')
  (hy:evo sl y=some Y0z) (hY:Y0z.elems? = some ys) (CC:∀ y∈es++ys,y.cells=[y]/\y.one=true) (h1s:ie.size=1) (hzl:ie.zero.length=ie.size)
  (CE:(es.length+ys.length)*ie.bytes<=140737488355328) (hlen':es.length+ys.length<=9223372036854775807)
  {g:Gh} {a:Act} {w:World} (hs:St C.n C.w0 C.F g ⟨sl,ob⟩ a w) (base:Option Addr) (cap:Nat) (olds:List Value)
  (hold:(Builtin.firstCells ie.size es.length (.slice base es.length cap)).run C.P w.drew=.ok olds.toArray w.drew) (hol:olds.length=es.length)
  (hoc:∀ (i:Nat) x,es[i]? = some x->∃ u,olds[i]? = some u/\PRep w g.st x u)
  (hg:cap<es.length+ys.length) (ty:TypeId) (hn:Nat.blt d C.n=true) :
  ∃ v w' g',(Builtin.append_ #[t,tx] ty #[.slice base es.length cap,a.eval y]).run C.P w=.ok v w' /\
   St C.n C.w0 C.F g' ⟨(d,.stk k 1 (es++ys))::(bV D ⟨sl,ob⟩).sl,(bV D ⟨sl,ob⟩).ob⟩ (a.put (some d) v) w':=by
 obtain ⟨u,h1,h2⟩:=bc C.good hi;have h3:=aV (h2.trans CR);subst h3;obtain ⟨u',h1',h2'⟩:=bc C.good hj;have h3':=aV (h2'.trans hjk);subst h3';obtain ⟨info,hf1,hf2,hf3,z,hf4,hf5⟩:=dQ C.good hie;have hyv:=dr hY (bg hs hy);have hszy:∀ y∈ys,y.cells=[y]:=λ y hy=>(CC y (List.mem_append_right _ hy)).1;obtain ⟨news,hsrc,hnews⟩:=kx (P:=C.P) (sz:=ie.size) h1' hyv (λ y hy=>by rw [hszy y hy,h1s]; rfl) O;have hfit:=growslice_fits (bytes:=ie.bytes) hg CE;have hrun:=run_append_grow_src w t tx ty e info z h1 hf1 hf4 base es.length cap olds (by rw [hf2]; exact hold) (a.eval y) ys.length news (by rw [hf2]; exact hsrc) hg O (by rw [hf3]; exact hfit);obtain ⟨q,hq⟩:∃ q,q=grownCap w (es.length+ys.length) cap e:=⟨_,rfl⟩
 rw [<- hq] at hrun
 have hqn:es.length+ys.length<=q:=by
  rw [hq]; unfold grownCap; simp only [Question.cut]; omega
 have hzs:z.cells.size=1:=by rw [<- h1s,<- hzl,<- hf5,ur]
 have hnl:news.length=ys.length:=by rw [hsrc.newsLen,h1s,Nat.mul_one]
 obtain ⟨c,hc⟩:∃ c,c=(olds++news).toArray++Builtin.zeroCells z.cells (q-(es.length+ys.length)):=⟨_,rfl⟩
 rw [<- hc] at hrun
 have CJ:c.size=q:=by
  rw [hc];simp only [Array.size_append,List.size_toArray,n8,hol,hnl,size_zeroCells,hzs];omega
 have hf:=hs.drew.fresh D hDl k hDk (λ o=>o=q*1) c e;have CL:=gJ (w:=w.drew) (T:=λ o=>o=q*1) (ob:=.cells c e) hs.drew.lt;have hlenA:(es++ys).length=es.length+ys.length:=n8
 have hrep:ARep (w.drew.alloc (.cells c e)) ⟨λ b o=>g.st b o\/(b=w.drew.heap.size/\o=q*1),λ i=>if i=k then some w.drew.heap.size else if D i then none else g.ow i⟩ (.stk k 1 (es++ys)) (.slice (some ⟨w.drew.heap.size,0,none⟩) (es++ys).length q):=by
  refine .stk G bG O O  (λ x hx=>by rw [(CC x hx).1]; rfl) (λ x hx c hc=>by rw [(CC x hx).1] at hc; obtain rfl:=List.mem_singleton.1 hc; exact (CC c hx).2) (λ o=>?_) (λ i x j p hx hp=>?_)
  ·constructor
   ·rintro (h|⟨_,h⟩)
    ·exact absurd (hs.lt _ _ h) (Nat.lt_irrefl _)
    ·exact h
   ·intro h; exact .inr ⟨rfl,h⟩
  ·rw [(CC x (List.mem_of_getElem? hx)).1] at hp
   have hj:j=0:=by
    have:=(List.getElem?_eq_some_iff.1 hp).1;simpa using this
   subst hj;simp only [List.getElem?_cons_zero,aq] at hp;subst hp;have hil:i<(es++ys).length:=(List.getElem?_eq_some_iff.1 hx).1
   have hget:c[i]? = if i<es.length then olds[i]? else news[i-es.length]?:=by
    rw [hc,Array.getElem?_append];simp only [List.size_toArray,n8,hol,hnl];rw [if_pos O,List.getElem?_toArray,List.getElem?_append,hol]
   rw [Nat.mul_one,Nat.add_zero];rw [List.getElem?_append] at hx;split at hx
   ·rename_i hlt;obtain ⟨u,hu,hr⟩:=hoc i x hx;exact ⟨u,by rw [hget,if_pos hlt]; exact hu,(PRep.mono (w:=w) (w':=w.drew) (st:=g.st) (st':=g.st) (λ b o h=>⟨h,rfl⟩) hr).mono CL⟩
   ·rename_i hge;obtain ⟨k1,u,hu,hr⟩:=hnews (i-es.length) x 0 x hx (by rw [hszy x (List.mem_of_getElem? hx)]; rfl);rw [h1s,Nat.mul_one,Nat.add_zero] at hu;exact ⟨u,by rw [hget,if_neg hge]; exact hu,(PRep.mono (w:=w) (w':=w.drew) (st:=g.st) (st':=g.st) (λ b o h=>⟨h,rfl⟩) hr).mono CL⟩
 rw [hlenA] at hrep;have hp:=hf.put (d:=some d) (λ t ht=>by cases ht; exact mv ▸ hn) hrep;exact ⟨_,_,_,hrun,hp⟩
theorem uk {t tx e e':TypeId}{x y:Operand}{k:Nat}{es:List PV}{Y0z:AV}{ys:List PV}{i ie j:TI}(ho:o.op=.call { callee:=.builtin .append,args:=#[x,y],argTypes:=#[t,tx] })(hd:o.dst=some d)(hn:Nat.blt d C.n=true)
  (hi:look C.tt t=some i) (CR:i.k=.slice e) (hie:look C.tt e=some ie) (hj:look C.tt tx=some j) (hjk:j.k=.slice e') (hx:evo sl x=some (.stk k 1 es)) (hk:Nat.blt k M1=true)
  (hy:evo sl y=some Y0z) (hY:Y0z.elems? = some ys) (CC:∀ y∈es++ys,y.cells=[y]/\y.one=true) (hys:0<ys.length) (h1s:ie.size=1) (hzl:Nat.beq ie.zero.length ie.size=true)
  (CE:(es.length+ys.length)*ie.bytes<=140737488355328) (hlen':es.length+ys.length<=9223372036854775807)
  (hK:K ⟨(d,.stk k 1 (es++ys))::(bV (λ i=>Nat.beq i k) ⟨sl,ob⟩).sl,(bV (λ i=>Nat.beq i k) ⟨sl,ob⟩).ob⟩):aO C o K ⟨sl,ob⟩:=by
 have hzl':=bx hzl;have hk':k<M1:=mv ▸ hk
 have hDl:∀ i,(Nat.beq i k)=true->i<M1:=by
  intro i hi;have:=bx hi; omega
 intro g a w hs;have hxr:=bg hs hx;generalize hxv:a.eval x=xv at hxr
 have hrun0:∀ v w',(Builtin.append_ #[t,tx] o.type #[xv,a.eval y]).run C.P w=.ok v w'->(execOp a.eval o).run C.P w=.ok (.value v) w':=by
  intro v w' h;rw [cZ ho];simp [builtin,hxv,h]
 cases hxr with
 | stkn=>
  obtain ⟨v,w',g',hr',hst'⟩:=rJ (es:=[]) (k:=k) (λ i=>Nat.beq i k) hDl G hi CR hie hj hjk hy hY CC h1s hzl' CE hlen' hs none 0 [] (run_firstCells_none w.drew ie.size 0 0 0) rfl (λ i x hx=>by simp at hx) (by simpa using hys) o.type hn;unfold Oper.wp;rw [hrun0 _ _ hr'];simp only [Oper.upon,hd];exact ⟨g',_,hst',hK⟩
 | stke=>
  rename_i a0;obtain ⟨v,w',g',hr',hst'⟩:=rJ (es:=[]) (k:=k) (λ i=>Nat.beq i k) hDl G hi CR hie hj hjk hy hY CC h1s hzl' CE hlen' hs (some a0) 0 [] (run_firstCells_some w.drew ie.size 0 a0 0 0 [] G G) rfl (λ i x hx=>by simp at hx) (by simpa using hys) o.type hn;unfold Oper.wp;rw [hrun0 _ _ hr'];simp only [Oper.upon,hd];exact ⟨g',_,hst',hK⟩
 | stk how hb CJ hlenc hszc CH CN hr=>
  rename_i b cap c e0;rw [Nat.mul_one] at CJ
  have CP:∀ (i:Nat) x,es[i]? = some x->∃ u,c[i]? = some u/\PRep w g.st x u:=by
   intro i x hx;obtain ⟨v,h1,h2⟩:=hr i x 0 x hx (by rw [(CC x (List.mem_append_left _ (List.mem_of_getElem? hx))).1]; rfl);exact ⟨v,by rw [Nat.mul_one,Nat.add_zero] at h1; exact h1,h2⟩
  by_cases hroom:es.length+ys.length<=cap
  ·obtain ⟨u,h1,h2⟩:=bc C.good hi;have h3:=aV (h2.trans CR);subst h3;obtain ⟨u',h1',h2'⟩:=bc C.good hj;have h3':=aV (h2'.trans hjk);subst h3';obtain ⟨info,hf1,hf2,hf3,z,hf4,hf5⟩:=dQ C.good hie;have hyv:=dr hY (bg hs hy);have hszy:∀ y∈ys,y.cells=[y]:=λ y hy=>(CC y (List.mem_append_right _ hy)).1;obtain ⟨news,hsrc,hnews⟩:=kx (P:=C.P) (sz:=ie.size) h1' hyv (λ y hy=>by rw [hszy y hy,h1s]; rfl) O;have hnl:news.length=ys.length:=by rw [hsrc.newsLen,h1s,Nat.mul_one]
   have hstc:=run_storeCells_at C.P b (es.length*ie.size) e0 news 0 c w hb (by rw [h1s]; simp; omega) hsrc.one;simp only [Nat.add_zero] at hstc;rw [h1s,Nat.mul_one] at hstc;obtain ⟨c',hc'⟩:∃ c',c'=(c.toList.take es.length++news++c.toList.drop (es.length+news.length)).toArray:=⟨_,rfl⟩
   rw [<- hc'] at hstc;have hrr:=en t tx o.type e info h1 hf1 b es.length cap (a.eval y) ys.length news (by rw [hf2]; exact hsrc) hroom (by rw [hf2,h1s,Nat.mul_one]; exact hstc)
   have hcell':∀ j,c'[j]? = if es.length<=j/\j<es.length+news.length then news[j-es.length]? else c[j]?:=by
    intro j;rw [hc'];have:=fu c.toList news es.length (by simp; omega) j;simpa using this
   have hcs':c'.size=cap:=by rw [<- CJ,hc']; simp; omega
   have hin:=hs.inplace (λ i=>Nat.beq i k) hDl (k:=k) (d:=k) how G G  hb (c':=c') (hcs'.trans CJ.symm) (λ o h=>by
    have:=(CN o).1 h
    rw [Array.getElem?_eq_none O,Array.getElem?_eq_none O]) (λ o=>o=cap*1) (λ o h=>(CN o).1 h)
   have hEv:Ev w g.st (w.setRow b c') (λ b' o=>(b'=b/\o=cap*1)\/(b'≠b/\g.st b' o)):=by
    intro b' o h;by_cases e1:b'=b
    ·subst e1;have ho:=(CN o).1 h;refine ⟨.inl ⟨rfl,ho⟩,?_⟩;simp only [World.cell?,setRow_heap w b' c c' e0 (0,0) hb,hb];rw [Array.getElem?_eq_none O,Array.getElem?_eq_none O]
    ·exact ⟨.inr ⟨e1,h⟩,by simp only [World.cell?,setRow_other w b b' c' e1]⟩
   have hlenA:(es++ys).length=es.length+ys.length:=n8
   have hrep:ARep (w.setRow b c') ⟨λ b' o=>(b'=b/\o=cap*1)\/(b'≠b/\g.st b' o),λ i=>if i=k then some b else if (Nat.beq i k) then none else g.ow i⟩ (.stk k 1 (es++ys)) (.slice (some ⟨b,0,none⟩) (es++ys).length cap):=by
    refine .stk G (setRow_heap w b c c' e0 (0,0) hb) O O  (λ x hx=>by rw [(CC x hx).1]; rfl) (λ x hx c hc=>by rw [(CC x hx).1] at hc; obtain rfl:=List.mem_singleton.1 hc; exact (CC c hx).2) (λ o=>?_) (λ i x j p hx hp=>?_)
    ·constructor
     ·rintro (⟨_,h⟩|⟨h,_⟩)
      ·exact h
      ·exact absurd Z h
     ·intro h; exact .inl ⟨rfl,h⟩
    ·rw [(CC x (List.mem_of_getElem? hx)).1] at hp
     have hj:j=0:=by
      have:=(List.getElem?_eq_some_iff.1 hp).1;simpa using this
     subst hj;simp only [List.getElem?_cons_zero,aq] at hp;subst hp;rw [Nat.mul_one,Nat.add_zero];rw [List.getElem?_append] at hx;split at hx
     ·rename_i hlt;obtain ⟨u,hu,hr⟩:=CP i x hx;exact ⟨u,by rw [hcell',if_neg O]; exact hu,hr.mono hEv⟩
     ·rename_i hge;have hi2:i-es.length<ys.length:=(List.getElem?_eq_some_iff.1 hx).1;obtain ⟨_,u,hu,hr⟩:=hnews (i-es.length) x 0 x hx (by rw [hszy x (List.mem_of_getElem? hx)]; rfl);rw [h1s,Nat.mul_one,Nat.add_zero] at hu;exact ⟨u,by rw [hcell',if_pos O]; exact hu,hr.mono hEv⟩
   rw [hlenA] at hrep;have hp:=hin.put (d:=some d) (λ t ht=>by cases ht; exact mv ▸ hn) hrep;unfold Oper.wp;rw [hrun0 _ _ hrr];simp only [Oper.upon,hd];exact ⟨_,_,hp,hK⟩
  ·have hlenT:(c.toList.take es.length).length=es.length:=by
    rw [sm,show c.toList.length=cap from ur.trans CJ]; omega
   have hold:(Builtin.firstCells ie.size es.length (.slice (some ⟨b,0,none⟩) es.length cap)).run C.P w.drew=.ok (c.toList.take es.length).toArray w.drew:=by
    refine run_firstCells_some w.drew ie.size es.length ⟨b,0,none⟩ es.length cap _ (by rw [hlenT,h1s,Nat.mul_one]) (λ j v hv=>?_);rw [List.getElem?_take] at hv;split at hv
    ·rw [add_lit,rd,World.cell?_drew];simp only [World.cell?,hb];simpa using hv
    ·cases hv
   obtain ⟨v,w',g',hr',hst'⟩:=rJ (es:=es) (k:=k) (λ i=>Nat.beq i k) hDl G hi CR hie hj hjk hy hY CC h1s hzl' CE hlen' hs (some ⟨b,0,none⟩) cap (c.toList.take es.length)
    hold hlenT (λ i x hx=>by
     obtain ⟨u,hu,hr⟩:=CP i x hx
     exact ⟨u,by rw [List.getElem?_take,if_pos (List.getElem?_eq_some_iff.1 hx).1]; simpa using hu,hr⟩) O o.type hn
   unfold Oper.wp;rw [hrun0 _ _ hr'];simp only [Oper.upon,hd];exact ⟨g',_,hst',hK⟩
theorem za {t e:TypeId}{x:Operand}{i:TI}{k sz:Nat}{es:List PV}(ho:o.op=.call { callee:=.builtin .len,args:=#[x],argTypes:=#[t] })(hd:o.dst=some d)(hn:Nat.blt d C.n=true)
  (hi:look C.tt t=some i) (CR:i.k=.slice e) (hx:evo sl x=some (.stk k sz es))
  (hK:K ⟨(d,.p (.val (.int .i64 (es.length:Int))))::sl,ob⟩):aO C o K ⟨sl,ob⟩:=by
 obtain ⟨u,h1,h2⟩:=bc C.good hi;have h3:=aV (h2.trans CR);subst h3;refine ok_one hd hn (λ g a w hs=>?_) hK;have h5:=bg hs hx;generalize hv:a.eval x=v at h5
 cases h5 with
 | stkn=>exact ⟨.int .i64 0,by rw [cZ ho]; simp [builtin,hv,Builtin.len_,run_underlying h1,goInt],.p (.val _)⟩
 | stke=>exact ⟨.int .i64 0,by rw [cZ ho]; simp [builtin,hv,Builtin.len_,run_underlying h1,goInt],.p (.val _)⟩
 | stk how hb CJ hlenc hszc CH CN hr=>exact ⟨.int .i64 (es.length:Int),by rw [cZ ho]; simp [builtin,hv,Builtin.len_,run_underlying h1,goInt],.p (.val _)⟩
end
theorem A4 (D:Nat->Bool):∀ (l:List PV),dmC D (l.map .p)=some (l.map .p)
 | []=>rfl
 | x::r=>by
  have h:=A4 D r;simp only [cl,dmC,AV.dem,h]
  first|rfl|(simp [frc])
theorem Ak {D:Nat->Bool}{i:Nat}{l:List PV}{r r':List (Nat×List AV)}(h:D i=false)(hr:dmO D r=some r'):dmO D ((i,l.map .p)::r)=some ((i,l.map .p)::r'):=by
 simp only [dmO,h,A4,hr]
theorem wk {D:Nat->Bool}{i:Nat}{cs ds:List AV}{r r':List (Nat×List AV)}(h:D i=false)(hc:dmC D cs=some ds)(hr:dmO D r=some r'):dmO D ((i,cs)::r)=some ((i,ds)::r'):=by
 simp only [dmO,h,hc,hr]
theorem AV.sub_nilstk (tok sz:Nat):(AV.p (.val (.slice none 0 0))).sub (.stk tok sz []):=by
 intro w g v h
 cases h with
 | p h=>cases h; exact .stkn _ _
section
variable {C:Cx} {o:Oper} {K:AS->Prop} {sl:List (Nat×AV)} {ob:List (Nat×List AV)} {d:Nat}
theorem yd {α:Type}(f:α->PV)(hf:∀ x,(f x).cells=[f x]/\(f x).one=true)(l0 l:List α){t tx e e':TypeId}{x y:Operand}{k:Nat}{Y0z:AV}{i ie j:TI}{sl':List (Nat×AV)}{ob':List (Nat×List AV)}(ho:o.op=.call { callee:=.builtin .append,args:=#[x,y],argTypes:=#[t,tx] })(hd:o.dst=some d)(hn:Nat.blt d C.n=true)
  (hi:look C.tt t=some i) (CR:i.k=.slice e) (hie:look C.tt e=some ie) (hj:look C.tt tx=some j) (hjk:j.k=.slice e') (hx:evo sl x=some (.stk k 1 (l0.map f))) (hk:Nat.blt k M1=true)
  (hy:evo sl y=some Y0z) (hY:Y0z.elems? = some (l.map f)) (hys:0<l.length) (h1s:ie.size=1) (hzl:Nat.beq ie.zero.length ie.size=true) (hby:Nat.blt 0 ie.bytes=true)
  (CE:(l0.length+l.length)*ie.bytes<=140737488355328) (h1:dmS (λ i=>Nat.beq i k) sl=some sl') (h2:dmO (λ i=>Nat.beq i k) ob=some ob')
  (hK:K ⟨(d,.stk k 1 ((l0++l).map f))::sl',ob'⟩):aO C o K ⟨sl,ob⟩:=by
 have hby':1<=ie.bytes:=Nat.succ_le_of_lt (by simpa using hby);have h3:(l0.length+l.length)*1<=(l0.length+l.length)*ie.bytes:=Nat.mul_le_mul_left _ hby';refine uk ho hd hn hi CR hie hj hjk hx hk hy hY (λ y hy=>?_) (by simpa using hys) h1s hzl (by rw [n6,n6]; exact CE) (by rw [n6,n6]; omega) ?_
 ·rw [<- List.map_append] at hy;obtain ⟨x,_,rfl⟩:=List.mem_map.1 hy;exact hf x
 ·rw [<- List.map_append];simp only [bV];rw [<- pV h1,<- jE h2];exact hK
theorem tg {α:Type}(f:α->PV)(l:List α){t e:TypeId}{x:Operand}{i:TI}{k sz:Nat}(ho:o.op=.call { callee:=.builtin .len,args:=#[x],argTypes:=#[t] })(hd:o.dst=some d)(hn:Nat.blt d C.n=true)
  (hi:look C.tt t=some i) (CR:i.k=.slice e) (hx:evo sl x=some (.stk k sz (l.map f))) (hK:K ⟨(d,.p (eI (l.length:Int)))::sl,ob⟩):aO C o K ⟨sl,ob⟩ :=
 za ho hd hn hi CR hx (by rw [n6]; exact hK)
end
section
variable {C:Cx} {o:Oper} {K:AS->Prop} {sl:List (Nat×AV)} {ob:List (Nat×List AV)} {d:Nat}
theorem xA {t e:TypeId}{i ie:TI}(ho:o.op=.buildSlice t 0 #[])(hd:o.dst=some d)(hn:Nat.blt d C.n=true)
  (hi:look C.tt t=some i) (CR:i.k=.slice e) (hie:look C.tt e=some ie) (tok sz:Nat)
  (hK:K ⟨(d,.stk tok sz [])::sl,ob⟩):aO C o K ⟨sl,ob⟩:=by
 obtain ⟨u,h1,h2⟩:=bc C.good hi;have h3:=aV (h2.trans CR);subst h3;obtain ⟨j,hj,hj1,hj2,z,hz1,hz2⟩:=dQ C.good hie;intro g a w hs
 have hrun:(execOp a.eval o).run C.P w=.ok (.value (.slice (some ⟨w.heap.size,0,none⟩) 0 0)) (w.alloc (.cells #[] e)):=by
  simp [execOp,ho,Instr.buildSlice,run_underlying h1,sizeOf,typeInfo,hj,Instr.fill,newRow];congr 2;apply Array.ext <;> simp
 unfold Oper.wp;rw [hrun];have CN:=(hs.settled (λ _=>False) #[] e).put (d:=some d) (λ t ht=>by cases ht; exact mv ▸ hn) (.stke tok sz ⟨w.heap.size,0,none⟩);simp only [Oper.upon,hd];exact ⟨_,_,CN,hK⟩
theorem wW {t tx e e':TypeId}{x y:Operand}{k:Nat}{es:List PV}{Y0z:AV}{i ie j:TI}(ho:o.op=.call { callee:=.builtin .append,args:=#[x,y],argTypes:=#[t,tx] })(hd:o.dst=some d)(hn:Nat.blt d C.n=true)
  (hi:look C.tt t=some i) (CR:i.k=.slice e) (hie:look C.tt e=some ie) (hj:look C.tt tx=some j) (hjk:j.k=.slice e') (hx:evo sl x=some (.stk k 1 es))
  (hy:evo sl y=some Y0z) (hY:Y0z.elems? = some []) (h1s:ie.size=1)
  (hK:K ⟨(d,.stk k 1 es)::sl,ob⟩):aO C o K ⟨sl,ob⟩:=by
 refine ok_one hd hn (λ g a w hs=>?_) hK;obtain ⟨u,h1,h2⟩:=bc C.good hi;have h3:=aV (h2.trans CR);subst h3;obtain ⟨u',h1',h2'⟩:=bc C.good hj;have h3':=aV (h2'.trans hjk);subst h3';obtain ⟨info,hf1,hf2,hf3,z,hf4,hf5⟩:=dQ C.good hie;have hyv:=dr hY (bg hs hy);obtain ⟨news,hsrc,hnews⟩:=kx (P:=C.P) (sz:=ie.size) h1' hyv (λ y hy=>by cases hy) O;have hnl:news=[]:=by have:=hsrc.newsLen; simpa using this
 subst hnl;have hxr:=bg hs hx;generalize hxv:a.eval x=xv at hxr
 have hrun0:∀ v w',(Builtin.append_ #[t,tx] o.type #[xv,a.eval y]).run C.P w=.ok v w'->(execOp a.eval o).run C.P w=.ok (.value v) w':=by
  intro v w' h;rw [cZ ho];simp [builtin,hxv,h]
 cases hxr with
 | stkn=>exact ⟨_,hrun0 _ _ (run_append_nothing w t tx o.type e info h1 hf1 none 0 0 (bt _) (a.eval y) (by rw [hf2]; exact hsrc)),.stkn _ _⟩
 | stke=>exact ⟨_,hrun0 _ _ (run_append_nothing w t tx o.type e info h1 hf1 _ 0 0 (bt _) (a.eval y) (by rw [hf2]; exact hsrc)),.stke _ _ _⟩
 | stk how hb CJ hlenc hszc CH CN hr=>
  exact ⟨_,hrun0 _ _ (run_append_nothing w t tx o.type e info h1 hf1 _ _ _ hlenc (a.eval y) (by rw [hf2]; exact hsrc)),.stk how hb CJ hlenc hszc CH CN hr⟩
end
section
variable {C:Cx} {o:Oper} {K:AS->Prop} {sl:List (Nat×AV)} {ob:List (Nat×List AV)} {d:Nat}
theorem wQ {P:Program}{tt:List (Nat×TI)}(good:cj P tt){t e:Nat}{i ie:TI}(hi:look tt t=some i)(CR:i.k=.slice e)(hie:look tt e=some ie)(k k':IntKind){m:Int}(hb:0<=m/\m<=9223372036854775807/\(ie.bytes:Int)*m<=281474976710656)(w:World) :
  ∃ c:Array Value,c.size=m.toNat*ie.size/\(Instr.makeSlice t (.int k 0) (.int k' m)).run P w=.ok (.slice (some ⟨w.heap.size,0,none⟩) 0 m.toNat) (w.alloc (.cells c e)):=by
 obtain ⟨u,h1,h2⟩:=bc good hi;have h3:=aV (h2.trans CR);subst h3;obtain ⟨j,hj,hj1,hj2,zz,hz1,hz2⟩:=dQ good hie;have hrun:=run_make (P:=P) w t e j zz h1 hj hz1 k k' 0 m (Int.le_refl _) hb.1 (by rw [hj2]; exact hb.2.2) hb.2.1;exact ⟨_,by rw [size_madeCells,hj1],hrun⟩
end
open Go.Proofs Go.Ab
attribute [local irreducible] awp ea aO au bs hZ AV.sub
theorem ew (l:List Bk)(CE:l.length*16<=140737488355328):au Tryz.prog 72 [eL eS l] (·=.p (eL eS l)):=by
 refine aZ good Tryz.func72 Z Z Z λ w0=>?_;refine cp ?_;refine dp ?_;refine bv Z ?_;refine bq Z Z Z Z ?_;refine cr ?_
 (repeat (first|refine aR ?_|refine bf ?_|refine bM ?_|refine a6 Z ?_|refine bJ ?_|refine aP ?_|refine aS ?_|refine aG ?_|refine aK ?_|refine aH Z ?_|refine noGoto_ret ?_|refine noGoto_exit ?_|refine noGoto_normal ?_))
 refine cp ?_;refine cp ?_;refine dp ?_;refine bv Z ?_;refine aA Z Z Z Z ?_;refine bv Z ?_;refine kt Z Z Z Z Z Z Z Z (λ b hb=>?_);refine cr ?_
 (repeat (first|refine aR ?_|refine bf ?_|refine bM ?_|refine a6 Z ?_|refine bJ ?_|refine aP ?_|refine aS ?_|refine aG ?_|refine aK ?_|refine aH Z ?_|refine noGoto_ret ?_|refine noGoto_exit ?_|refine noGoto_normal ?_))
 refine sZ Z (λ hc=>?_) (λ hc=>?_)
 ·have he:l=[]:=by simpa using hb hc
  subst he;refine cp ?_;refine dp ?_;refine bv rfl ?_;refine bq Z Z Z Z ?_;refine cr ?_
  (repeat (first|refine aR ?_|refine bf ?_|refine bM ?_|refine a6 Z ?_|refine bJ ?_|refine aP ?_|refine aS ?_|refine aG ?_|refine aK ?_|refine aH Z ?_|refine noGoto_ret ?_|refine noGoto_exit ?_|refine noGoto_normal ?_))
  refine gR ?_
  (repeat (first|refine aR ?_|refine bf ?_|refine bM ?_|refine a6 Z ?_|refine bJ ?_|refine aP ?_|refine aS ?_|refine aG ?_|refine aK ?_|refine aH Z ?_|refine noGoto_ret ?_|refine noGoto_exit ?_|refine noGoto_normal ?_))
  refine me Z ?_;exact iq _
 ·skip
  refine jP ?_
  (repeat (first|refine aR ?_|refine bf ?_|refine bM ?_|refine a6 Z ?_|refine bJ ?_|refine aP ?_|refine aS ?_|refine aG ?_|refine aK ?_|refine aH Z ?_|refine noGoto_ret ?_|refine noGoto_exit ?_|refine noGoto_normal ?_))
  refine cp ?_;refine dp ?_;refine bv Z ?_;refine pk Z Z Z Z Z Z Z 5 1 ?_;refine bv Z ?_;refine aA Z Z Z Z ?_;refine bv Z ?_;refine dS eS [] l Z Z Z Z Z Z Z Z Z Z Z Z Z Y Z Z Z Z (by simpa using CE) ?_;refine bv Z ?_;refine bq Z Z Z Z ?_;refine cr ?_
  (repeat (first|refine aR ?_|refine bf ?_|refine bM ?_|refine a6 Z ?_|refine bJ ?_|refine aP ?_|refine aS ?_|refine aG ?_|refine aK ?_|refine aH Z ?_|refine noGoto_ret ?_|refine noGoto_exit ?_|refine noGoto_normal ?_))
  refine gR ?_
  (repeat (first|refine aR ?_|refine bf ?_|refine bM ?_|refine a6 Z ?_|refine bJ ?_|refine aP ?_|refine aS ?_|refine aG ?_|refine aK ?_|refine aH Z ?_|refine noGoto_ret ?_|refine noGoto_exit ?_|refine noGoto_normal ?_))
  refine me Z ?_;exact AV.sub_vec _ _ _ _
theorem fL (l:List aa)(h:l.isEmpty=true):au Tryz.prog 73 [eL ah l] (·=.p (eL ah [])):=by
 obtain rfl:l=[]:=by simpa using h
 refine aZ good Tryz.func73 Z Z Z λ w0=>?_;refine cp ?_;refine dp ?_;refine bv Z ?_;refine bq Z Z Z Z ?_;refine cr ?_
 (repeat (first|refine aR ?_|refine bf ?_|refine bM ?_|refine a6 Z ?_|refine bJ ?_|refine aP ?_|refine aS ?_|refine aG ?_|refine aK ?_|refine aH Z ?_|refine noGoto_ret ?_|refine noGoto_exit ?_|refine noGoto_normal ?_))
 refine cp ?_;refine cp ?_;refine dp ?_;refine bv Z ?_;refine aA Z Z Z Z ?_;refine bv Z ?_;refine kt Z Z Z Z Z Z Z Z (λ b hb=>?_);refine cr ?_
 (repeat (first|refine aR ?_|refine bf ?_|refine bM ?_|refine a6 Z ?_|refine bJ ?_|refine aP ?_|refine aS ?_|refine aG ?_|refine aK ?_|refine aH Z ?_|refine noGoto_ret ?_|refine noGoto_exit ?_|refine noGoto_normal ?_))
 refine sZ Z (λ hc=>?_) (λ hc=>?_)
 ·skip
  refine cp ?_;refine dp ?_;refine bv Z ?_;refine bq Z Z Z Z ?_;refine cr ?_
  (repeat (first|refine aR ?_|refine bf ?_|refine bM ?_|refine a6 Z ?_|refine bJ ?_|refine aP ?_|refine aS ?_|refine aG ?_|refine aK ?_|refine aH Z ?_|refine noGoto_ret ?_|refine noGoto_exit ?_|refine noGoto_normal ?_))
  refine gR ?_
  (repeat (first|refine aR ?_|refine bf ?_|refine bM ?_|refine a6 Z ?_|refine bJ ?_|refine aP ?_|refine aS ?_|refine aG ?_|refine aK ?_|refine aH Z ?_|refine noGoto_ret ?_|refine noGoto_exit ?_|refine noGoto_normal ?_))
  refine me Z ?_;exact iq _
 ·skip
  refine jP ?_
  (repeat (first|refine aR ?_|refine bf ?_|refine bM ?_|refine a6 Z ?_|refine bJ ?_|refine aP ?_|refine aS ?_|refine aG ?_|refine aK ?_|refine aH Z ?_|refine noGoto_ret ?_|refine noGoto_exit ?_|refine noGoto_normal ?_))
  refine cp ?_;refine dp ?_;refine bv Z ?_;refine pk Z Z Z Z Z Z Z 5 5 ?_;refine bv Z ?_;refine aA Z Z Z Z ?_;refine bv Z ?_;refine dS ah [] [] Z Z Z Z Z Z Z Z Z Z Z Z Z (λ x=>congrArg List.length (aa.B' x)) Z Z Z Z (by decide) ?_;refine bv Z ?_;refine bq Z Z Z Z ?_;refine cr ?_
  (repeat (first|refine aR ?_|refine bf ?_|refine bM ?_|refine a6 Z ?_|refine bJ ?_|refine aP ?_|refine aS ?_|refine aG ?_|refine aK ?_|refine aH Z ?_|refine noGoto_ret ?_|refine noGoto_exit ?_|refine noGoto_normal ?_))
  refine gR ?_
  (repeat (first|refine aR ?_|refine bf ?_|refine bM ?_|refine a6 Z ?_|refine bJ ?_|refine aP ?_|refine aS ?_|refine aG ?_|refine aK ?_|refine aH Z ?_|refine noGoto_ret ?_|refine noGoto_exit ?_|refine noGoto_normal ?_))
  refine me Z ?_;exact AV.sub_vec _ _ _ _
theorem dw (l:List aa)(h:l.isEmpty=false)(CE:l.length*80<=140737488355328):bs Tryz.prog 73 [.p (eL ah l)] [] (λ x y=>x=.arr 2000000 5 0 l.length/\y=[(2000000,d5 ah l)]):=by
 refine gN good [800000] [800000] Tryz.func73 Z Z Z Z Z λ w0 F=>?_;refine cp ?_;refine dp ?_;refine bv Z ?_;refine bq Z Z Z Z ?_;refine cr ?_
 (repeat (first|refine aR ?_|refine bf ?_|refine bM ?_|refine a6 Z ?_|refine bJ ?_|refine aP ?_|refine aS ?_|refine aG ?_|refine aK ?_|refine aH Z ?_|refine noGoto_ret ?_|refine noGoto_exit ?_|refine noGoto_normal ?_))
 refine cp ?_;refine cp ?_;refine dp ?_;refine bv Z ?_;refine aA Z Z Z Z ?_;refine bv Z ?_;refine kt Z Z Z Z Z Z Z Z (λ b hb=>?_);refine cr ?_
 (repeat (first|refine aR ?_|refine bf ?_|refine bM ?_|refine a6 Z ?_|refine bJ ?_|refine aP ?_|refine aS ?_|refine aG ?_|refine aK ?_|refine aH Z ?_|refine noGoto_ret ?_|refine noGoto_exit ?_|refine noGoto_normal ?_))
 refine sZ Z (λ hc=>?_) (λ hc=>?_)
 ·have he:l=[]:=by simpa using hb hc
  subst he
  cases h
 ·skip
  refine jP ?_
  (repeat (first|refine aR ?_|refine bf ?_|refine bM ?_|refine a6 Z ?_|refine bJ ?_|refine aP ?_|refine aS ?_|refine aG ?_|refine aK ?_|refine aH Z ?_|refine noGoto_ret ?_|refine noGoto_exit ?_|refine noGoto_normal ?_))
  refine cp ?_;refine dp ?_;refine bv Z ?_;refine qZ Z Z Z Z Z Z 5 ?_;refine bv Z ?_;refine aA Z Z Z Z ?_;refine bv Z ?_;refine wH ah [] l Z Z Z Z Z Z Z Z Z Z Z Z Z Z Z (λ x=>congrArg List.length (aa.B' x)) Z Z Z (by simpa using CE) ?_;refine bv Z ?_;refine bq Z Z Z Z ?_;refine cr ?_
  (repeat (first|refine aR ?_|refine bf ?_|refine bM ?_|refine a6 Z ?_|refine bJ ?_|refine aP ?_|refine aS ?_|refine aG ?_|refine aK ?_|refine aH Z ?_|refine noGoto_ret ?_|refine noGoto_exit ?_|refine noGoto_normal ?_))
  refine gR ?_
  (repeat (first|refine aR ?_|refine bf ?_|refine bM ?_|refine a6 Z ?_|refine bJ ?_|refine aP ?_|refine aS ?_|refine aG ?_|refine aK ?_|refine aH Z ?_|refine noGoto_ret ?_|refine noGoto_exit ?_|refine noGoto_normal ?_))
  exact jY (bp 7 800000 Z Z Z Z (lf Z (jK _) Z)) Z Z Z (lf Z (jK _) Z) (AV.sub_of_eq (congrArg (AV.arr 2000000 5 0) G)) ⟨⟨_,Z,cq _⟩,trivial⟩
theorem ez (l:List ac)(CE:l.length*32<=140737488355328):bs Tryz.prog 85 [.p (eL ag l)] [] (λ x y=>x=.vec 2000000 3 0 (l.map ag)/\y=[]):=by
 refine gN good [800000] [] Tryz.func85 Z Z Z Z Z λ w0 F=>?_;refine cp ?_;refine dp ?_;refine bv Z ?_;refine bq Z Z Z Z ?_;refine cr ?_
 (repeat (first|refine aR ?_|refine bf ?_|refine bM ?_|refine a6 Z ?_|refine bJ ?_|refine aP ?_|refine aS ?_|refine aG ?_|refine aK ?_|refine aH Z ?_|refine noGoto_ret ?_|refine noGoto_exit ?_|refine noGoto_normal ?_))
 refine cp ?_;refine cp ?_;refine dp ?_;refine bv Z ?_;refine aA Z Z Z Z ?_;refine bv Z ?_;refine kt Z Z Z Z Z Z Z Z (λ b hb=>?_);refine cr ?_
 (repeat (first|refine aR ?_|refine bf ?_|refine bM ?_|refine a6 Z ?_|refine bJ ?_|refine aP ?_|refine aS ?_|refine aG ?_|refine aK ?_|refine aH Z ?_|refine noGoto_ret ?_|refine noGoto_exit ?_|refine noGoto_normal ?_))
 refine sZ Z (λ hc=>?_) (λ hc=>?_)
 ·have he:l=[]:=by simpa using hb hc
  subst he;refine cp ?_;refine dp ?_;refine bv rfl ?_;refine bq Z Z Z Z ?_;refine cr ?_
  (repeat (first|refine aR ?_|refine bf ?_|refine bM ?_|refine a6 Z ?_|refine bJ ?_|refine aP ?_|refine aS ?_|refine aG ?_|refine aK ?_|refine aH Z ?_|refine noGoto_ret ?_|refine noGoto_exit ?_|refine noGoto_normal ?_))
  refine gR ?_
  (repeat (first|refine aR ?_|refine bf ?_|refine bM ?_|refine a6 Z ?_|refine bJ ?_|refine aP ?_|refine aS ?_|refine aG ?_|refine aK ?_|refine aH Z ?_|refine noGoto_ret ?_|refine noGoto_exit ?_|refine noGoto_normal ?_))
  exact jY (bB _) Z Z Z Z (AV.sub_nilvec _ _ _) trivial
 ·skip
  refine jP ?_
  (repeat (first|refine aR ?_|refine bf ?_|refine bM ?_|refine a6 Z ?_|refine bJ ?_|refine aP ?_|refine aS ?_|refine aG ?_|refine aK ?_|refine aH Z ?_|refine noGoto_ret ?_|refine noGoto_exit ?_|refine noGoto_normal ?_))
  refine cp ?_;refine dp ?_;refine bv Z ?_;refine pk Z Z Z Z Z Z Z 5 3 ?_;refine bv Z ?_;refine aA Z Z Z Z ?_;refine bv Z ?_;refine dS ag [] l Z Z Z Z Z Z Z Z Z Z Z Z Z (λ x=>congrArg List.length (ac.B' x)) Z Z Z Z (by simpa using CE) ?_;refine bv Z ?_;refine bq Z Z Z Z ?_;refine cr ?_
  (repeat (first|refine aR ?_|refine bf ?_|refine bM ?_|refine a6 Z ?_|refine bJ ?_|refine aP ?_|refine aS ?_|refine aG ?_|refine aK ?_|refine aH Z ?_|refine noGoto_ret ?_|refine noGoto_exit ?_|refine noGoto_normal ?_))
  refine gR ?_
  (repeat (first|refine aR ?_|refine bf ?_|refine bM ?_|refine a6 Z ?_|refine bJ ?_|refine aP ?_|refine aS ?_|refine aG ?_|refine aK ?_|refine aH Z ?_|refine noGoto_ret ?_|refine noGoto_exit ?_|refine noGoto_normal ?_))
  exact jY (bp 7 800000 Z Z Z Z Z) Z Z Z Z (AV.sub_refl _) trivial
theorem hU (l:List Bk)(CE:l.length*16<=140737488355328):bs Tryz.prog 72 [.p (eL eS l)] [] (λ x y=>x=.stk 2000000 1 (l.map eS)/\y=[]):=by
 refine gN good [800000] [] Tryz.func72 Z Z Z Z Z λ w0 F=>?_;refine cp ?_;refine dp ?_;refine bv Z ?_;refine bq Z Z Z Z ?_;refine cr ?_
 (repeat (first|refine aR ?_|refine bf ?_|refine bM ?_|refine a6 Z ?_|refine bJ ?_|refine aP ?_|refine aS ?_|refine aG ?_|refine aK ?_|refine aH Z ?_|refine noGoto_ret ?_|refine noGoto_exit ?_|refine noGoto_normal ?_))
 refine cp ?_;refine cp ?_;refine dp ?_;refine bv Z ?_;refine aA Z Z Z Z ?_;refine bv Z ?_;refine kt Z Z Z Z Z Z Z Z (λ b hb=>?_);refine cr ?_
 (repeat (first|refine aR ?_|refine bf ?_|refine bM ?_|refine a6 Z ?_|refine bJ ?_|refine aP ?_|refine aS ?_|refine aG ?_|refine aK ?_|refine aH Z ?_|refine noGoto_ret ?_|refine noGoto_exit ?_|refine noGoto_normal ?_))
 refine sZ Z (λ hc=>?_) (λ hc=>?_)
 ·have he:l=[]:=by simpa using hb hc
  subst he;refine cp ?_;refine dp ?_;refine bv rfl ?_;refine bq Z Z Z Z ?_;refine cr ?_
  (repeat (first|refine aR ?_|refine bf ?_|refine bM ?_|refine a6 Z ?_|refine bJ ?_|refine aP ?_|refine aS ?_|refine aG ?_|refine aK ?_|refine aH Z ?_|refine noGoto_ret ?_|refine noGoto_exit ?_|refine noGoto_normal ?_))
  refine gR ?_
  (repeat (first|refine aR ?_|refine bf ?_|refine bM ?_|refine a6 Z ?_|refine bJ ?_|refine aP ?_|refine aS ?_|refine aG ?_|refine aK ?_|refine aH Z ?_|refine noGoto_ret ?_|refine noGoto_exit ?_|refine noGoto_normal ?_))
  exact jY (bB _) Z Z Z Z (AV.sub_nilstk _ _) trivial
 ·skip
  refine jP ?_
  (repeat (first|refine aR ?_|refine bf ?_|refine bM ?_|refine a6 Z ?_|refine bJ ?_|refine aP ?_|refine aS ?_|refine aG ?_|refine aK ?_|refine aH Z ?_|refine noGoto_ret ?_|refine noGoto_exit ?_|refine noGoto_normal ?_))
  refine cp ?_;refine dp ?_;refine bv Z ?_;refine xA Z Z Z Z Z Z 5 1 ?_;refine bv Z ?_;refine aA Z Z Z Z ?_;refine bv Z ?_;by_cases hl:l=[]
  ·subst hl;refine wW Z Z Z Z Z Z Z Z Z Z Z Z ?_;refine bv rfl ?_;refine bq Z Z Z Z ?_;refine cr ?_
   (repeat (first|refine aR ?_|refine bf ?_|refine bM ?_|refine a6 Z ?_|refine bJ ?_|refine aP ?_|refine aS ?_|refine aG ?_|refine aK ?_|refine aH Z ?_|refine noGoto_ret ?_|refine noGoto_exit ?_|refine noGoto_normal ?_))
   refine gR ?_
   (repeat (first|refine aR ?_|refine bf ?_|refine bM ?_|refine a6 Z ?_|refine bJ ?_|refine aP ?_|refine aS ?_|refine aG ?_|refine aK ?_|refine aH Z ?_|refine noGoto_ret ?_|refine noGoto_exit ?_|refine noGoto_normal ?_))
   exact jY (bp 5 800000 Z Z Z Z Z) Z Z Z Z (AV.sub_refl _) trivial
  ·refine yd eS (λ _=>⟨Z,Z⟩) [] l Z Z Z Z Z Z Z Z Z Z Z Z (List.length_pos_iff.2 hl) Z Z Z (by simpa using CE) Z Z ?_;refine bv Z ?_;refine bq Z Z Z Z ?_;refine cr ?_
   (repeat (first|refine aR ?_|refine bf ?_|refine bM ?_|refine a6 Z ?_|refine bJ ?_|refine aP ?_|refine aS ?_|refine aG ?_|refine aK ?_|refine aH Z ?_|refine noGoto_ret ?_|refine noGoto_exit ?_|refine noGoto_normal ?_))
   refine gR ?_
   (repeat (first|refine aR ?_|refine bf ?_|refine bM ?_|refine a6 Z ?_|refine bJ ?_|refine aP ?_|refine aS ?_|refine aG ?_|refine aK ?_|refine aH Z ?_|refine noGoto_ret ?_|refine noGoto_exit ?_|refine noGoto_normal ?_))
   exact jY (bp 5 800000 Z Z Z Z Z) Z Z Z Z (AV.sub_refl _) trivial
namespace R06
def bh (l:List ac):Option (List ac):=ck (l.length*32<=140737488355328) (some l)
theorem cM (l r:List ac)(h:bh l=some r):bs Tryz.prog 85 [.p (eL ag l)] [] (λ x y=>x=.vec 2000000 3 0 (r.map ag)/\y=[]):=by
 obtain ⟨h1,h2⟩:=cU h
 cases h2
 exact ez l h1
end R06
end Go.Ab
end
section
namespace Go.Ab.R06
open Go.Proofs Go.Ab Go.Ab.RB
attribute [local irreducible] awp ea aO au bs AV.sub M bY
def fy (DL:Int):Option Bool :=(if (-9007199254740992)<=DL then some (decide (DL<=9007199254740992))else some false : Option Bool).bind λ t2=>some t2
theorem kh (DL:Int)(r:Bool)(h0:fy DL=some r):au Tryz.prog 106 [eI DL] (·=.p (eB r)):=by
 unfold fy at h0;refine aZ good Tryz.func106 Z Z Z λ w0=>mP (λ v:Bool=>.p (eB v)) ?_;refine nx 5 Z (bd h0 λ o4 h1 h0=>?_);refine kN o4 (λ v5=>⟨[(2,.p (eB v5))],[]⟩) ?_ ?_
 ·exact nx 2 Z (mQ (oi h0) Z (sr))
 refine nx 4 Z (fD [4,5] h1 Z (λ c1 h1=>?_) λ c1 h1=>?_)
 ·exact nx 5 Z (eX _ (oi h1).symm (gE Z Z))
 exact nx 5 Z (eX _ (oi h1).symm (gE Z Z))
def dx (s7:Bk):Nat->Int->Option (Unit⊕Bool)|0,_=>none|m+1,DU=>if DU<(s7.length:Int) then(ck ((0:Int)<=DU/\DU<(s7.length:Int))<|if byt s7 DU<48 then some true else ck ((0:Int)<=DU/\DU<(s7.length:Int))<|some (decide (57<byt s7 DU)) : Option Bool).bind λ t21=>if t21=true then some (.inr false)else ck (inR (DU+1))<|dx s7 m (DU+1)else some (.inl ())
def hH (n:Nat)(CB:Bk):Option Bool :=jn ((if 0<(CB.length:Int) then ck ((0:Int)<=0/\0<(CB.length:Int))<|some (decide (byt CB 0=45))else some false : Option Bool).bind λ t3=>if t3=true then ck ((0:Int)<=1/\1<=(CB.length:Int)/\(CB.length:Int)<=(CB.length:Int))<|if sub CB 1 (CB.length:Int)=([48]:Bk) then some (.inr false)else some (.inl (sub CB 1 (CB.length:Int)))else some (.inl CB) : Option (Bk⊕Bool)) λ s7=>jn (dx s7 n 0) λ EW=>(if s7=([]:Bk) then some false else ck ((0:Int)<=0/\0<(s7.length:Int))<|if byt s7 0=48 then some (decide ((s7.length:Int)=1))else some true : Option Bool).bind λ t28=>some t28
theorem lz (n:Nat)(CB:Bk)(r:Bool)(h0:hH n CB=some r):au Tryz.prog 120 [eS CB] (·=.p (eB r)):=by
 unfold hH at h0;refine aZ good Tryz.func120 Z Z Z λ w0=>mP (λ v:Bool=>.p (eB v)) ?_;refine nx 5 rfl ?_;obtain ⟨o34,h1,C9,hR0⟩:=dl h0;refine kX (λ E0:Bk=>o34=.inl E0) (λ E0=>⟨[(0,.p (eS E0))],[]⟩) (λ E0 hv=>?_) ?_
 ·have h0:=C9 _ hv;refine nx 5 rfl (oLs rfl ?_);refine nx 3 rfl ?_;obtain ⟨o36,h1,C9,hR0⟩:=dl h0;refine kEx 0 (λ v37:Unit=>o36=.inl v37) (λ v37=>⟨[(0,.p (eS E0))],[]⟩) (λ v37 hv=>?_) ?_
  ·have h0:=C9 _ hv;refine nx 2 Z (bd h0 λ o38 h1 h0=>?_);refine kN o38 (λ v39=>⟨[(2,.p (eB v39))],[]⟩) ?_ ?_
   ·exact nx 2 Z (mQ (oi h0) Z (sr))
   refine nx 2 Z (oS Z Z ?_);refine nx 1 Z (fN [33,34] h1 Z (λ EM h1=>?_) λ EM h1=>?_)
   ·exact nx 11 Z (eX _ (oi h1).symm (gE Z Z))
   refine nx 1 Z (oI h1 Z λ Ep h1=>?_);refine nx 2 Z (fN [37,38] h1 Z (λ Ft h1=>?_) λ Ft h1=>?_)
   ·refine nx 1 Z (oLs Z ?_);exact nx 5 Z (eX _ (oi h1).symm (gE Z Z))
   exact nx 7 Z (eX _ (oi h1).symm (gE Z Z))
  refine lG (λ (E7:Int)=>⟨[(0,.p (eS E0)),(17,.p (eI (E0.length:Int))),(18,.p (eI E7))],[]⟩) (λ m (E7:Int)=>dx E0 m E7) Y 0 h1 (gE rfl rfl) ?_;rintro m DU h1;replace h1:dx E0 (m+1) DU=some o36:=h1;rw [dx] at h1;refine nx 5 rfl (fD [19] h1 rfl (λ Fu h1=>?_) λ Fu h1=>?_)
  ·refine nx 10 Z (bd h1 λ GL h2 h1=>?_);refine kN GL (λ Eb=>⟨[(0,.p (eS E0)),(17,.p (eI (E0.length:Int))),(18,.p (eI DU)),(30,.p (eB Eb))],[]⟩) ?_ ?_
   ·refine nx 1 Z (fB [30] h1 Z (λ c22 h1=>?_) λ c22 h1=>?_)
    ·exact nx 6 Z (mQ (hR0 _ (oi h1).symm) Z (sr))
    refine nx 3 Z (oA h1 Z Z λ DI h1=>?_);exact nx 2 Z (eX (DU+1) h1 (gE Z Z))
   refine nx 3 Z (oI h2 Z λ D3 h2=>?_);refine nx 2 Z (fD [24,25] h2 Z (λ D8 h2=>?_) λ D8 h2=>?_)
   ·exact nx 6 Z (eX _ (oi h2).symm (gE Z Z))
   refine nx 2 Z (oI h2 Z λ C4 h2=>?_);exact nx 3 Z (eX _ (oi h2).symm (gE Z Z))
  exact nx 2 Z (eXi _ (oi h1).symm (gE Z Z))
 refine nx 1 Z (bd h1 λ FF h2 h1=>?_);refine kN FF (λ F1=>⟨[(0,.p (eS CB)),(11,.p (eB F1))],[]⟩) ?_ ?_
 ·refine nx 1 Z (fB [11] h1 Z (λ c4 h1=>?_) λ c4 h1=>?_)
  ·refine nx 4 Z (oP h1 Z Z Z λ Hl h1=>?_);refine nx 5 Z (oS Z Z ?_);refine nx 1 Z (fD [15] h1 Z (λ c6 h1=>?_) λ c6 h1=>?_)
   ·exact nx 6 Z (mQ (hR0 _ (oi h1).symm) Z (sr))
   exact nx 2 Z (eX _ (oi h1).symm (gE Z Z))
  exact nx 2 Z (eX _ (oi h1).symm (gE Z Z))
 refine nx 2 Z (oLs Z ?_);refine nx 2 Z (fD [6,7] h2 Z (λ c1 h2=>?_) λ c1 h2=>?_)
 ·refine nx 1 Z (oI h2 Z λ D1 h2=>?_);exact nx 3 Z (eX _ (oi h2).symm (gE Z Z))
 exact nx 5 Z (eX _ (oi h2).symm (gE Z Z))
def jX (n:Nat)(CB:Bk):Option (Int×Int) :=(hH n CB).bind λ r1=>if (!r1)=true then some (0,2)else(jT CB 10 64).bind λ r4=>(if r4.2=true then some true else(fy r4.1).bind λ r7=>some (!r7) : Option Bool).bind λ t9=>if t9=true then some (0,5)else some (r4.1,0)
theorem og (n:Nat)(CB:Bk)(r:Int×Int)(h0:jX n CB=some r):au Tryz.prog 91 [eS CB] (·=.tuple [.p (eI r.1),.p (eI r.2)]):=by
 unfold jX at h0;refine aZ good Tryz.func91 Z Z Z λ w0=>mP (λ v:Int×Int=>.tuple [.p (eI v.1),.p (eI v.2)]) ?_;refine nx 9 Z (bd h0 λ r1 e2 h0=>?_);refine oK (lz _ CB _ e2) Z ⟨sr,trivial⟩ Tryz.call120 Z (nx 2 Z ?_);refine fB [8] h0 Z (λ c3 h0=>?_) λ c3 h0=>?_
 ·exact nx 7 Z (mQ (oi h0) Z (ar ⟨sr,sr,trivial⟩))
 refine nx 5 Z (bd h0 λ r4 e5 h0=>?_);refine oK (lB CB 10 64 _ e5) Z ⟨sr,sr,sr,trivial⟩ Tryz.call121 (xF (nT Z (nT (BP _) uw))) (nx 8 Z ?_);refine bd h0 λ o12 h1 h0=>kN o12 (λ v13=>⟨[(4,.p (eI r4.1)),(20,.p (eB v13))],[]⟩) ?_ ?_
 ·refine nx 1 Z (fB [20] h0 Z (λ GH h0=>?_) λ GH h0=>?_)
  ·exact nx 7 Z (mQ (oi h0) Z (ar ⟨sr,sr,trivial⟩))
  exact nx 9 Z (mQ (oi h0) Z (ar ⟨sr,sr,trivial⟩))
 refine nx 2 Z (mO Z (BF Z Z Z Z Z Z (.inr ⟨Z,Z⟩) ?_));refine nx 1 Z (fB [15,16] h1 Z (λ c6 h1=>?_) λ c6 h1=>?_)
 ·exact nx 5 Z (eX _ (oi h1).symm (gE Z Z))
 refine nx 1 Z (bd h1 λ r7 e8 h1=>?_);refine oK (kh r4.1 _ e8) Z ⟨sr,trivial⟩ Tryz.call106 Z (nx 3 Z ?_);exact eX _ (oi h1).symm (gE Z Z)
def jF (DL:Int):Option Bk :=(strconv_Itoa DL).bind λ r1=>some r1
theorem mX (DL:Int)(r:Bk)(h0:jF DL=some r):au Tryz.prog 50 [eI DL] (·=.p (eS r)):=by
 unfold jF at h0;refine aZ good Tryz.func50 Z Z Z λ w0=>mP (λ v:Bk=>.p (eS v)) ?_;refine nx 7 Z (bd h0 λ r1 e2 h0=>?_);refine oK (oh DL _ e2) Z ⟨sr,trivial⟩ Tryz.call80 Z (nx 3 Z ?_);exact mQ (oi h0) Z (sr)
def cS (CB:Bk):Nat->Int->Int->Option (Int×Int)|0,_,_=>none|m+1,n11,i12=>(if i12<(CB.length:Int) then some (decide (i12<6))else some false : Option Bool).bind λ Ex=>if Ex=true then ck ((0:Int)<=i12/\i12<(CB.length:Int))<|(strings_IndexByte ([48,49,50,51,52,53,54,55,56,57,97,98,99,100,101,102]:Bk) (byt CB i12)).bind λ DV=>if DV<0 then some (n11,i12)else ck (inR (i12+1))<|cS CB m (IntKind.wrap .i32 ((IntKind.wrap .i32 (16*n11))+(IntKind.wrap .i32 (DV)))) (i12+1)else some (n11,i12)
def gh (n:Nat)(CB:Bk):Option (Int×Int×Int) :=(cS CB n 0 0).bind λ EU=>if EU.2=(CB.length:Int) then some (0,0,40)else(ck ((0:Int)<=EU.2/\EU.2<(CB.length:Int))<|if byt CB EU.2=125 then if EU.2=0 then some true else if 1<EU.2 then ck ((0:Int)<=0/\0<(CB.length:Int))<|if byt CB 0=48 then some true else(eC EU.1).bind λ Eh=>some (!Eh)else(eC EU.1).bind λ Ey=>some (!Ey)else some true : Option Bool).bind λ t36=>if t36=true then some (0,0,2)else ck (inR (EU.2+1))<|some (EU.1,EU.2+1,0)
theorem kk (n:Nat)(CB:Bk)(r:Int×Int×Int)(h0:gh n CB=some r):au Tryz.prog 138 [eS CB] (·=.tuple [.p (eK .i32 r.1),.p (eI r.2.1),.p (eI r.2.2)]):=by
 unfold gh at h0;refine aZ good Tryz.func138 Z Z Z λ w0=>mP (λ v:Int×Int×Int=>.tuple [.p (eK .i32 v.1),.p (eI v.2.1),.p (eI v.2.2)]) ?_;refine nx 13 Z (bd h0 λ EA h1 h0=>?_);refine kE 0 EA (λ EQ=>⟨[(0,.p (eS CB)),(5,.p (eK .i32 EQ.1)),(6,.p (eI EQ.2))],[]⟩) ?_ ?_
 ·refine nx 6 Z (oLs Z ?_);refine nx 2 Z (fD [32] h0 Z (λ EM h0=>?_) λ EM h0=>?_)
  ·exact nx 8 Z (mQ (oi h0) Z (ar ⟨sr,sr,sr,trivial⟩))
  refine nx 4 Z (bd h0 λ EX h1 h0=>?_);refine kN EX (λ Ej=>⟨[(5,.p (eK .i32 EA.1)),(6,.p (eI EA.2)),(54,.p (eB Ej))],[]⟩) ?_ ?_
  ·refine nx 1 Z (fB [54] h0 Z (λ c37 h0=>?_) λ c37 h0=>?_)
   ·exact nx 8 Z (mQ (oi h0) Z (ar ⟨sr,sr,sr,trivial⟩))
   refine nx 6 Z (oA h0 Z Z λ Fh h0=>?_);exact nx 5 Z (mQ (oi h0) Z (ar ⟨sr,sr,sr,trivial⟩))
  refine nx 3 Z (oI h1 Z λ Ep h1=>?_);refine nx 2 Z (fN [36,37] h1 Z (λ Ft h1=>?_) λ Ft h1=>?_)
  ·refine nx 4 Z (fD [39,40,41] h1 Z (λ GD h1=>?_) λ GD h1=>?_)
   ·exact nx 14 Z (eX _ (oi h1).symm (gE Z Z))
   refine nx 3 Z (fD [43,44] h1 Z (λ Fs h1=>?_) λ Fs h1=>?_)
   ·refine nx 1 Z (oI h1 Z λ Hp h1=>?_);refine nx 4 Z (fD [47,48,49,50] h1 Z (λ Eu h1=>?_) λ Eu h1=>?_)
    ·exact nx 5 Z (eX _ (oi h1).symm (gE Z Z))
    refine nx 1 Z (bd h1 λ Eh Gx h1=>?_);refine oK (fK EA.1 _ Gx) Z ⟨sr,trivial⟩ Tryz.call123 Z (nx 3 Z ?_);exact eX _ (oi h1).symm (gE Z Z)
   refine nx 7 Z (bd h1 λ Ey Gw h1=>?_);refine oK (fK EA.1 _ Gw) Z ⟨sr,trivial⟩ Tryz.call123 Z (nx 3 Z ?_);exact eX _ (oi h1).symm (gE Z Z)
  exact nx 18 Z (eX _ (oi h1).symm (gE Z Z))
 refine lG (λ (Ec:Int×Int)=>⟨[(0,.p (eS CB)),(5,.p (eK .i32 Ec.1)),(6,.p (eI Ec.2))],[]⟩) (λ m (Ec:Int×Int)=>cS CB m Ec.1 Ec.2) Y (0,0) h1 (gE rfl rfl) ?_;rintro m ⟨n11,i12⟩ h1;replace h1:cS CB (m+1) n11 i12=some EA:=h1;rw [cS] at h1;refine nx 2 rfl (bd h1 λ Gf h2 h1=>?_);refine kN Gf (λ F0=>⟨[(0,.p (eS CB)),(5,.p (eK .i32 n11)),(6,.p (eI i12)),(15,.p (eB F0))],[]⟩) ?_ ?_
 ·refine nx 1 Z (fB [15] h1 Z (λ FP h1=>?_) λ FP h1=>?_)
  ·refine nx 8 Z (oI h1 Z λ Dl h1=>?_);refine bd h1 λ DV FW h1=>oK (ky ([48,49,50,51,52,53,54,55,56,57,97,98,99,100,101,102]:Bk) (byt CB i12) _ FW) Z ⟨sr,sr,trivial⟩ Tryz.call122 Z (nx 8 Z ?_);refine fD [23] h1 Z (λ D8 h1=>?_) λ D8 h1=>?_
   ·exact nx 2 Z (eXi _ (oi h1).symm (gE Z Z))
   refine nx 12 Z (oA h1 Z Z λ C4 h1=>?_);exact nx 2 Z (eX (IntKind.wrap .i32 ((IntKind.wrap .i32 (16*n11))+(IntKind.wrap .i32 (DV))),i12+1) h1 (gE Z Z))
  exact nx 2 Z (eXi _ (oi h1).symm (gE Z Z))
 refine nx 3 Z (oLs Z ?_);refine nx 2 Z (fD [11,12] h2 Z (λ EP h2=>?_) λ EP h2=>?_)
 ·exact nx 4 Z (eX _ (oi h2).symm (gE Z Z))
 exact nx 4 Z (eX _ (oi h2).symm (gE Z Z))
def jD (n:Nat)(CB:Bk):Option (Int×Int×Int) :=if CB=([]:Bk) then some (0,0,40)else ck ((0:Int)<=0/\0<(CB.length:Int))<|if byt CB 0=110 then some (10,1,0)else if byt CB 0=114 then some (13,1,0)else if byt CB 0=116 then some (9,1,0)else(if byt CB 0=34 then some true else some (decide (byt CB 0=92)) : Option Bool).bind λ t7=>if t7=true then ck ((0:Int)<=0/\0<(CB.length:Int))<|some (IntKind.wrap .i32 (byt CB 0),1,0)else if byt CB 0=117 then if (CB.length:Int)=1 then some (0,0,40)else ck ((0:Int)<=1/\1<(CB.length:Int))<|if byt CB 1=123 then ck ((0:Int)<=2/\2<=(CB.length:Int)/\(CB.length:Int)<=(CB.length:Int))<|(gh n (sub CB 2 (CB.length:Int))).bind λ Db=>ck (inR (Db.2.1+2))<|some (Db.1,Db.2.1+2,Db.2.2)else some (0,0,2)else some (0,0,2)
theorem mH (n:Nat)(CB:Bk)(r:Int×Int×Int)(h0:jD n CB=some r):au Tryz.prog 117 [eS CB] (·=.tuple [.p (eK .i32 r.1),.p (eI r.2.1),.p (eI r.2.2)]):=by
 unfold jD at h0;refine aZ good Tryz.func117 Z Z Z λ w0=>mP (λ v:Int×Int×Int=>.tuple [.p (eK .i32 v.1),.p (eI v.2.1),.p (eI v.2.2)]) ?_;refine nx 10 Z (oS Z Z ?_);refine nx 1 Z (fD [9] h0 Z (λ c1 h0=>?_) λ c1 h0=>?_)
 ·exact nx 8 Z (mQ (oi h0) Z (ar ⟨sr,sr,sr,trivial⟩))
 refine nx 6 Z (oI h0 Z λ D1 h0=>?_);refine nx 7 Z (fD [12,13] h0 Z (λ c3 h0=>?_) λ c3 h0=>?_)
 ·exact nx 8 Z (mQ (oi h0) Z (ar ⟨sr,sr,sr,trivial⟩))
 refine nx 6 Z (fD [14,15] h0 Z (λ c4 h0=>?_) λ c4 h0=>?_)
 ·exact nx 8 Z (mQ (oi h0) Z (ar ⟨sr,sr,sr,trivial⟩))
 refine nx 6 Z (fD [16,17] h0 Z (λ c5 h0=>?_) λ c5 h0=>?_)
 ·exact nx 8 Z (mQ (oi h0) Z (ar ⟨sr,sr,sr,trivial⟩))
 refine nx 2 Z (bd h0 λ o19 h1 h0=>?_);refine kN o19 (λ v20=>⟨[(0,.p (eS CB)),(11,.p (eK .u8 (byt CB 0))),(18,.p (eB v20))],[]⟩) ?_ ?_
 ·refine nx 1 Z (fB [18] h0 Z (λ c8 h0=>?_) λ c8 h0=>?_)
  ·refine nx 4 Z (oI h0 Z λ hk9 h0=>?_);exact nx 6 Z (mQ (oi h0) Z (ar ⟨sr,sr,sr,trivial⟩))
  refine nx 6 Z (fD [24,25] h0 Z (λ GH h0=>?_) λ GH h0=>?_)
  ·refine nx 5 Z (oLs Z ?_);refine nx 2 Z (fD [28] h0 Z (λ Eg h0=>?_) λ Eg h0=>?_)
   ·exact nx 8 Z (mQ (oi h0) Z (ar ⟨sr,sr,sr,trivial⟩))
   refine nx 6 Z (oI h0 Z λ EJ h0=>?_);refine nx 2 Z (fN [31] h0 Z (λ EP h0=>?_) λ EP h0=>?_)
   ·refine nx 5 Z (oP h0 Z Z Z λ Er h0=>?_);refine bd h0 λ Db FA h0=>oK (kk _ (sub CB 2 (CB.length:Int)) _ FA) Z ⟨sr,trivial⟩ Tryz.call138 Z (nx 12 Z ?_);refine oA h0 Z Z λ Ed h0=>nx 5 Z (mG (gE (t:=⟨[(2,.p (eK .i32 Db.1)),(3,.p (eI (Db.2.1+2))),(4,.p (eI Db.2.2))],[]⟩) Z Z) ?_);exact nx 1 Z (mQ (oi h0) Z (ar ⟨sr,sr,sr,trivial⟩))
   exact nx 8 Z (mQ (oi h0) Z (ar ⟨sr,sr,sr,trivial⟩))
  exact nx 9 Z (mQ (oi h0) Z (ar ⟨sr,sr,sr,trivial⟩))
 refine nx 5 Z (fD [18,19] h1 Z (λ c6 h1=>?_) λ c6 h1=>?_)
 ·exact nx 2 Z (eX _ (oi h1).symm (gE Z Z))
 exact nx 5 Z (eX _ (oi h1).symm (gE Z Z))
def d8 (n:Nat)(CB:Bk):Nat->Int->(List UInt8)->Option ((Int×(List UInt8))⊕(Bk×Int×Int))|0,_,_=>none|m+1,at31,FV=>(if at31<(CB.length:Int) then ck ((0:Int)<=at31/\at31<(CB.length:Int))<|some (!decide (byt CB at31=34))else some false : Option Bool).bind λ t35=>if t35=true then ck ((0:Int)<=at31/\at31<=(CB.length:Int)/\(CB.length:Int)<=(CB.length:Int))<|(d9 (sub CB at31 (CB.length:Int))).bind λ Ea=>jn (if Ea.1=92 then ck (inR (at31+1))<|ck ((0:Int)<=at31+1/\at31+1<=(CB.length:Int)/\(CB.length:Int)<=(CB.length:Int))<|(jD n (sub CB (at31+1) (CB.length:Int))).bind λ D'=>if D'.2.2=0 then ck (inR (D'.2.1+1))<|some (.inl (D'.1,D'.2.1+1))else some (.inr (.inr (([]:Bk),0,D'.2.2)))else(if Ea.1=65533 then if Ea.2=1 then some true else if Ea.1<32 then some true else some (decide (Ea.1=127))else if Ea.1<32 then some true else some (decide (Ea.1=127)) : Option Bool).bind λ t51=>if t51=true then some (.inr (.inr (([]:Bk),0,2)))else some (.inl (Ea.1,Ea.2)) : Option ((Int×Int)⊕((Int×(List UInt8))⊕(Bk×Int×Int)))) λ q71=>(dW (aC.mk FV) q71.1).bind λ GI=>ck (inR (at31+q71.2))<|d8 n CB m (at31+q71.2) GI.2.2.Cs else some (.inl (at31,FV))
def ji (n:Nat)(CB:Bk):Option (Bk×Int×Int) :=if CB=([]:Bk) then some (([]:Bk),0,40)else ck ((0:Int)<=0/\0<(CB.length:Int))<|if byt CB 0=34 then jn (d8 n CB n 1 []) λ q69=>if q69.1=(CB.length:Int) then some (([]:Bk),0,40)else(fO (aC.mk q69.2)).bind λ r63=>if 4096<r63.1 then some (([]:Bk),0,3)else(dz (aC.mk r63.2.Cs)).bind λ r66=>ck (inR (q69.1+1))<|some (r66.1,q69.1+1,0)else some (([]:Bk),0,2)
theorem my (n:Nat)(CB:Bk)(r:Bk×Int×Int)(h0:ji n CB=some r):au Tryz.prog 90 [eS CB] (·=.tuple [.p (eS r.1),.p (eI r.2.1),.p (eI r.2.2)]):=by
 unfold ji at h0;refine aZ good Tryz.func90 Z Z Z λ w0=>mP (λ v:Bk×Int×Int=>.tuple [.p (eS v.1),.p (eI v.2.1),.p (eI v.2.2)]) ?_;refine nx 10 Z (oS Z Z ?_);refine nx 1 Z (fD [13] h0 Z (λ c1 h0=>?_) λ c1 h0=>?_)
 ·exact nx 8 Z (mQ (oi h0) Z (ar ⟨sr,sr,sr,trivial⟩))
 refine nx 6 Z (oI h0 Z λ D1 h0=>?_);refine nx 2 Z (fN [16] h0 Z (λ c3 h0=>?_) λ c3 h0=>?_)
 ·refine nx 4 rfl (mO rfl (mR Z Z Z Z Z Z Z ?_));refine nx 7 rfl ?_;obtain ⟨o73,h1,C9,hR0⟩:=dl h0;refine kEx 0 (λ FB:Int×(List UInt8)=>o73=.inl FB) (λ FB=>⟨[(0,.p (eS CB)),(5,.ptr 5 0),(6,.p (eI FB.1))],[(5,[.bptr 65 2 5,.vec 101000 1 (5+1) (FB.2.map eU)])]⟩) (λ FB hv=>?_) ?_
  ·have h0:=C9 _ hv;refine nx 6 Z (oLs Z ?_);refine nx 2 Z (fD [73] h0 Z (λ c62 h0=>?_) λ c62 h0=>?_)
   ·exact nx 8 Z (mQ (oi h0) Z (ar ⟨sr,sr,sr,trivial⟩))
   refine nx 5 Z (bd h0 λ r63 e64 h0=>?_);refine mO Z (br [5] [101000] 103000 103001 (j1 (aC.mk FB.2) _ e64) Z Z Z Z Z ⟨sr,trivial⟩ Z Z ⟨⟨_,Z,⟨sr,sr,trivial⟩⟩,trivial⟩ Z Z Z Z Z Z Z Z Tryz.call119 Z Z ?_);refine nx 2 Z (fD [75] h0 Z (λ c65 h0=>?_) λ c65 h0=>?_)
   ·exact nx 8 Z (mQ (oi h0) Z (ar ⟨sr,sr,sr,trivial⟩))
   refine nx 4 Z (bd h0 λ r66 e67 h0=>?_);refine mO Z (br [5] [103000] 104000 104000 (dV (aC.mk r63.2.Cs) _ e67) Z Z Z Z Z ⟨sr,trivial⟩ Z Z ⟨⟨_,Z,⟨sr,sr,trivial⟩⟩,trivial⟩ Z Z Z Z Z Z Z Z Tryz.call53 Z Z ?_);refine nx 1 Z (oA h0 Z Z λ Hg h0=>?_);exact nx 5 Z (mQ (oi h0) Z (ar ⟨sr,sr,sr,trivial⟩))
  refine lG (λ (El:Int×(List UInt8))=>⟨[(0,.p (eS CB)),(5,.ptr 5 0),(6,.p (eI El.1))],[(5,[.bptr 65 2 5,.vec 101000 1 (5+1) (El.2.map eU)])]⟩) (λ m (El:Int×(List UInt8))=>d8 n CB m El.1 El.2) Y (1,[]) h1 (bS (fS ⟨er rfl,er rfl,er rfl,trivial⟩ ⟨⟨_,rfl,⟨sr,AV.sub_nilvec _ _ _,trivial⟩⟩,trivial⟩)) ?_;rintro m ⟨at31,FV⟩ h1;replace h1:d8 n CB (m+1) at31 FV=some o73:=h1;rw [d8] at h1;refine nx 2 rfl (bd h1 λ o76 h2 h1=>?_);refine kN o76 (λ v77=>⟨[(0,.p (eS CB)),(5,.ptr 5 0),(6,.p (eI at31)),(26,.p (eB v77))],[(5,[.bptr 65 2 5,.vec 101000 1 (5+1) (FV.map eU)])]⟩) ?_ ?_
  ·refine nx 1 Z (fB [26] h1 Z (λ Fq h1=>?_) λ Fq h1=>?_)
   ·refine nx 7 rfl (oP h1 Z Z Z λ En h1=>?_);refine bd h1 λ Ea Hw h1=>oK (gj (sub CB at31 (CB.length:Int)) _ Hw) rfl ⟨sr,trivial⟩ Tryz.call116 rfl (nx 7 rfl ?_);obtain ⟨GK,h2,hL1,hR1⟩:=dl h1;refine kX (λ EZ:Int×Int=>GK=.inl EZ) (λ EZ=>⟨[(0,.p (eS CB)),(5,.ptr 5 0),(6,.p (eI at31)),(7,.p (eK .i32 EZ.1)),(8,.p (eI EZ.2))],[(5,[.bptr 65 2 5,.vec 101000 1 (5+1) (FV.map eU)])]⟩) (λ EZ hv=>?_) ?_
    ·have h1:=hL1 _ hv;refine nx 4 Z (bd h1 λ GI e56 h1=>?_);refine mO Z (br [5] [101000] 102000 102001 (iC (aC.mk FV) EZ.1 _ e56) Z Z Z Z Z ⟨sr,sr,trivial⟩ Z Z ⟨⟨_,Z,⟨sr,sr,trivial⟩⟩,trivial⟩ Z Z Z Z Z Z Z Z Tryz.call118 Z Z ?_);refine nx 4 Z (oA h1 Z Z λ hk57 h1=>?_);exact nx 2 Z (eX (at31+EZ.2,GI.2.2.Cs) h1 (aQ (bp 102000 101000 Z Z Z Z Z) (gE Z Z)))
    refine nx 5 Z (fD [35] h2 Z (λ c40 h2=>?_) λ c40 h2=>?_)
    ·refine nx 5 Z (oA h2 Z Z λ Ho h2=>?_);refine oP h2 Z Z Z λ Hn h2=>bd h2 λ D' Hv h2=>oK (mH _ (sub CB (at31+1) (CB.length:Int)) _ Hv) Z ⟨sr,trivial⟩ Tryz.call117 Z (nx 14 Z ?_);refine fN [46] h2 Z (λ c45 h2=>?_) λ c45 h2=>?_
     ·refine nx 5 Z (oA h2 Z Z λ Gq h2=>?_);exact nx 3 Z (eX _ (oi h2).symm (gE Z Z))
     refine nx 8 Z (mG (gE (t:=⟨[(2,.p (eS ([]:Bk))),(3,.p (eI 0)),(4,.p (eI D'.2.2))],[]⟩) Z Z) ?_);exact nx 1 Z (mQ (hR0 _ (hR1 _ (oi h2).symm).symm) Z (ar ⟨sr,sr,sr,trivial⟩))
    refine nx 2 Z (bd h2 λ Dk h3 h2=>?_);refine kN Dk (λ GN=>⟨[(0,.p (eS CB)),(5,.ptr 5 0),(6,.p (eI at31)),(7,.p (eK .i32 Ea.1)),(8,.p (eI Ea.2)),(64,.p (eB GN))],[(5,[.bptr 65 2 5,.vec 101000 1 (5+1) (FV.map eU)])]⟩) ?_ ?_
    ·refine nx 1 Z (fB [64] h2 Z (λ HD h2=>?_) λ HD h2=>?_)
     ·exact nx 8 Z (mQ (hR0 _ (hR1 _ (oi h2).symm).symm) Z (ar ⟨sr,sr,sr,trivial⟩))
     exact nx 2 Z (eX _ (oi h2).symm (gE Z Z))
    refine nx 4 Z (fD [52,53] h3 Z (λ GB h3=>?_) λ GB h3=>?_)
    ·refine nx 4 Z (fD [55,56,57] h3 Z (λ c48 h3=>?_) λ c48 h3=>?_)
     ·exact nx 8 Z (eX _ (oi h3).symm (gE Z Z))
     refine nx 4 Z (fD [59,60,61] h3 Z (λ c49 h3=>?_) λ c49 h3=>?_)
     ·exact nx 4 Z (eX _ (oi h3).symm (gE Z Z))
     exact nx 4 Z (eX _ (oi h3).symm (gE Z Z))
    refine nx 8 Z (fD [59,60,61] h3 Z (λ HE h3=>?_) λ HE h3=>?_)
    ·exact nx 4 Z (eX _ (oi h3).symm (gE Z Z))
    exact nx 4 Z (eX _ (oi h3).symm (gE Z Z))
   exact nx 2 Z (eXi _ (oi h1).symm (gE Z Z))
  refine nx 3 Z (oLs Z ?_);refine nx 2 Z (fD [20,21] h2 Z (λ FM h2=>?_) λ FM h2=>?_)
  ·refine nx 2 Z (oI h2 Z λ Eo h2=>?_);exact nx 3 Z (eX _ (oi h2).symm (gE Z Z))
  exact nx 6 Z (eX _ (oi h2).symm (gE Z Z))
 exact nx 8 Z (mQ (oi h0) Z (ar ⟨sr,sr,sr,trivial⟩))
def d7 (CB:Bk):Option Bool :=(if (CB.length:Int)<=4096 then(cW CB).bind λ r2=>some r2 else some false : Option Bool).bind λ t4=>some t4
theorem n0 (CB:Bk)(r:Bool)(h0:d7 CB=some r):au Tryz.prog 48 [eS CB] (·=.p (eB r)):=by
 unfold d7 at h0;refine aZ good Tryz.func48 Z Z Z λ w0=>mP (λ v:Bool=>.p (eB v)) ?_;refine nx 5 Z (bd h0 λ o6 h1 h0=>?_);refine kN o6 (λ v7=>⟨[(2,.p (eB v7))],[]⟩) ?_ ?_
 ·exact nx 2 Z (mQ (oi h0) Z (sr))
 refine nx 2 Z (oLs Z ?_);refine nx 2 Z (fD [5,6] h1 Z (λ c1 h1=>?_) λ c1 h1=>?_)
 ·refine nx 1 Z (bd h1 λ r2 e3 h1=>?_);refine oK (iI CB _ e3) Z ⟨sr,trivial⟩ Tryz.call78 Z (nx 3 Z ?_);exact eX _ (oi h1).symm (gE Z Z)
 exact nx 5 Z (eX _ (oi h1).symm (gE Z Z))
def eH (CB:Bk):Nat->Int->(List UInt8)->Option (List UInt8)|0,_,_=>none|m+1,t37,Ee=>if t37<(CB.length:Int) then ck ((0:Int)<=t37/\t37<(CB.length:Int))<|(if byt CB t37=10 then(aX (aC.mk Ee) ([92,110]:Bk)).bind λ r42=>some r42.2.2.Cs else if byt CB t37=13 then(aX (aC.mk Ee) ([92,114]:Bk)).bind λ Ga=>some Ga.2.2.Cs else if byt CB t37=9 then(aX (aC.mk Ee) ([92,116]:Bk)).bind λ GU=>some GU.2.2.Cs else(if byt CB t37=34 then some true else some (decide (byt CB t37=92)) : Option Bool).bind λ t51=>if t51=true then(bN (aC.mk Ee) 92).bind λ GJ=>(bN (aC.mk GJ.2.Cs) (byt CB t37)).bind λ GI=>some GI.2.Cs else(if byt CB t37<32 then some true else some (decide (byt CB t37=127)) : Option Bool).bind λ t58=>if t58=true then ck (inR (byt CB t37))<|(jx (byt CB t37) 16).bind λ GR=>ck (([92,117,123]:Bk).length+GR.length<=9223372036854775807)<|ck ((([92,117,123]:Bk)++GR).length+([125]:Bk).length<=9223372036854775807)<|(aX (aC.mk Ee) ((([92,117,123]:Bk)++GR)++([125]:Bk))).bind λ r65=>some r65.2.2.Cs else(bN (aC.mk Ee) (byt CB t37)).bind λ r67=>some r67.2.Cs : Option (List UInt8)).bind λ f69=>ck (inR (t37+1))<|eH CB m (t37+1) f69 else some Ee
def ka (n:Nat)(CB:Bk):Option Bk :=(bN (aC.mk []) 34).bind λ r1=>(eH CB n 0 r1.2.Cs).bind λ f73=>(bN (aC.mk f73) 34).bind λ r74=>(dz (aC.mk r74.2.Cs)).bind λ r76=>some r76.1
theorem ol (n:Nat)(CB:Bk)(r:Bk)(h0:ka n CB=some r):au Tryz.prog 52 [eS CB] (·=.p (eS r)):=by
 unfold ka at h0;refine aZ good Tryz.func52 Z Z Z λ w0=>mP (λ v:Bk=>.p (eS v)) ?_;refine nx 6 Z (mO Z (mR Z Z Z Z Z Z Z ?_));refine nx 3 Z (bd h0 λ r1 e2 h0=>?_);refine mO Z (br [3] [890000] 101000 101001 (b7 (aC.mk []) 34 _ e2) Z Z Z Z Z ⟨sr,sr,trivial⟩ Z Z ⟨⟨_,Z,⟨sr,AV.sub_nilvec _ _ _,trivial⟩⟩,trivial⟩ Z Z Z Z Z Z Z Z Tryz.call81 Z Z ?_);refine nx 5 Z (oLs Z ?_);refine nx 3 Z (bd h0 λ G' h1 h0=>?_);refine kE 0 G' (λ v83=>⟨[(3,.ptr 3 0)],[(3,[.bptr 65 2 3,.vec 108000 1 (5+1) (v83.map eU)])]⟩) ?_ ?_
 ·refine nx 3 Z (bd h0 λ r74 e75 h0=>?_);refine mO Z (br [3] [108000] 116000 116001 (b7 (aC.mk G') 34 _ e75) Z Z Z Z Z ⟨sr,sr,trivial⟩ Z Z ⟨⟨_,Z,⟨sr,sr,trivial⟩⟩,trivial⟩ Z Z Z Z Z Z Z Z Tryz.call81 Z Z ?_);refine nx 3 Z (bd h0 λ r76 e77 h0=>?_);refine mO Z (br [3] [116000] 117000 117000 (dV (aC.mk r74.2.Cs) _ e77) Z Z Z Z Z ⟨sr,trivial⟩ Z Z ⟨⟨_,Z,⟨sr,sr,trivial⟩⟩,trivial⟩ Z Z Z Z Z Z Z Z Tryz.call53 Z Z ?_);exact nx 3 Z (mQ (oi h0) Z (sr))
 refine lG (λ (GZ:Int×(List UInt8))=>⟨[(0,.p (eS CB)),(3,.ptr 3 0),(8,.p (eI (CB.length:Int))),(9,.p (eI GZ.1))],[(3,[.bptr 65 2 3,.vec 108000 1 (5+1) (GZ.2.map eU)])]⟩) (λ m (GZ:Int×(List UInt8))=>eH CB m GZ.1 GZ.2) Y (0,r1.2.Cs) h1 (aQ (bp 101000 108000 rfl rfl rfl rfl rfl) (gE rfl rfl)) ?_;rintro m ⟨t37,Ee⟩ h1;replace h1:eH CB (m+1) t37 Ee=some G':=h1;rw [eH] at h1;refine nx 5 rfl (fD [10] h1 rfl (λ c39 h1=>?_) λ c39 h1=>?_)
 ·refine nx 13 Z (oI h1 Z λ Gs h1=>?_);refine nx 2 Z (bd h1 λ o85 h2 h1=>?_);refine kN o85 (λ v86=>⟨[(0,.p (eS CB)),(3,.ptr 3 0),(8,.p (eI (CB.length:Int))),(9,.p (eI t37))],[(3,[.bptr 65 2 3,.vec 115000 1 (5+1) (v86.map eU)])]⟩) ?_ ?_
  ·refine nx 2 Z (oA h1 Z Z λ Hf h1=>?_);exact nx 2 Z (eX (t37+1,o85) h1 (aQ (bp 115000 108000 Z Z Z Z Z) (gE Z Z)))
  refine nx 7 Z (fD [17,19] h2 Z (λ c41 h2=>?_) λ c41 h2=>?_)
  ·refine nx 2 Z (bd h2 λ r42 e43 h2=>?_);refine mO Z (br [3] [108000] 109000 109001 (bi (aC.mk Ee) ([92,110]:Bk) _ e43) Z Z Z Z Z ⟨sr,sr,trivial⟩ Z Z ⟨⟨_,Z,⟨sr,sr,trivial⟩⟩,trivial⟩ Z Z Z Z Z Z Z Z Tryz.call49 Z Z ?_);exact nx 1 Z (eX _ (oi h2).symm (aQ (bp 109000 115000 Z Z Z Z Z) (gE Z Z)))
  refine nx 7 Z (fD [21,23] h2 Z (λ c44 h2=>?_) λ c44 h2=>?_)
  ·refine nx 2 Z (bd h2 λ Ga e46 h2=>?_);refine mO Z (br [3] [108000] 110000 110001 (bi (aC.mk Ee) ([92,114]:Bk) _ e46) Z Z Z Z Z ⟨sr,sr,trivial⟩ Z Z ⟨⟨_,Z,⟨sr,sr,trivial⟩⟩,trivial⟩ Z Z Z Z Z Z Z Z Tryz.call49 Z Z ?_);exact nx 1 Z (eX _ (oi h2).symm (aQ (bp 110000 115000 Z Z Z Z Z) (gE Z Z)))
  refine nx 7 Z (fD [25,27] h2 Z (λ GB h2=>?_) λ GB h2=>?_)
  ·refine nx 2 Z (bd h2 λ GU e49 h2=>?_);refine mO Z (br [3] [108000] 111000 111001 (bi (aC.mk Ee) ([92,116]:Bk) _ e49) Z Z Z Z Z ⟨sr,sr,trivial⟩ Z Z ⟨⟨_,Z,⟨sr,sr,trivial⟩⟩,trivial⟩ Z Z Z Z Z Z Z Z Tryz.call49 Z Z ?_);exact nx 1 Z (eX _ (oi h2).symm (aQ (bp 111000 115000 Z Z Z Z Z) (gE Z Z)))
  refine nx 2 Z (bd h2 λ G9 h3 h2=>?_);refine kN G9 (λ v88=>⟨[(0,.p (eS CB)),(3,.ptr 3 0),(5,.p (eK .u8 (byt CB t37))),(8,.p (eI (CB.length:Int))),(9,.p (eI t37)),(29,.p (eB v88))],[(3,[.bptr 65 2 3,.vec 108000 1 (5+1) (Ee.map eU)])]⟩) ?_ ?_
  ·refine nx 1 Z (fB [29] h2 Z (λ HD h2=>?_) λ HD h2=>?_)
   ·refine nx 3 Z (bd h2 λ GJ e54 h2=>?_);refine mO Z (br [3] [108000] 112000 112001 (b7 (aC.mk Ee) 92 _ e54) Z Z Z Z Z ⟨sr,sr,trivial⟩ Z Z ⟨⟨_,Z,⟨sr,sr,trivial⟩⟩,trivial⟩ Z Z Z Z Z Z Z Z Tryz.call81 Z Z ?_);refine nx 3 Z (bd h2 λ GI e56 h2=>?_);refine mO Z (br [3] [112000] 113000 113001 (b7 (aC.mk GJ.2.Cs) (byt CB t37) _ e56) Z Z Z Z Z ⟨sr,sr,trivial⟩ Z Z ⟨⟨_,Z,⟨sr,sr,trivial⟩⟩,trivial⟩ Z Z Z Z Z Z Z Z Tryz.call81 Z Z ?_);exact nx 1 Z (eX _ (oi h2).symm (aQ (bp 113000 115000 Z Z Z Z Z) (gE Z Z)))
   refine nx 2 Z (bd h2 λ o89 h3 h2=>?_);refine kN o89 (λ v90=>⟨[(0,.p (eS CB)),(3,.ptr 3 0),(5,.p (eK .u8 (byt CB t37))),(8,.p (eI (CB.length:Int))),(9,.p (eI t37)),(39,.p (eB v90))],[(3,[.bptr 65 2 3,.vec 108000 1 (5+1) (Ee.map eU)])]⟩) ?_ ?_
   ·refine nx 1 Z (fB [39] h2 Z (λ c59 h2=>?_) λ c59 h2=>?_)
    ·refine nx 3 Z (cc' h2 λ hk60 h2=>?_);refine mO Z (dv Z Z Z Z Z Z Z Z (fY hk60) ?_);refine bd h2 λ GR e62 h2=>oK (kI (byt CB t37) 16 _ e62) Z ⟨sr,sr,trivial⟩ Tryz.call82 Z (oC h2 Z λ Hi h2=>?_);refine oC h2 Z λ Hh h2=>bd h2 λ r65 e66 h2=>mO Z (br [3] [108000] 114000 114001 (bi (aC.mk Ee) ((([92,117,123]:Bk)++GR)++([125]:Bk)) _ e66) Z Z Z Z Z ⟨sr,sr,trivial⟩ Z Z ⟨⟨_,Z,⟨sr,sr,trivial⟩⟩,trivial⟩ Z Z Z Z Z Z Z Z Tryz.call49 Z Z ?_);exact nx 1 Z (eX _ (oi h2).symm (aQ (bp 114000 115000 Z Z Z Z Z) (gE Z Z)))
    refine nx 3 Z (bd h2 λ r67 e68 h2=>?_);refine mO Z (br [3] [108000] 115000 115001 (b7 (aC.mk Ee) (byt CB t37) _ e68) Z Z Z Z Z ⟨sr,sr,trivial⟩ Z Z ⟨⟨_,Z,⟨sr,sr,trivial⟩⟩,trivial⟩ Z Z Z Z Z Z Z Z Tryz.call81 Z Z ?_);exact nx 1 Z (eX _ (oi h2).symm (gE Z Z))
   refine nx 4 Z (fD [41,42] h3 Z (λ c57 h3=>?_) λ c57 h3=>?_)
   ·exact nx 5 Z (eX _ (oi h3).symm (gE Z Z))
   exact nx 5 Z (eX _ (oi h3).symm (gE Z Z))
  refine nx 4 Z (fD [31,32] h3 Z (λ HE h3=>?_) λ HE h3=>?_)
  ·exact nx 5 Z (eX _ (oi h3).symm (gE Z Z))
  exact nx 5 Z (eX _ (oi h3).symm (gE Z Z))
 exact nx 2 Z (eXi _ (oi h1).symm (gE Z Z))
end Go.Ab.R06
end
section
namespace Go.Ab.R06
open Go.Ab Go.Ab.RB
section
variable {α β:Type} {P:α->Prop}
theorem ay {g:Nat->Nat->Option β}{k:Nat->Nat->β->Option α}(x:β)(h:Ev2 g (·=x))(hk:Ev2 (λ n m=>k n m x) P):Ev2 (λ n m=>(g n m).bind (k n m)) P :=
 bI (·=x) h λ y hy=>by subst hy; exact hk
end
def AA (b:UInt8):Bool:=(decide (97<=b.toNat)&&decide (b.toNat<=122))||(decide (65<=b.toNat)&&decide (b.toNat<=90))||decide (b.toNat=95)
def l5 (b:UInt8):Bool:=decide (48<=b.toNat)&&decide (b.toNat<=57)
def idB (b:UInt8):Bool:=AA b||l5 b
def uX:Bk->Bool|[]=>false|b::r=>decide ((b::r).length<=64)&&AA b&&r.all idB
def lK (p:Nat->Bool):Nat->Nat->Bool|_,0=>true|i,k+1=>p i&&lK p (i+1) k
theorem pU (b:UInt8):l5 b=true↔48<=b.toNat/\b.toNat<=57:=by simp [l5]
theorem eqB {a b:Bool}(h:a=true↔b=true):a=b:=Bool.eq_iff_iff.2 h
end Go.Ab.R06
namespace Go.Ab.R06
open Go.Ab Go.Ab.RB Go.Lib
def iy (acc:Nat)(l:Bk):Nat:=l.foldl (λ a b=>a*10+(b.toNat-48)) acc
theorem tY (a:Nat):iy a []=a:=rfl
theorem xG (a:Nat)(b:UInt8)(l:Bk):iy a (b::l)=iy (a*10+(b.toNat-48)) l:=by simp only [iy,List.foldl_cons]
theorem s6 (a:Nat)(l m:Bk):iy a (l++m)=iy (iy a l) m:=by simp [iy]
theorem rf (a:Nat)(l:Bk)(b:UInt8):iy a (l++[b])=iy a l*10+(b.toNat-48):=by rw [s6]; rfl
theorem wd {l:Bk}(h:l.all l5=true){b:UInt8}(hb:b∈l):48<=b.toNat/\b.toNat<=57:=(pU b).1 (qr.1 h b hb)
def ub (l:Bk):Bool:=!l.isEmpty&&l.all l5&&(decide (l.getD 0 0≠48)||decide (l.length=1))
theorem jc (l:Bk):ub l=true↔l≠[]/\l.all l5=true/\(l.getD 0 0≠48\/l.length=1):=by
 simp [ub,and_assoc]
def tN (s:Bk):Bool:=decide (0<s.length)&&decide (s.getD 0 0=45)
def digits (s:Bk):Bk:=if tN s=true then s.drop 1 else s
def ta (s:Bk):Bool:=!(tN s&&decide (s.drop 1=[48]))&&ub (digits s)
def pA (s:Bk):Int:=if tN s=true then -(iy 0 (digits s):Int) else (iy 0 (digits s):Int)
def j8:Int:=9007199254740992
def km (s:Bk):Int×Int:=if ta s=true then (if -j8<=pA s/\pA s<=j8 then (pA s,0) else (0,5)) else (0,2)
theorem tK {s:Bk}(h:ta s=true):digits s≠[]/\(digits s).all l5=true:=by
 simp only [ta,n7] at h;have:=(jc _).1 h.2;exact ⟨this.1,this.2.1⟩
theorem vM:∀ (n u:Nat),u<n->iy 0 (decDigits u)=u/\(decDigits u).all l5=true/\decDigits u≠[]/\((decDigits u).getD 0 0≠48\/(decDigits u).length=1)/\(1<=u->(decDigits u).getD 0 0≠48):=by
 intro n
 induction n with
 | zero=>intro u h; omega
 | succ n ih=>
  intro u hu
  have hdig:∀ k,k<10->(UInt8.ofNat (48+k)).toNat=48+k:=λ k hk=>by
   rw [UInt8.toNat_ofNat']; omega
  rw [decDigits];by_cases h:u<10
  ·rw [dif_pos h];have:=hdig u h;refine ⟨by rw [xG,tY,this]; omega,by simp only [List.all_cons,List.all_nil,Bool.and_true,pU,this]; omega,by simp,.inr rfl,λ h1=>?_⟩;intro q;have q':(UInt8.ofNat (48+u))=48:=q;rw [q'] at this;have:(48:UInt8).toNat=48:=rfl;omega
  ·rw [dif_neg h];obtain ⟨a1,a2,a3,a4,a5⟩:=ih (u / 10) O;have hd:=hdig (u%10) O
   have hh:(decDigits (u / 10)++[UInt8.ofNat (48+u%10)]).getD 0 0=(decDigits (u / 10)).getD 0 0:=by
    cases hx:decDigits (u / 10) with
    | nil=>exact absurd hx a3
    | cons c r=>rfl
   refine ⟨?_,?_,by simp,?_,?_⟩
   ·rw [rf,a1,hd]; omega
   ·rw [List.all_append,a2]; simp only [List.all_cons,List.all_nil,Bool.and_true,Bool.true_and,pU,hd]; omega
   ·rw [hh]; exact .inl (a5 O)
   ·rw [hh]; exact λ _=>a5 O
theorem nH:∀ (n:Nat) (l:Bk),l.length<=n->ub l=true->decDigits (iy 0 l)=l/\(l.getD 0 0≠48->1<=iy 0 l):=by
 intro n
 induction n with
 | zero=>intro l hl h; have:=((jc l).1 h).1; cases l <;> simp_all
 | succ n ih=>
  intro l hl h;obtain ⟨h1,h2,h3⟩:=(jc l).1 h
  have hof:∀ b:UInt8,48<=b.toNat->UInt8.ofNat (48+(b.toNat-48))=b:=λ b hb=>by
   rw [show 48+(b.toNat-48)=b.toNat by omega]; simp
  rcases List.eq_nil_or_concat l with rfl|⟨m,b,rfl⟩
  ·exact absurd Z h1
  ·simp only [List.concat_eq_append] at *;have hb:=wd h2 (b:=b) G;rw [rf];by_cases hm:m=[]
   ·subst hm;rw [tY,decDigits,dif_pos O];refine ⟨by simp [hof b hb.1],λ q=>?_⟩;have q:b≠48:=q;have:b.toNat≠48:=λ k=>q (UInt8.toNat_inj.1 k);omega
   ·have hcm:ub m=true:=by
     rw [jc];refine ⟨hm,?_,?_⟩
     ·rw [List.all_append,n7] at h2; exact h2.1
     ·rcases h3 with q|q
      ·left
       cases m with
       | nil=>exact absurd Z hm
       | cons c r=>exact q
      ·cases m with
       | nil=>exact absurd Z hm
       | cons c r=>simp at q
    obtain ⟨i1,i2⟩:=ih m (by simp at hl; omega) hcm
    have CQ:m.getD 0 0≠48:=by
     rcases h3 with q|q
     ·cases m with
      | nil=>exact absurd Z hm
      | cons c r=>exact q
     ·cases m with
      | nil=>exact absurd Z hm
      | cons c r=>simp at q
    have hpos:=i2 CQ;refine ⟨?_,λ _=>by omega⟩;rw [decDigits,dif_neg O];rw [show (iy 0 m*10+(b.toNat-48)) / 10=iy 0 m by omega,show (iy 0 m*10+(b.toNat-48))%10=b.toNat-48 by omega,i1,hof b hb.1]
theorem xp (v:Int)(h0:0<=v)(h1:v<=j8):km (itoa v)=(v,0):=by
 obtain ⟨u,rfl⟩:∃ u:Nat,v=u:=⟨v.toNat,by omega⟩
 have e:itoa (u:Int)=decDigits u:=by unfold itoa; rw [if_neg O]; simp
 obtain ⟨a1,a2,a3,a4,a5⟩:=vM (u+1) u O
 have hn:tN (decDigits u)=false:=by
  rw [<- Bool.not_eq_true];intro q;simp only [tN,n7,decide_eq_true_eq] at q
  have hm:(decDigits u).getD 0 0∈decDigits u:=by
   rw [List.getD_eq_getElem?_getD,List.getElem?_eq_getElem q.1]; exact List.getElem_mem _
  have:=wd a2 hm;rw [q.2] at this;have:(45:UInt8).toNat=45:=rfl;omega
 have hd:digits (decDigits u)=decDigits u:=by simp [digits,hn]
 have hc:ta (decDigits u)=true:=by
  simp only [ta,hn,hd,Bool.false_and,Bool.not_false,Bool.true_and];exact (jc _).2 ⟨a3,a2,a4⟩
 have hv:pA (decDigits u)=u:=by simp [pA,hn,hd,a1]
 rw [e,km,if_pos hc,hv,if_pos ⟨by unfold j8 at *; omega,h1⟩]
theorem xh (s:Bk)(v:Int)(h:km s=(v,0))(h0:0<=v):itoa v=s/\v<=j8:=by
 unfold km at h;split at h
 ·rename_i hc;split at h
  ·rename_i hr;have hv:pA s=v:=congrArg Prod.fst h;obtain ⟨h1,h2⟩:=tK hc;simp only [ta,n7] at hc;have hb:=(nH _ (digits s) (bt _) hc.2)
   have hcn:=(jc _).1 hc.2
   cases hn:tN s with
   | true=>
    exfalso;have hv2:pA s=-(iy 0 (digits s):Int):=by simp [pA,hn]
    have hz:iy 0 (digits s)=0:=by omega
    have:decDigits 0=digits s:=by rw [<- hz]; exact hb.1
    rw [decDigits,dif_pos O] at this;have hd:digits s=s.drop 1:=by simp [digits,hn]
    rw [hd] at this;have h48:s.drop 1=[48]:=this.symm;simp [hn,h48] at hc
   | false=>
    have hd:digits s=s:=by simp [digits,hn]
    have hv2:pA s=(iy 0 s:Int):=by simp [pA,hn,hd]
    rw [hd] at hb;refine ⟨?_,by rw [<- hv]; exact hr.2⟩;rw [<- hv,hv2];unfold itoa;rw [if_neg O];simpa using hb.1
  ·have:=congrArg Prod.snd h; simp at this
 ·have:=congrArg Prod.snd h; simp at this
end Go.Ab.R06
namespace Go.Ab.R06
open Go.Ab Go.Ab.RB Go.Lib
theorem t63:(List.range 256).all (λ n=>bU .u8 (n:Int) 63==((n%64:Nat):Int))=true:=by kernel_rfl
theorem tab {f g:Nat->Int}{m:Nat}(h:(List.range m).all (λ n=>f n==g n)=true)(n:Nat)(hn:n<m):f n=g n:=eq_of_beq (qr.1 h n (List.mem_range.2 hn))
def gO (r:Int):Prop:=(0<=r/\r<55296)\/(57343<r/\r<=1114111)
theorem ou (l:Bk)(h:l≠[]):decodeGo (str l)=decodeL l:=by
 unfold decodeGo;rw [if_neg]
 ·rfl
 ·rw [fk]; intro q; exact h (List.length_eq_zero_iff.1 q)
theorem sJ (r:Int)(h:gO r):1<=(encodeRune r).length/\(encodeRune r).length<=4:=by
 unfold encodeRune encodeRuneZ;rw [n6]
 repeat' split
 all_goals simp
theorem AF (r:Int)(h:gO r)(t:Bk):decodeL (encodeRune r++t)=(r.toNat,(encodeRune r).length):=by
 have h0:0<=r/\r<=1114111:=by unfold gO at h; omega
 have hb:∀ x:Int,0<=x->x<256->(x.toNat.toUInt8).toNat=x.toNat:=λ x a b=>by
  show (UInt8.ofNat x.toNat).toNat=_;rw [UInt8.toNat_ofNat']; omega
 rw [decodeL_N];by_cases h1:r<=127
 ·have e:encodeRune r=[r.toNat.toUInt8]:=by simp only [encodeRune,encodeRuneZ,if_pos (show 0<=r/\r<=127 from ⟨h0.1,h1⟩),cl,py]
  rw [e];have b0:=hb r O O;simp only [List.cons_append,List.getD_cons_zero,b0];unfold decodeN;rw [if_pos O]; rfl
 have n1:¬ (0<=r/\r<=127):=by omega
 by_cases h2:r<=2047
 ·have e:encodeRune r=[(192+r / 64).toNat.toUInt8,(128+r%64).toNat.toUInt8]:=by
   simp only [encodeRune,encodeRuneZ,if_neg n1,if_pos (show 128<=r/\r<=2047 by omega),cl,py]
  rw [e];have b0:=hb (192+r / 64) O O;have b1:=hb (128+r%64) O O;simp only [List.cons_append,List.getD_cons_zero,List.getD_cons_succ,b0,b1,d4,List.nil_append];unfold decodeN;rw [if_neg O,if_pos O,if_pos O];refine Prod.ext ?_ rfl;show _=r.toNat;simp only; omega
 have n2:¬ (128<=r/\r<=2047):=by omega
 by_cases h3:r<55296\/(57343<r/\r<=65535)
 ·have e:encodeRune r=[(224+r / 4096).toNat.toUInt8,(128+r / 64%64).toNat.toUInt8,(128+r%64).toNat.toUInt8]:=by
   simp only [encodeRune,encodeRuneZ,if_neg n1,if_neg n2,if_pos (show (2048<=r/\r<55296)\/(57343<r/\r<=65535) by omega),cl,py]
  rw [e];have b0:=hb (224+r / 4096) O O;have b1:=hb (128+r / 64%64) O O;have b2:=hb (128+r%64) O O;simp only [List.cons_append,List.getD_cons_zero,List.getD_cons_succ,b0,b1,b2,d4,List.nil_append];unfold decodeN;rw [if_neg O,if_neg O,if_pos O,if_pos O];refine Prod.ext ?_ rfl;show _=r.toNat;simp only; omega
 ·have h4:65535<r:=by unfold gO at h; omega
  have e:encodeRune r=[(240+r / 262144).toNat.toUInt8,(128+r / 4096%64).toNat.toUInt8,(128+r / 64%64).toNat.toUInt8,(128+r%64).toNat.toUInt8]:=by
   simp only [encodeRune,encodeRuneZ,if_neg n1,if_neg n2,if_neg (show ¬ ((2048<=r/\r<55296)\/(57343<r/\r<=65535)) by omega),if_pos (show 65536<=r/\r<=1114111 by omega),cl,py]
  rw [e];have b0:=hb (240+r / 262144) O O;have b1:=hb (128+r / 4096%64) O O;have b2:=hb (128+r / 64%64) O O;have b3:=hb (128+r%64) O O;simp only [List.cons_append,List.getD_cons_zero,List.getD_cons_succ,b0,b1,b2,b3,d4,List.nil_append];unfold decodeN;rw [if_neg O,if_neg O,if_neg O,if_pos O,if_pos O];refine Prod.ext ?_ rfl;show _=r.toNat;simp only; omega
theorem qJ (r:Int)(h:gO r)(t:Bk):validD (encodeRune r++t)=validD t:=by
 have hl:=sJ r h
 have CQ:encodeRune r++t≠[]:=by
  intro q; rw [List.append_eq_nil_iff] at q; rw [q.1] at hl; simp at hl
 rw [validD_step _ CQ,AF r h t,if_neg]
 ·simp
 ·rintro ⟨a,b⟩;have hr:r=65533:=by omega
  subst hr;simp [encodeRune,encodeRuneZ] at b
theorem rh (l:Bk)(h:l≠[]):1<=(decodeL l).2/\(decodeL l).2<=l.length/\(¬ ((decodeL l).1=65533/\(decodeL l).2=1)->gO ((decodeL l).1:Int)/\encodeRune ((decodeL l).1:Int)=l.take (decodeL l).2):=by
 have hl:0<l.length:=List.length_pos_iff.2 h;have hd:=decN l.length (l.getD 0 0).toNat (l.getD 1 0).toNat (l.getD 2 0).toNat (l.getD 3 0).toNat O (UInt8.toNat_lt _);rw [<- decodeL_N] at hd;refine ⟨hd.1,hd.2.1,λ q=>⟨?_,encode_decode l h q⟩⟩;have:=hd.2.2.2.2.2;unfold gO; omega
theorem vg (l:Bk)(h:l≠[]):validD l=true↔¬ ((decodeL l).1=65533/\(decodeL l).2=1)/\validD (l.drop (decodeL l).2)=true:=by
 rw [validD_step l h];by_cases q:(decodeL l).1=65533/\(decodeL l).2=1
 ·simp [q]
 ·simp [q]
end Go.Ab.R06
namespace Go.Ab.R06
open Go.Ab Go.Ab.RB Go.Lib
theorem zl (s:Bk):d7 s=some (decide (s.length<=4096)&&validD s):=by
 unfold d7;by_cases h:(s.length:Int)<=4096
 ·have hv:cW s=some (validD s):=by unfold cW; exact dX O
  rw [if_pos h,hv];simp; omega
 ·rw [if_neg h];simp; intro q; omega
end Go.Ab.R06
namespace Go.Ab.R06
open Go.Ab Go.Ab.RB Go.Lib
def hexD (b:UInt8):Option Nat:=if 48<=b.toNat/\b.toNat<=57 then some (b.toNat-48) else if 97<=b.toNat/\b.toNat<=102 then some (b.toNat-87) else none
def l4:Nat->Bk->Nat->Nat×Nat
 | 0,_,a=>(a,0)
 | _+1,[],a=>(a,0)
 | k+1,b::r,a=>match hexD b with
  | some d=>((l4 k r (16*a+d)).1,(l4 k r (16*a+d)).2+1)
  | none=>(a,0)
theorem qQ:∀ (k:Nat) (l:Bk) (a:Nat),(l4 k l a).2<=k/\(l4 k l a).2<=l.length
 | 0,_,_=>⟨bt _,Nat.zero_le _⟩
 | _+1,[],_=>⟨Nat.zero_le _,bt _⟩
 | k+1,b::r,a=>by
  unfold l4
  cases hexD b with
  | none=>exact ⟨Nat.zero_le _,Nat.zero_le _⟩
  | some d=>have:=qQ k r (16*a+d); simp only [d4]; omega
def rZ (s:Bk):Int×Int×Int :=
 let h:=l4 6 s 0
 if h.2=s.length then (0,0,40)
 else if s.getD h.2 0≠125\/h.2=0\/(1<h.2/\s.getD 0 0=48)\/validRune (h.1:Int)=false then (0,0,2)
 else ((h.1:Int),((h.2+1:Nat):Int),0)
def jR (s:Bk):Int×Int×Int:=match s with
 | []=>(0,0,40)
 | b::r=>if b.toNat=110 then (10,1,0) else if b.toNat=114 then (13,1,0) else if b.toNat=116 then (9,1,0)
  else if b.toNat=34\/b.toNat=92 then ((b.toNat:Int),1,0)
  else if b.toNat=117 then (match r with
   | []=>(0,0,40)
   | c::t=>if c.toNat=123 then ((rZ t).1,(rZ t).2.1+2,(rZ t).2.2) else (0,0,2))
  else (0,0,2)
theorem Av (s:Bk):0<=(rZ s).2.1/\(rZ s).2.1<=s.length/\((rZ s).2.2=0->gO (rZ s).1)/\0<=(rZ s).2.2:=by
 have hle:=qQ 6 s 0;unfold rZ;generalize l4 6 s 0=h at hle ⊢;obtain ⟨v,c⟩:=h;simp only at hle ⊢;split
 ·simp <;> omega
 ·split
  ·simp <;> omega
  ·rename_i h1 h2;refine ⟨by simp only; omega,by simp only; omega,λ _=>?_,by simp⟩
   have:validRune (v:Int)=true:=by
    cases hv:validRune (v:Int) with
    | true=>rfl
    | false=>exact absurd (.inr (.inr (.inr hv))) h2
   simp only [validRune,decide_eq_true_eq] at this;unfold gO; simp only; omega
theorem zL (s:Bk):0<=(jR s).2.1/\(jR s).2.1<=s.length+1/\((jR s).2.2=0->gO (jR s).1/\(jR s).2.1<=s.length)/\0<=(jR s).2.2:=by
 unfold jR;split
 ·simp
 ·rename_i b r;have hb:=b.toNat_lt;split
  ·simp [gO] <;> omega
  split
  ·simp [gO] <;> omega
  split
  ·simp [gO] <;> omega
  split
  ·simp [gO] <;> omega
  split
  ·split
   ·simp
   ·rename_i c t;have:=Av t;split
    ·refine ⟨by simp only; omega,by simp only [d4]; omega,λ q=>⟨this.2.2.1 q,by simp only [d4]; omega⟩,this.2.2.2⟩
    ·simp <;> omega
  ·simp <;> omega
end Go.Ab.R06
namespace Go.Ab.R06
open Go.Ab Go.Ab.RB Go.Lib
def Bu (c:Nat×Nat):Prop:=(c.1=65533/\c.2=1)\/c.1<32\/c.1=127
instance (c:Nat×Nat):Decidable (Bu c):=inferInstanceAs (Decidable (_\/_))
def mq:Nat->Bk->Nat->Bk->(Int×Bk)⊕(Bk×Int×Int)|0,_,at',acc=>.inl ((at':Int),acc)|_+1,[],at',acc=>.inl ((at':Int),acc)|n+1,b::r,at',acc=>if b.toNat=34 then .inl ((at':Int),acc)else if (decodeL (b::r)).1=92 then(if (jR r).2.2=0 then mq n (r.drop (jR r).2.1.toNat) (at'+((jR r).2.1.toNat+1)) (acc++encodeRune (jR r).1) else .inr ([],0,(jR r).2.2))else if Bu (decodeL (b::r)) then .inr ([],0,2)else mq n ((b::r).drop (decodeL (b::r)).2) (at'+(decodeL (b::r)).2) (acc++encodeRune ((decodeL (b::r)).1:Int))
theorem xi (n:Nat)(b:UInt8)(r:Bk)(at':Nat)(acc:Bk):mq (n+1) (b::r) at' acc=if b.toNat=34 then .inl ((at':Int),acc)
  else if (decodeL (b::r)).1=92 then
   (if (jR r).2.2=0 then mq n (r.drop (jR r).2.1.toNat) (at'+((jR r).2.1.toNat+1)) (acc++encodeRune (jR r).1) else .inr ([],0,(jR r).2.2))
  else if Bu (decodeL (b::r)) then .inr ([],0,2)
  else mq n ((b::r).drop (decodeL (b::r)).2) (at'+(decodeL (b::r)).2) (acc++encodeRune ((decodeL (b::r)).1:Int)):=by rw [mq]
def sY:Bk->Bk×Int×Int
 | []=>([],0,40)
 | b::r=>if b.toNat=34 then (match mq (r.length+1) r 1 [] with
   | .inl q=>if q.1=((r.length+1:Nat):Int) then ([],0,40) else if 4096<q.2.length then ([],0,3) else (q.2,q.1+1,0)
   | .inr e=>e)
  else ([],0,2)
theorem xE (b:UInt8)(r:Bk):sY (b::r)=if b.toNat=34 then (match mq (r.length+1) r 1 [] with
   | .inl q=>if q.1=((r.length+1:Nat):Int) then ([],0,40) else if 4096<q.2.length then ([],0,3) else (q.2,q.1+1,0)
   | .inr e=>e)
  else ([],0,2):=rfl
theorem zZ:∀ (k:Nat) (l:Bk) (i:Nat) (f:Bk),(∀ a g,mq k l i f=.inl (a,g)->(i:Int)<=a/\a<=((i+l.length:Nat):Int)/\g.length<=f.length+4*l.length/\((∀ t,validD (f++t)=validD t)->∀ t,validD (g++t)=validD t))/\(∀ x,mq k l i f=.inr x->x.1=[]/\x.2.1=0/\x.2.2≠0):=by
 intro k
 induction k with
 | zero=>
  intro l i f;refine ⟨λ a g h=>?_,λ x h=>(by rw [mq] at h; cases h)⟩;rw [mq] at h; cases h;exact ⟨by omega,by omega,by omega,λ q=>q⟩
 | succ k ih=>
  intro l i f
  cases l with
  | nil=>
   refine ⟨λ a g h=>?_,λ x h=>(by rw [mq] at h; cases h)⟩;rw [mq] at h; cases h;exact ⟨by omega,by simp,by simp,λ q=>q⟩
  | cons b r=>
   rw [xi];have hdf:=rh (b::r) G;have hes:=zL r;split
   ·refine ⟨λ a g h=>?_,λ x h=>(by cases h)⟩
    cases h
    exact ⟨by omega,by simp only [d4]; omega,by omega,λ q=>q⟩
   split
   ·split
    ·rename_i hz;obtain ⟨e1,e2⟩:=hes.2.2.1 hz;have hle:=sJ _ e1;have hi:=ih (r.drop (jR r).2.1.toNat) (i+((jR r).2.1.toNat+1)) (f++encodeRune (jR r).1);refine ⟨λ a g h=>?_,hi.2⟩;have:=hi.1 a g h;rw [List.length_drop,n8] at this;refine ⟨by omega,by simp only [d4]; omega,by simp only [d4]; omega,λ q=>this.2.2.2 λ t=>?_⟩;rw [List.append_assoc,q,qJ _ e1]
    ·rename_i hz;refine ⟨λ a g h=>(by cases h),λ x h=>?_⟩
     cases h
     exact ⟨Z,Z,hz⟩
   split
   ·refine ⟨λ a g h=>(by cases h),λ x h=>?_⟩
    cases h
    exact ⟨Z,Z,by decide⟩
   ·rename_i hbd;have hgood:=hdf.2.2 (λ q=>hbd (.inl q));have hle:=sJ _ hgood.1;have hi:=ih ((b::r).drop (decodeL (b::r)).2) (i+(decodeL (b::r)).2) (f++encodeRune ((decodeL (b::r)).1:Int));refine ⟨λ a g h=>?_,hi.2⟩;have:=hi.1 a g h;rw [List.length_drop,n8] at this;simp only [d4] at this hdf ⊢;refine ⟨by omega,by omega,by omega,λ q=>this.2.2.2 λ t=>?_⟩;rw [List.append_assoc,q,qJ _ hgood.1]
theorem AB {s x:Bk}{n:Int}(h:sY s=(x,n,0)):x.length<=4096/\validD x=true/\2<=n/\n<=s.length:=by
 cases s with
 | nil=>cases h
 | cons b r=>
  rw [xE] at h;split at h
  ·have hle:=zZ (r.length+1) r 1 [];split at h
   ·rename_i q hq;obtain ⟨a,g⟩:=q;have hg:=hle.1 a g hq;simp only at h;split at h
    ·cases h
    ·split at h
     ·cases h
     ·rename_i h1 h2
      cases h
      simp only [d4];refine ⟨by omega,?_,by omega,by omega⟩;have:=hg.2.2.2 (λ t=>by simp) [];simpa [validD_nil] using this
   ·rename_i e he;subst h;exact absurd rfl (hle.2 _ he).2.2
  ·cases h
theorem AR:∀ (k u:Nat),u<10^(k+1)->(decDigits u).length<=k+1:=by
 intro k
 induction k with
 | zero=>intro u h; rw [decDigits,dif_pos (by simpa using h)]; simp
 | succ k ih=>
  intro u h;rw [decDigits];split
  ·simp
  ·have:=ih (u / 10) (by rw [Nat.pow_succ] at h; omega);rw [n8]; simp; omega
theorem yU {v:Int}(h0:0<=v)(h1:v<=j8):(itoa v).length<=16:=by
 obtain ⟨u,rfl⟩:∃ u:Nat,v=u:=⟨v.toNat,by omega⟩
 unfold itoa;rw [if_neg O,Int.toNat_natCast];exact AR 15 u (by unfold j8 at h1; omega)
end Go.Ab.R06
end
section
namespace Go.Ab.R06
open Go.Proofs Go.Ab Go.Ab.RB
attribute [local irreducible] awp ea aO au bs AV.sub M bY
def nZ (CB:Bk):Nat->Int->Option (Unit⊕Bool)|0,_=>none|m+1,i9=>if i9<(CB.length:Int) then(ck ((0:Int)<=i9/\i9<(CB.length:Int))<|if byt CB i9<48 then some true else ck ((0:Int)<=i9/\i9<(CB.length:Int))<|some (decide (57<byt CB i9)) : Option Bool).bind λ Ex=>if Ex=true then some (.inr false)else ck (inR (i9+1))<|nZ CB m (i9+1)else some (.inl ())
def gt (DL:Int):Option Bool :=(if (-9007199254740992)<=DL then some (decide (DL<=9007199254740992))else some false : Option Bool).bind λ t2=>some t2
theorem pu (DL:Int)(r:Bool)(h0:gt DL=some r):au Tryz.prog 98 [eI DL] (·=.p (eB r)):=by
 unfold gt at h0;refine aZ good Tryz.func98 Z Z Z λ w0=>mP (λ v:Bool=>.p (eB v)) ?_;refine nx 5 Z (bd h0 λ o4 h1 h0=>?_);refine kN o4 (λ v5=>⟨[(2,.p (eB v5))],[]⟩) ?_ ?_
 ·exact nx 2 Z (mQ (oi h0) Z (sr))
 refine nx 4 Z (fD [4,5] h1 Z (λ c1 h1=>?_) λ c1 h1=>?_)
 ·exact nx 5 Z (eX _ (oi h1).symm (gE Z Z))
 exact nx 5 Z (eX _ (oi h1).symm (gE Z Z))
def cK (CB:Bk)(CM:Int)(lo_2:Int)(hi_3:Int):Option Bool :=(if CM<(CB.length:Int) then ck ((0:Int)<=CM/\CM<(CB.length:Int))<|if lo_2<=byt CB CM then ck ((0:Int)<=CM/\CM<(CB.length:Int))<|some (decide (byt CB CM<=hi_3))else some false else some false : Option Bool).bind λ t5=>some t5
theorem eQ (CB:Bk)(CM:Int)(lo_2:Int)(hi_3:Int)(r:Bool)(h0:cK CB CM lo_2 hi_3=some r):au Tryz.prog 99 [eS CB,eI CM,eK .u8 lo_2,eK .u8 hi_3] (·=.p (eB r)):=by
 unfold cK at h0;refine aZ good Tryz.func99 Z Z Z λ w0=>mP (λ v:Bool=>.p (eB v)) ?_;refine nx 5 Z (bd h0 λ o7 h1 h0=>?_);refine kN o7 (λ v8=>⟨[(8,.p (eB v8))],[]⟩) ?_ ?_
 ·exact nx 2 Z (mQ (oi h0) Z (sr))
 refine nx 3 Z (oLs Z ?_);refine nx 2 Z (fD [12,13] h1 Z (λ c1 h1=>?_) λ c1 h1=>?_)
 ·refine nx 2 Z (oI h1 Z λ D1 h1=>?_);refine nx 4 Z (fD [18,19,20] h1 Z (λ c3 h1=>?_) λ c3 h1=>?_)
  ·refine nx 2 Z (oI h1 Z λ Fz h1=>?_);exact nx 5 Z (eX _ (oi h1).symm (gE Z Z))
  exact nx 8 Z (eX _ (oi h1).symm (gE Z Z))
 exact nx 15 Z (eX _ (oi h1).symm (gE Z Z))
def gK (CB:Bk)(CM:Int):Option (Int×Int) :=(if CM<0 then some true else some (decide ((CB.length:Int)<=CM)) : Option Bool).bind λ t2=>if t2=true then some (0,0)else ck ((0:Int)<=CM/\CM<(CB.length:Int))<|if byt CB CM<128 then ck (inR (byt CB CM))<|some (byt CB CM,1)else(if 194<=byt CB CM then if byt CB CM<=223 then ck (inR (CM+1))<|(cK CB (CM+1) 128 191).bind λ CG=>some CG else some false else some false : Option Bool).bind λ t12=>if t12=true then ck (inR (bU .u8 (byt CB CM) 31))<|ck ((0:Int)<=6)<|ck (inR (CM+1))<|ck ((0:Int)<=CM+1/\CM+1<(CB.length:Int))<|ck (inR (bU .u8 (byt CB (CM+1)) 63))<|some (iOr .i64 (gA .i64 (bU .u8 (byt CB CM) 31) 6) (bU .u8 (byt CB (CM+1)) 63),2)else(if byt CB CM=224 then some 160 else some 128 : Option Int).bind λ lo20=>(if byt CB CM=237 then some 159 else some 191 : Option Int).bind λ hi22=>(if 224<=byt CB CM then if byt CB CM<=239 then ck (inR (CM+1))<|(cK CB (CM+1) lo20 hi22).bind λ r26=>if r26=true then ck (inR (CM+2))<|(cK CB (CM+2) 128 191).bind λ Gb=>some Gb else some false else some false else some false : Option Bool).bind λ GQ=>if GQ=true then ck (inR (bU .u8 (byt CB CM) 15))<|ck ((0:Int)<=12)<|ck (inR (CM+1))<|ck ((0:Int)<=CM+1/\CM+1<(CB.length:Int))<|ck (inR (bU .u8 (byt CB (CM+1)) 63))<|ck ((0:Int)<=6)<|ck (inR (CM+2))<|ck ((0:Int)<=CM+2/\CM+2<(CB.length:Int))<|ck (inR (bU .u8 (byt CB (CM+2)) 63))<|some (iOr .i64 (iOr .i64 (gA .i64 (bU .u8 (byt CB CM) 15) 12) (gA .i64 (bU .u8 (byt CB (CM+1)) 63) 6)) (bU .u8 (byt CB (CM+2)) 63),3)else(if byt CB CM=240 then some 144 else some 128 : Option Int).bind λ lo44=>(if byt CB CM=244 then some 143 else some 191 : Option Int).bind λ hi46=>(if 240<=byt CB CM then if byt CB CM<=244 then ck (inR (CM+1))<|(cK CB (CM+1) lo44 hi46).bind λ r50=>if r50=true then ck (inR (CM+2))<|(cK CB (CM+2) 128 191).bind λ r54=>if r54=true then ck (inR (CM+3))<|(cK CB (CM+3) 128 191).bind λ r58=>some r58 else some false else some false else some false else some false : Option Bool).bind λ t60=>if t60=true then ck (inR (bU .u8 (byt CB CM) 7))<|ck ((0:Int)<=18)<|ck (inR (CM+1))<|ck ((0:Int)<=CM+1/\CM+1<(CB.length:Int))<|ck (inR (bU .u8 (byt CB (CM+1)) 63))<|ck ((0:Int)<=12)<|ck (inR (CM+2))<|ck ((0:Int)<=CM+2/\CM+2<(CB.length:Int))<|ck (inR (bU .u8 (byt CB (CM+2)) 63))<|ck ((0:Int)<=6)<|ck (inR (CM+3))<|ck ((0:Int)<=CM+3/\CM+3<(CB.length:Int))<|ck (inR (bU .u8 (byt CB (CM+3)) 63))<|some (iOr .i64 (iOr .i64 (iOr .i64 (gA .i64 (bU .u8 (byt CB CM) 7) 18) (gA .i64 (bU .u8 (byt CB (CM+1)) 63) 12)) (gA .i64 (bU .u8 (byt CB (CM+2)) 63) 6)) (bU .u8 (byt CB (CM+3)) 63),4)else some (0,0)
theorem nW (CB:Bk)(CM:Int)(r:Int×Int)(h0:gK CB CM=some r):au Tryz.prog 70 [eS CB,eI CM] (·=.tuple [.p (eI r.1),.p (eI r.2)]):=by
 unfold gK at h0;refine aZ good Tryz.func70 Z Z Z λ w0=>mP (λ v:Int×Int=>.tuple [.p (eI v.1),.p (eI v.2)]) ?_;refine nx 7 Z (bd h0 λ o83 h1 h0=>?_);refine kN o83 (λ v84=>⟨[(0,.p (eS CB)),(1,.p (eI CM)),(16,.p (eB v84))],[]⟩) ?_ ?_
 ·refine nx 1 Z (fB [16] h0 Z (λ c3 h0=>?_) λ c3 h0=>?_)
  ·exact nx 7 Z (mQ (oi h0) Z (ar ⟨sr,sr,trivial⟩))
  refine nx 6 Z (oI h0 Z λ Fz h0=>?_);refine nx 8 Z (fD [21] h0 Z (λ c5 h0=>?_) λ c5 h0=>?_)
  ·refine nx 4 Z (cc' h0 λ Hj h0=>?_);refine mO Z (dv Z Z Z Z Z Z Z Z (fY Hj) ?_);exact nx 4 Z (mQ (oi h0) Z (ar ⟨sr,sr,trivial⟩))
  refine nx 4 Z (bd h0 λ o85 h1 h0=>?_);refine kN o85 (λ v86=>⟨[(0,.p (eS CB)),(1,.p (eI CM)),(6,.p (eK .u8 (byt CB CM))),(35,.p (eB v86))],[]⟩) ?_ ?_
  ·refine nx 1 Z (fB [35] h0 Z (λ EP h0=>?_) λ EP h0=>?_)
   ·refine nx 5 Z (cc' h0 λ Er h0=>?_);refine mO Z (dv Z Z Z Z Z Z Z Z (fY Er) ?_);refine cc' h0 λ DW h0=>mO Z (jM Z Z Z Z Z Z DW ?_);refine nx 2 Z (oA h0 Z Z λ Dl h0=>?_);refine oI h0 Z λ Ed h0=>nx 1 Z (cc' h0 λ D3 h0=>?_);refine mO Z (dv Z Z Z Z Z Z Z Z (fY D3) ?_);exact nx 5 Z (mQ (oi h0) Z (ar ⟨sr,sr,trivial⟩))
   refine nx 8 Z (bd h0 λ G9 h1 h0=>?_);refine kN G9 (λ v88=>⟨[(0,.p (eS CB)),(1,.p (eI CM)),(6,.p (eK .u8 (byt CB CM))),(7,.p (eK .u8 v88)),(8,.p (eK .u8 191))],[]⟩) ?_ ?_
   ·refine nx 2 Z (bd h0 λ o89 h1 h0=>?_);refine kN o89 (λ v90=>⟨[(0,.p (eS CB)),(1,.p (eI CM)),(6,.p (eK .u8 (byt CB CM))),(7,.p (eK .u8 G9)),(8,.p (eK .u8 v90))],[]⟩) ?_ ?_
    ·refine nx 3 Z (bd h0 λ o91 h1 h0=>?_);refine kN o91 (λ v92=>⟨[(0,.p (eS CB)),(1,.p (eI CM)),(6,.p (eK .u8 (byt CB CM))),(70,.p (eB v92))],[]⟩) ?_ ?_
     ·refine nx 1 Z (fB [70] h0 Z (λ FM h0=>?_) λ FM h0=>?_)
      ·refine nx 2 Z (cc' h0 λ Eo h0=>?_);refine cc' h0 λ FI h0=>cc' h0 λ Gt h0=>cc' h0 λ En h0=>cc' h0 λ Fh h0=>cc' h0 λ FH h0=>cc' h0 λ Gs h0=>cc' h0 λ Ho h0=>cc' h0 λ Hn h0=>mD [(0,.p (eS CB)),(1,.p (eI CM)),(6,.p (eK .u8 (byt CB CM)))] Z ⟨Z,Z,Z,trivial⟩ Z (dR 2 Z ?_);refine dq (.p (eI (bU .u8 (byt CB CM) 15))) [72] Z (λ _ e _ q=>ae Z (dv Z Z Z Z Z Z Z (e _ _ Z) (fY Eo) q)) Z (dq (.p (eI (gA .i64 (bU .u8 (byt CB CM) 15) 12))) [73] Z (λ _ e _ q=>ae Z (jM Z Z Z (e _ _ Z) Z Z FI q)) Z ?_);refine dR 2 Z (dq (.p (eI (CM+1))) [76] Z (λ _ e _ q=>ae Z (pi Z Z Z (e _ _ Z) Z Z Gt q)) Z ?_);refine dq (.p (eK .u8 (byt CB (CM+1)))) [75,77] Z (λ _ e _ q=>ae Z (g6 Z Z Z Z Z (e _ _ Z) (e _ _ Z) En q)) Z (dR 1 Z ?_);refine dq (.p (eI (bU .u8 (byt CB (CM+1)) 63))) [79] Z (λ _ e _ q=>ae Z (dv Z Z Z Z Z Z Z (e _ _ Z) (fY Fh) q)) Z (dq (.p (eI (gA .i64 (bU .u8 (byt CB (CM+1)) 63) 6))) [80] Z (λ _ e _ q=>ae Z (jM Z Z Z (e _ _ Z) Z Z FH q)) Z ?_);refine dR 3 Z (dq (.p (eI (CM+2))) [84] Z (λ _ e _ q=>ae Z (pi Z Z Z (e _ _ Z) Z Z Gs q)) Z ?_);refine dq (.p (eK .u8 (byt CB (CM+2)))) [83,85] Z (λ _ e _ q=>ae Z (g6 Z Z Z Z Z (e _ _ Z) (e _ _ Z) Ho q)) Z (dR 1 Z ?_);refine dq (.p (eI (bU .u8 (byt CB (CM+2)) 63))) [87] Z (λ _ e _ q=>ae Z (dv Z Z Z Z Z Z Z (e _ _ Z) (fY Hn) q)) Z (dR 3 Z ?_);refine dE Z (nx 2 Z ?_);exact mQ (oi h0) Z (ar ⟨sr,sr,trivial⟩)
      refine nx 8 Z (bd h0 λ o93 h1 h0=>?_);refine kN o93 (λ v94=>⟨[(0,.p (eS CB)),(1,.p (eI CM)),(6,.p (eK .u8 (byt CB CM))),(7,.p (eK .u8 v94)),(8,.p (eK .u8 191))],[]⟩) ?_ ?_
      ·refine nx 2 Z (bd h0 λ o95 h1 h0=>?_);refine kN o95 (λ v96=>⟨[(0,.p (eS CB)),(1,.p (eI CM)),(6,.p (eK .u8 (byt CB CM))),(7,.p (eK .u8 o93)),(8,.p (eK .u8 v96))],[]⟩) ?_ ?_
       ·refine nx 3 Z (bd h0 λ o97 h1 h0=>?_);refine kN o97 (λ v98=>⟨[(0,.p (eS CB)),(1,.p (eI CM)),(6,.p (eK .u8 (byt CB CM))),(119,.p (eB v98))],[]⟩) ?_ ?_
        ·refine nx 1 Z (fB [119] h0 Z (λ c61 h0=>?_) λ c61 h0=>?_)
         ·refine nx 2 Z (cc' h0 λ Gp h0=>?_);refine cc' h0 λ Hi h0=>cc' h0 λ Hh h0=>cc' h0 λ hk65 h0=>cc' h0 λ hk66 h0=>cc' h0 λ hk67 h0=>cc' h0 λ Hg h0=>cc' h0 λ hk69 h0=>cc' h0 λ Hf h0=>cc' h0 λ hk71 h0=>cc' h0 λ hk72 h0=>cc' h0 λ hk73 h0=>cc' h0 λ hk74 h0=>?_;refine mD [(0,.p (eS CB)),(1,.p (eI CM)),(6,.p (eK .u8 (byt CB CM)))] Z ⟨Z,Z,Z,trivial⟩ Z (dR 2 Z ?_);refine dq (.p (eI (bU .u8 (byt CB CM) 7))) [121] Z (λ _ e _ q=>ae Z (dv Z Z Z Z Z Z Z (e _ _ Z) (fY Gp) q)) Z (dq (.p (eI (gA .i64 (bU .u8 (byt CB CM) 7) 18))) [122] Z (λ _ e _ q=>ae Z (jM Z Z Z (e _ _ Z) Z Z Hi q)) Z ?_);refine dR 2 Z (dq (.p (eI (CM+1))) [125] Z (λ _ e _ q=>ae Z (pi Z Z Z (e _ _ Z) Z Z Hh q)) Z ?_);refine dq (.p (eK .u8 (byt CB (CM+1)))) [124,126] Z (λ _ e _ q=>ae Z (g6 Z Z Z Z Z (e _ _ Z) (e _ _ Z) hk65 q)) Z (dR 1 Z ?_);refine dq (.p (eI (bU .u8 (byt CB (CM+1)) 63))) [128] Z (λ _ e _ q=>ae Z (dv Z Z Z Z Z Z Z (e _ _ Z) (fY hk66) q)) Z (dq (.p (eI (gA .i64 (bU .u8 (byt CB (CM+1)) 63) 12))) [129] Z (λ _ e _ q=>ae Z (jM Z Z Z (e _ _ Z) Z Z hk67 q)) Z ?_);refine dR 3 Z (dq (.p (eI (CM+2))) [133] Z (λ _ e _ q=>ae Z (pi Z Z Z (e _ _ Z) Z Z Hg q)) Z ?_);refine dq (.p (eK .u8 (byt CB (CM+2)))) [132,134] Z (λ _ e _ q=>ae Z (g6 Z Z Z Z Z (e _ _ Z) (e _ _ Z) hk69 q)) Z (dR 1 Z ?_);refine dq (.p (eI (bU .u8 (byt CB (CM+2)) 63))) [136] Z (λ _ e _ q=>ae Z (dv Z Z Z Z Z Z Z (e _ _ Z) (fY Hf) q)) Z (dq (.p (eI (gA .i64 (bU .u8 (byt CB (CM+2)) 63) 6))) [137] Z (λ _ e _ q=>ae Z (jM Z Z Z (e _ _ Z) Z Z hk71 q)) Z ?_);refine dR 3 Z (dq (.p (eI (CM+3))) [141] Z (λ _ e _ q=>ae Z (pi Z Z Z (e _ _ Z) Z Z hk72 q)) Z ?_);refine dq (.p (eK .u8 (byt CB (CM+3)))) [140,142] Z (λ _ e _ q=>ae Z (g6 Z Z Z Z Z (e _ _ Z) (e _ _ Z) hk73 q)) Z (dR 1 Z ?_);refine dq (.p (eI (bU .u8 (byt CB (CM+3)) 63))) [144] Z (λ _ e _ q=>ae Z (dv Z Z Z Z Z Z Z (e _ _ Z) (fY hk74) q)) Z (dR 3 Z ?_);refine dE Z (nx 1 Z ?_);refine mG (gE (t:=⟨[(4,.p (eI (iOr .i64 (iOr .i64 (iOr .i64 (gA .i64 (bU .u8 (byt CB CM) 7) 18) (gA .i64 (bU .u8 (byt CB (CM+1)) 63) 12)) (gA .i64 (bU .u8 (byt CB (CM+2)) 63) 6)) (bU .u8 (byt CB (CM+3)) 63)))),(5,.p (eI 4))],[]⟩) Z Z) (nx 1 Z ?_);exact mQ (oi h0) Z (ar ⟨sr,sr,trivial⟩)
         exact nx 8 Z (mQ (oi h0) Z (ar ⟨sr,sr,trivial⟩))
        refine nx 4 Z (fD [95,96] h1 Z (λ GB h1=>?_) λ GB h1=>?_)
        ·refine nx 4 Z (fD [98,99,100] h1 Z (λ c48 h1=>?_) λ c48 h1=>?_)
         ·refine nx 2 Z (oA h1 Z Z λ hk49 h1=>?_);refine nx 2 Z (bd h1 λ r50 e51 h1=>?_);refine oK (eQ CB (CM+1) o93 o95 _ e51) Z ⟨sr,sr,sr,sr,trivial⟩ Tryz.call99 Z (nx 2 Z ?_);refine fB [106,107,108] h1 Z (λ HD h1=>?_) λ HD h1=>?_
          ·refine nx 2 Z (oA h1 Z Z λ hk53 h1=>?_);refine bd h1 λ r54 e55 h1=>oK (eQ CB (CM+2) 128 191 _ e55) Z ⟨sr,sr,sr,sr,trivial⟩ Tryz.call99 Z (nx 2 Z ?_);refine fB [112,113,114] h1 Z (λ c56 h1=>?_) λ c56 h1=>?_
           ·refine nx 2 Z (oA h1 Z Z λ hk57 h1=>?_);refine bd h1 λ r58 e59 h1=>oK (eQ CB (CM+3) 128 191 _ e59) Z ⟨sr,sr,sr,sr,trivial⟩ Tryz.call99 Z (nx 2 Z ?_);exact eX _ (oi h1).symm (gE Z Z)
           exact nx 6 Z (eX _ (oi h1).symm (gE Z Z))
          exact nx 12 Z (eX _ (oi h1).symm (gE Z Z))
         exact nx 20 Z (eX _ (oi h1).symm (gE Z Z))
        exact nx 24 Z (eX _ (oi h1).symm (gE Z Z))
       refine nx 5 Z (fD [93] h1 Z (λ c45 h1=>?_) λ c45 h1=>?_)
       ·exact nx 4 Z (eX _ (oi h1).symm (gE Z Z))
       exact nx 2 Z (eX _ (oi h1).symm (gE Z Z))
      refine nx 5 Z (fD [91] h1 Z (λ c43 h1=>?_) λ c43 h1=>?_)
      ·exact nx 4 Z (eX _ (oi h1).symm (gE Z Z))
      exact nx 2 Z (eX _ (oi h1).symm (gE Z Z))
     refine nx 4 Z (fD [52,53] h1 Z (λ FN h1=>?_) λ FN h1=>?_)
     ·refine nx 4 Z (fD [55,56,57] h1 Z (λ Ew h1=>?_) λ Ew h1=>?_)
      ·refine nx 2 Z (oA h1 Z Z λ Fi h1=>?_);refine nx 2 Z (bd h1 λ r26 e27 h1=>?_);refine oK (eQ CB (CM+1) G9 o89 _ e27) Z ⟨sr,sr,sr,sr,trivial⟩ Tryz.call99 Z (nx 2 Z ?_);refine fB [63,64,65] h1 Z (λ GD h1=>?_) λ GD h1=>?_
       ·refine nx 2 Z (oA h1 Z Z λ hk29 h1=>?_);refine bd h1 λ Gb e31 h1=>oK (eQ CB (CM+2) 128 191 _ e31) Z ⟨sr,sr,sr,sr,trivial⟩ Tryz.call99 Z (nx 2 Z ?_);exact eX _ (oi h1).symm (gE Z Z)
       exact nx 6 Z (eX _ (oi h1).symm (gE Z Z))
      exact nx 14 Z (eX _ (oi h1).symm (gE Z Z))
     exact nx 18 Z (eX _ (oi h1).symm (gE Z Z))
    refine nx 5 Z (fD [50] h1 Z (λ c21 h1=>?_) λ c21 h1=>?_)
    ·exact nx 4 Z (eX _ (oi h1).symm (gE Z Z))
    exact nx 2 Z (eX _ (oi h1).symm (gE Z Z))
   refine nx 5 Z (fD [48] h1 Z (λ D8 h1=>?_) λ D8 h1=>?_)
   ·exact nx 4 Z (eX _ (oi h1).symm (gE Z Z))
   exact nx 2 Z (eX _ (oi h1).symm (gE Z Z))
  refine nx 4 Z (fD [25,26] h1 Z (λ c7 h1=>?_) λ c7 h1=>?_)
  ·refine nx 4 Z (fD [28,29,30] h1 Z (λ c8 h1=>?_) λ c8 h1=>?_)
   ·refine nx 2 Z (oA h1 Z Z λ hk9 h1=>?_);refine bd h1 λ CG D7 h1=>oK (eQ CB (CM+1) 128 191 _ D7) Z ⟨sr,sr,sr,sr,trivial⟩ Tryz.call99 Z (nx 2 Z ?_);exact eX _ (oi h1).symm (gE Z Z)
   exact nx 6 Z (eX _ (oi h1).symm (gE Z Z))
  exact nx 10 Z (eX _ (oi h1).symm (gE Z Z))
 refine nx 4 Z (fD [10,11] h1 Z (λ c1 h1=>?_) λ c1 h1=>?_)
 ·exact nx 6 Z (eX _ (oi h1).symm (gE Z Z))
 refine nx 2 Z (oLs Z ?_);exact nx 3 Z (eX _ (oi h1).symm (gE Z Z))
def dI (CB:Bk):Nat->Int->Option (Unit⊕Bool)|0,_=>none|m+1,i8=>if i8<(CB.length:Int) then(gK CB i8).bind λ CG=>if CG.2=0 then some (.inr false)else ck (inR (i8+CG.2))<|dI CB m (i8+CG.2)else some (.inl ())
def et (n:Nat)(CB:Bk):Option Bool :=if 4096<(CB.length:Int) then some false else jn (dI CB n 0) λ q15=>some true
theorem iS (n:Nat)(CB:Bk)(r:Bool)(h0:et n CB=some r):au Tryz.prog 41 [eS CB] (·=.p (eB r)):=by
 unfold et at h0;refine aZ good Tryz.func41 Z Z Z λ w0=>mP (λ v:Bool=>.p (eB v)) ?_;refine nx 8 Z (oLs Z ?_);refine nx 2 Z (fD [8] h0 Z (λ c1 h0=>?_) λ c1 h0=>?_)
 ·exact nx 6 Z (mQ (oi h0) Z (sr))
 refine nx 8 rfl ?_;obtain ⟨FU,h1,C9,hR0⟩:=dl h0;refine kEx 0 (λ E2:Unit=>FU=.inl E2) (λ E2=>⟨[],[]⟩) (λ E2 hv=>?_) ?_
 ·have h0:=C9 _ hv;exact nx 6 Z (mQ (oi h0) Z (sr))
 refine lG (λ (E8:Int)=>⟨[(0,.p (eS CB)),(3,.p (eI E8))],[]⟩) (λ m (E8:Int)=>dI CB m E8) Y 0 h1 (gE rfl rfl) ?_;rintro m i8 h1;replace h1:dI CB (m+1) i8=some FU:=h1;rw [dI] at h1;refine nx 5 rfl (oLs rfl ?_);refine nx 2 rfl (fD [12] h1 rfl (λ c9 h1=>?_) λ c9 h1=>?_)
 ·refine nx 7 Z (bd h1 λ CG D7 h1=>?_);refine oK (nW CB i8 _ D7) Z ⟨sr,sr,trivial⟩ Tryz.call70 Z (nx 12 Z ?_);refine fD [20] h1 Z (λ D9 h1=>?_) λ D9 h1=>?_
  ·exact nx 6 Z (mQ (hR0 _ (oi h1).symm) Z (sr))
  refine nx 5 Z (oA h1 Z Z λ EI h1=>?_);exact nx 2 Z (eX (i8+CG.2) h1 (gE Z Z))
 exact nx 2 Z (eXi _ (oi h1).symm (gE Z Z))
def eD (Cz:aa):Option Bool :=(if Cz.AT=2 then some true else if Cz.AT=1 then if Cz.A'=0 then some true else if Cz.A'=1 then some true else some (decide (Cz.A'=0))else some (decide (Cz.A'=0)) : Option Bool).bind λ num5=>(if Cz.AT=3 then some true else some (decide (Cz.By=([]:Bk))) : Option Bool).bind λ str7=>(if Cz.AT=4 then some true else if Cz.AT=5 then some true else some (decide ((Cz.Ar.length:Int)=0)) : Option Bool).bind λ items10=>(if Cz.AT=5 then if (Cz.AI.length:Int)=(Cz.Ar.length:Int) then some true else some false else some (decide ((Cz.AI.length:Int)=0)) : Option Bool).bind λ keys13=>(if 0<=Cz.AT then if Cz.AT<=6 then if num5=true then if str7=true then if items10=true then some keys13 else some false else some false else some false else some false else some false : Option Bool).bind λ Dx=>some Dx
theorem nU (Cz:aa)(r:Bool)(h0:eD Cz=some r):au Tryz.prog 113 [.agg (aa.cs Cz)] (·=.p (eB r)):=by
 unfold eD at h0;refine aZ good Tryz.func113 Z Z Z λ w0=>mP (λ v:Bool=>.p (eB v)) ?_;refine nx 6 Z (bd h0 λ EY h1 h0=>?_);refine kN EY (λ FD=>⟨[(1,.ptr 1 0),(3,.p (eB FD))],[(1,(aa.cs Cz).map .p)]⟩) ?_ ?_
 ·refine nx 2 Z (bd h0 λ Fy h1 h0=>?_);refine kN Fy (λ E1=>⟨[(1,.ptr 1 0),(3,.p (eB EY)),(4,.p (eB E1))],[(1,(aa.cs Cz).map .p)]⟩) ?_ ?_
  ·refine nx 2 Z (bd h0 λ Fx h1 h0=>?_);refine kN Fx (λ EC=>⟨[(1,.ptr 1 0),(3,.p (eB EY)),(4,.p (eB Fy)),(5,.p (eB EC))],[(1,(aa.cs Cz).map .p)]⟩) ?_ ?_
   ·refine nx 2 Z (bd h0 λ Hd h1 h0=>?_);refine kN Hd (λ GP=>⟨[(1,.ptr 1 0),(3,.p (eB EY)),(4,.p (eB Fy)),(5,.p (eB Fx)),(6,.p (eB GP))],[(1,(aa.cs Cz).map .p)]⟩) ?_ ?_
    ·refine nx 2 Z (bd h0 λ Ei h1 h0=>?_);refine kN Ei (λ FC=>⟨[(2,.p (eB FC))],[]⟩) ?_ ?_
     ·exact nx 2 Z (mQ (oi h0) Z (sr))
     refine nx 5 Z (fD [77,78] h1 Z (λ EO h1=>?_) λ EO h1=>?_)
     ·refine nx 5 Z (fD [81,82,83] h1 Z (λ FP h1=>?_) λ FP h1=>?_)
      ·refine nx 3 Z (fB [3,84,85,86] h1 Z (λ FO h1=>?_) λ FO h1=>?_)
       ·refine nx 3 Z (fB [4,87,88,89] h1 Z (λ Fu h1=>?_) λ Fu h1=>?_)
        ·refine nx 3 Z (fB [5,90,91,92] h1 Z (λ EN h1=>?_) λ EN h1=>?_)
         ·exact nx 4 Z (eX _ (oi h1).symm (gE Z Z))
         exact nx 4 Z (eX _ (oi h1).symm (gE Z Z))
        exact nx 7 Z (eX _ (oi h1).symm (gE Z Z))
       exact nx 10 Z (eX _ (oi h1).symm (gE Z Z))
      exact nx 13 Z (eX _ (oi h1).symm (gE Z Z))
     exact nx 18 Z (eX _ (oi h1).symm (gE Z Z))
    refine nx 5 Z (fD [54,55] h1 Z (λ Eg h1=>?_) λ Eg h1=>?_)
    ·refine nx 2 Z (oLl (f:=eS) Z Z ?_);refine nx 2 Z (oLl (f:=ah) Z Z ?_);refine nx 3 Z (fD [62,63,64] h1 Z (λ D9 h1=>?_) λ D9 h1=>?_)
     ·exact nx 12 Z (eX _ (oi h1).symm (gE Z Z))
     refine nx 4 Z (lT [68] (x6 Eg) Z ?_);exact nx 8 Z (eX _ (oi h1).symm (gE Z Z))
    refine nx 13 Z (lT [68] (Ae Eg) Z ?_);refine nx 2 Z (oLl (f:=eS) Z Z ?_);exact nx 5 Z (eX _ (oi h1).symm (gE Z Z))
   refine nx 5 Z (fD [40,41] h1 Z (λ c8 h1=>?_) λ c8 h1=>?_)
   ·exact nx 12 Z (eX _ (oi h1).symm (gE Z Z))
   refine nx 5 Z (fD [44,45,46] h1 Z (λ c9 h1=>?_) λ c9 h1=>?_)
   ·exact nx 7 Z (eX _ (oi h1).symm (gE Z Z))
   refine nx 2 Z (oLl (f:=ah) Z Z ?_);exact nx 4 Z (eX _ (oi h1).symm (gE Z Z))
  refine nx 5 Z (fD [32,33] h1 Z (λ c6 h1=>?_) λ c6 h1=>?_)
  ·exact nx 6 Z (eX _ (oi h1).symm (gE Z Z))
  refine nx 2 Z (oS Z Z ?_);exact nx 3 Z (eX _ (oi h1).symm (gE Z Z))
 refine nx 5 Z (fD [9,10] h1 Z (λ c1 h1=>?_) λ c1 h1=>?_)
 ·exact nx 21 Z (eX _ (oi h1).symm (gE Z Z))
 refine nx 4 Z (fD [13,14] h1 Z (λ c2 h1=>?_) λ c2 h1=>?_)
 ·refine nx 4 Z (fD [17,18] h1 Z (λ c3 h1=>?_) λ c3 h1=>?_)
  ·exact nx 13 Z (eX _ (oi h1).symm (gE Z Z))
  refine nx 7 Z (fD [21,22,23,24,25] h1 Z (λ c4 h1=>?_) λ c4 h1=>?_)
  ·exact nx 6 Z (eX _ (oi h1).symm (gE Z Z))
  exact nx 6 Z (eX _ (oi h1).symm (gE Z Z))
 exact nx 17 Z (eX _ (oi h1).symm (gE Z Z))
def fh (n:Nat)(CB:Bk):Option Int :=if 4096<(CB.length:Int) then some 3 else(et n CB).bind λ r2=>if (!r2)=true then some 1 else some 0
theorem lF (n:Nat)(CB:Bk)(r:Int)(h0:fh n CB=some r):au Tryz.prog 114 [eS CB] (·=.p (eI r)):=by
 unfold fh at h0;refine aZ good Tryz.func114 Z Z Z λ w0=>mP (λ v:Int=>.p (eI v)) ?_;refine nx 8 Z (oLs Z ?_);refine nx 2 Z (fD [5] h0 Z (λ c1 h0=>?_) λ c1 h0=>?_)
 ·exact nx 6 Z (mQ (oi h0) Z (sr))
 refine nx 6 Z (bd h0 λ r2 e3 h0=>?_);refine oK (iS _ CB _ e3) Z ⟨sr,trivial⟩ Tryz.call41 Z (nx 2 Z ?_);refine fB [8] h0 Z (λ c4 h0=>?_) λ c4 h0=>?_
 ·exact nx 6 Z (mQ (oi h0) Z (sr))
 exact nx 7 Z (mQ (oi h0) Z (sr))
def bO (n:Nat)(Cz:aa):Nat->Int->Option (Unit⊕Int)|0,_=>none|m+1,i25=>if i25<(Cz.AI.length:Int) then ck ((0:Int)<=i25/\i25<(Cz.AI.length:Int))<|(fh n (lat Cz.AI i25)).bind λ Fw=>if Fw=0 then(if 0<i25 then ck (inR (i25-1))<|ck ((0:Int)<=i25-1/\i25-1<(Cz.AI.length:Int))<|ck ((0:Int)<=i25/\i25<(Cz.AI.length:Int))<|some (!Op.bytesLess (lat Cz.AI (i25-1)) (lat Cz.AI i25))else some false : Option Bool).bind λ t35=>if t35=true then some (.inr 1)else ck (inR (i25+1))<|bO n Cz m (i25+1)else some (.inr Fw)else some (.inl ())
def gi (n:Nat)(Cz:aa):Option Int :=(eD Cz).bind λ r1=>if (!r1)=true then some 1 else(if Cz.AT=2 then(gt Cz.A').bind λ r5=>some (!r5)else some false : Option Bool).bind λ t7=>if t7=true then some 5 else(fh n Cz.By).bind λ r9=>if r9=0 then jn (bO n Cz n 0) λ E7=>some 0 else some r9
theorem qn (n:Nat)(Cz:aa)(r:Int)(h0:gi n Cz=some r):au Tryz.prog 84 [.agg (aa.cs Cz)] (·=.p (eI r)):=by
 unfold gi at h0;refine aZ good Tryz.func84 Z Z Z λ w0=>mP (λ v:Int=>.p (eI v)) ?_;refine nx 9 Z (bd h0 λ r1 e2 h0=>?_);refine oK (nU Cz _ e2) Z ⟨sr,trivial⟩ Tryz.call113 Z (nx 2 Z ?_);refine fB [8] h0 Z (λ c3 h0=>?_) λ c3 h0=>?_
 ·exact nx 6 Z (mQ (oi h0) Z (sr))
 refine nx 4 Z (bd h0 λ EA h1 h0=>?_);refine kN EA (λ EQ=>⟨[(1,.ptr 1 0),(17,.p (eB EQ))],[(1,(aa.cs Cz).map .p)]⟩) ?_ ?_
 ·refine nx 1 Z (fB [17] h0 Z (λ c8 h0=>?_) λ c8 h0=>?_)
  ·exact nx 6 Z (mQ (oi h0) Z (sr))
  refine nx 7 Z (bd h0 λ r9 GM h0=>?_);refine oK (lF _ Cz.By _ GM) Z ⟨sr,trivial⟩ Tryz.call114 Z (nx 7 Z ?_);refine fN [22] h0 Z (λ Eg h0=>?_) λ Eg h0=>?_
  ·refine nx 8 rfl ?_;obtain ⟨EX,h1,C9,hR0⟩:=dl h0;refine kEx 0 (λ Ej:Unit=>EX=.inl Ej) (λ Ej=>⟨[],[]⟩) (λ Ej hv=>?_) ?_
   ·have h0:=C9 _ hv;exact nx 6 Z (mQ (oi h0) Z (sr))
   refine lG (λ (Ec:Int)=>⟨[(1,.ptr 1 0),(4,.p (eI Ec))],[(1,(aa.cs Cz).map .p)]⟩) (λ m (Ec:Int)=>bO n Cz m Ec) Y 0 h1 (gE rfl rfl) ?_;rintro m i25 h1;replace h1:bO n Cz (m+1) i25=some EX:=h1;rw [bO] at h1;refine nx 6 rfl (oLl (f:=eS) rfl rfl ?_);refine nx 2 rfl (fD [28] h1 rfl (λ HG h1=>?_) λ HG h1=>?_)
   ·refine nx 10 Z (oE h1 Y Z Z Y λ Hq h1=>?_);refine nx 1 Z (bd h1 λ Fw e29 h1=>?_);refine oK (lF _ (lat Cz.AI i25) _ e29) Z ⟨sr,trivial⟩ Tryz.call114 Z (nx 7 Z ?_);refine fN [38] h1 Z (λ EL h1=>?_) λ EL h1=>?_
    ·refine nx 3 Z (bd h1 λ Gf h2 h1=>?_);refine kN Gf (λ F0=>⟨[(1,.ptr 1 0),(4,.p (eI i25)),(55,.p (eB F0))],[(1,(aa.cs Cz).map .p)]⟩) ?_ ?_
     ·refine nx 1 Z (fB [55] h1 Z (λ Fq h1=>?_) λ Fq h1=>?_)
      ·exact nx 6 Z (mQ (hR0 _ (oi h1).symm) Z (sr))
      refine nx 4 Z (oA h1 Z Z λ En h1=>?_);exact nx 2 Z (eX (i25+1) h1 (gE Z Z))
     refine fD (p:=0<i25) [] h2 Z (λ Eu h2=>?_) λ Eu h2=>?_
     ·refine cc' h2 λ Gu h2=>cc' h2 λ EH h2=>cc' h2 λ Eo h2=>mD [(1,.ptr 1 0),(4,.p (eI i25))] Z ⟨Z,Z,trivial⟩ Z (dR 1 Z ?_);refine dL (dt Eu) Z (dR 4 Z ?_);refine dq (.p (eI (i25-1))) [42,45] Z (λ _ e _ q=>jq (pi Z Z Z (e _ _ Z) Z Z Gu q) Z Z (e _ _ Z) (rfl)) Z (dq (.rptr [eS (lat Cz.AI (i25-1))]) [42,44,46] Z (λ _ e _ q=>jq (cO (f:=eS) (l:=Cz.AI) (λ x=>[eS x]) Z Z Z Z Z Z (e _ _ Z) Z (e _ _ Z) EH Y Y q) Z Z (e _ _ Z) (rfl)) Z ?_);refine dR 4 Z (dq (.rptr [eS (lat Cz.AI i25)]) [42,50,51] Z (λ _ e _ q=>jq (cO (f:=eS) (l:=Cz.AI) (λ x=>[eS x]) Z Z Z Z Z Z (e _ _ Z) Z (e _ _ Z) Eo Y Y q) Z Z (e _ _ Z) (rfl)) Z ?_);refine dR 1 Z (dq (.p (eB (!Op.bytesLess (lat Cz.AI (i25-1)) (lat Cz.AI i25)))) [42,48,53] Z (λ _ e _ q=>jq (lw Z Z Z (e _ _ Z) (e _ _ Z) Z q) Z Z (e _ _ Z) (rfl)) Z ?_);refine dR 1 Z (dE Z ?_);exact nx 1 Z (eX _ (oi h2).symm (gE Z Z))
     refine mD [(1,.ptr 1 0),(4,.p (eI i25))] Z ⟨Z,Z,trivial⟩ Z (dR 1 Z ?_);refine dL (df Eu) Z (dR 14 Z ?_);refine dE Z (nx 1 Z ?_);exact eX _ (oi h2).symm (gE Z Z)
    exact nx 7 Z (mQ (hR0 _ (oi h1).symm) Z (sr))
   exact nx 2 Z (eXi _ (oi h1).symm (gE Z Z))
  exact nx 7 Z (mQ (oi h0) Z (sr))
 refine nx 5 Z (fD [11,12] h1 Z (λ c4 h1=>?_) λ c4 h1=>?_)
 ·refine nx 2 Z (bd h1 λ r5 e6 h1=>?_);refine oK (pu Cz.A' _ e6) Z ⟨sr,trivial⟩ Tryz.call98 Z (nx 3 Z ?_);exact eX _ (oi h1).symm (gE Z Z)
 exact nx 6 Z (eX _ (oi h1).symm (gE Z Z))
def bH (Dr:aa->Int->Int->Option (Int×Int))(Cz:aa)(CK:Int):Nat->Int->Int->Option (Int⊕(Int×Int))|0,_,_=>none|m+1,n16,i17=>if i17<(Cz.Ar.length:Int) then ck ((0:Int)<=i17/\i17<(Cz.Ar.length:Int))<|ck (inR (CK+1))<|(Dr (lat Cz.Ar i17) (CK+1) n16).bind λ CX=>if CX.1=0 then ck (inR (i17+1))<|bH Dr Cz CK m CX.2 (i17+1)else some (.inr (CX.1,CX.2))else some (.inl n16)
def bW:Nat->aa->Int->Int->Option (Int×Int)|0,_,_,_=>none|n+1,Cz,CK,CV=>if 32<CK then some (4,CV)else if 4096<=CV then some (14,CV)else(gi n Cz).bind λ r3=>if r3=0 then ck (inR (CV+1))<|jn (bH (bW n) Cz CK n (CV+1) 0) λ n27=>some (0,n27)else some (r3,CV)
theorem pH (n:Nat):∀ (Cz:aa) (CK:Int) (CV:Int) (r:Int×Int),bW n Cz CK CV=some r->au Tryz.prog 58 [.agg (aa.cs Cz),eI CK,eI CV] (·=.tuple [.p (eI r.1),.p (eI r.2)]):=by
 induction n with
 | zero=>intro Cz CK CV r h0; cases h0
 | succ n ih=>
 have DD:=ih;intro Cz CK CV r h0;rw [bW] at h0;refine aZ good Tryz.func58 Z Z Z λ w0=>mP (λ v:Int×Int=>.tuple [.p (eI v.1),.p (eI v.2)]) ?_;refine nx 12 Z (fD [14] h0 Z (λ c1 h0=>?_) λ c1 h0=>?_)
 ·exact nx 8 Z (mQ (oi h0) Z (ar ⟨sr,sr,trivial⟩))
 refine nx 8 Z (fD [17] h0 Z (λ c2 h0=>?_) λ c2 h0=>?_)
 ·exact nx 8 Z (mQ (oi h0) Z (ar ⟨sr,sr,trivial⟩))
 refine nx 6 Z (bd h0 λ r3 e4 h0=>?_);refine oK (qn _ Cz _ e4) Z ⟨sr,trivial⟩ Tryz.call84 Z (nx 7 Z ?_);refine fN [22] h0 Z (λ c5 h0=>?_) λ c5 h0=>?_
 ·refine nx 5 rfl (oA h0 Z Z λ Hj h0=>?_);refine nx 8 rfl ?_;obtain ⟨Fx,h1,C9,hR0⟩:=dl h0;refine kEx 0 (λ EC:Int=>Fx=.inl EC) (λ EC=>⟨[(9,.p (eI EC))],[]⟩) (λ EC hv=>?_) ?_
  ·have h0:=C9 _ hv;exact nx 8 Z (mQ (oi h0) Z (ar ⟨sr,sr,trivial⟩))
  refine lG (λ (EW:Int×Int)=>⟨[(1,.p (eI CK)),(3,.ptr 3 0),(9,.p (eI EW.1)),(10,.p (eI EW.2))],[(3,(aa.cs Cz).map .p)]⟩) (λ m (EW:Int×Int)=>bH (bW n) Cz CK m EW.1 EW.2) Y (CV+1,0) h1 (gE rfl rfl) ?_;rintro m ⟨n16,i17⟩ h1;replace h1:bH (bW n) Cz CK (m+1) n16 i17=some Fx:=h1;rw [bH] at h1;refine nx 6 rfl (oLl (f:=ah) rfl rfl ?_);refine nx 2 rfl (fD [31] h1 rfl (λ EN h1=>?_) λ EN h1=>?_)
  ·refine nx 9 Z (oE h1 aa.B' Z Z Y λ DT h1=>?_);refine nx 2 Z (oA h1 Z Z λ C4 h1=>?_);refine nx 1 Z (bd h1 λ CX Et h1=>?_);refine oK (DD (lat Cz.Ar i17) (CK+1) n16 _ Et) Z ⟨sr,sr,sr,trivial⟩ Tryz.call58 Z (nx 12 Z ?_);refine fN [47] h1 Z (λ FN h1=>?_) λ FN h1=>?_
   ·refine nx 8 Z (oA h1 Z Z λ D6 h1=>?_);exact nx 2 Z (eX (CX.2,i17+1) h1 (gE Z Z))
   refine nx 8 Z (mG (gE (t:=⟨[(6,.p (eI CX.1)),(7,.p (eI CX.2))],[]⟩) Z Z) ?_);exact nx 1 Z (mQ (hR0 _ (oi h1).symm) Z (ar ⟨sr,sr,trivial⟩))
  exact nx 2 Z (eXi _ (oi h1).symm (gE Z Z))
 exact nx 9 Z (mQ (oi h0) Z (ar ⟨sr,sr,trivial⟩))
def ey (n:Nat)(Cz:aa):Option Int :=(bW n Cz 1 0).bind λ r1=>some r1.1
theorem kL (n:Nat)(Cz:aa)(r:Int)(h0:ey n Cz=some r):au Tryz.prog 27 [.agg (aa.cs Cz)] (·=.p (eI r)):=by
 unfold ey at h0;refine aZ good Tryz.func27 Z Z Z λ w0=>mP (λ v:Int=>.p (eI v)) ?_;refine nx 8 Z (bd h0 λ r1 e2 h0=>?_);refine oK (pH _ Cz 1 0 _ e2) Z ⟨sr,sr,sr,trivial⟩ Tryz.call58 Z (nx 12 Z ?_);exact mQ (oi h0) Z (sr)
def dd (a_0:aa)(CF:aa):Nat->Int->Option (Unit⊕Bool)|0,_=>none|m+1,i13=>if i13<(a_0.AI.length:Int) then ck ((0:Int)<=i13/\i13<(a_0.AI.length:Int))<|ck ((0:Int)<=i13/\i13<(CF.AI.length:Int))<|if lat a_0.AI i13=lat CF.AI i13 then ck (inR (i13+1))<|dd a_0 CF m (i13+1)else some (.inr false)else some (.inl ())
def di (Ds:aa->aa->Option Bool)(a_0:aa)(CF:aa):Nat->Int->Option (Unit⊕Bool)|0,_=>none|m+1,i28=>if i28<(a_0.Ar.length:Int) then ck ((0:Int)<=i28/\i28<(a_0.Ar.length:Int))<|ck ((0:Int)<=i28/\i28<(CF.Ar.length:Int))<|(Ds (lat a_0.Ar i28) (lat CF.Ar i28)).bind λ Eh=>if (!Eh)=true then some (.inr false)else ck (inR (i28+1))<|di Ds a_0 CF m (i28+1)else some (.inl ())
def dC:Nat->aa->aa->Option Bool|0,_,_=>none|n+1,a_0,CF=>(if a_0.AT=CF.AT then if a_0.A'=CF.A' then if a_0.By=CF.By then if (a_0.Ar.length:Int)=(CF.Ar.length:Int) then some (!decide ((a_0.AI.length:Int)=(CF.AI.length:Int)))else some true else some true else some true else some true : Option Bool).bind λ t5=>if t5=true then some false else jn (dd a_0 CF n 0) λ Ge=>jn (di (dC n) a_0 CF n 0) λ EU=>some true
theorem kY (n:Nat):∀ (a_0:aa) (CF:aa) (r:Bool),dC n a_0 CF=some r->au Tryz.prog 22 [.agg (aa.cs a_0),.agg (aa.cs CF)] (·=.p (eB r)):=by
 induction n with
 | zero=>intro a_0 CF r h0; cases h0
 | succ n ih=>
 have DF:=ih;intro a_0 CF r h0;rw [dC] at h0;refine aZ good Tryz.func22 Z Z Z λ w0=>mP (λ v:Bool=>.p (eB v)) ?_;refine nx 8 Z (bd h0 λ o40 h1 h0=>?_);refine kN o40 (λ GO=>⟨[(2,.ptr 2 0),(3,.ptr 3 0),(43,.p (eB GO))],[(2,(aa.cs a_0).map .p),(3,(aa.cs CF).map .p)]⟩) ?_ ?_
 ·refine nx 1 Z (fB [43] h0 Z (λ c6 h0=>?_) λ c6 h0=>?_)
  ·exact nx 6 Z (mQ (oi h0) Z (sr))
  refine nx 8 rfl ?_;obtain ⟨EA,h1,C9,hR0⟩:=dl h0;refine kEx 0 (λ EQ:Unit=>EA=.inl EQ) (λ EQ=>⟨[(2,.ptr 2 0),(3,.ptr 3 0)],[(2,(aa.cs a_0).map .p),(3,(aa.cs CF).map .p)]⟩) (λ EQ hv=>?_) ?_
  ·have h0:=C9 _ hv;refine nx 7 rfl ?_;obtain ⟨EX,h1,C9,hR0⟩:=dl h0;refine kEx 2 (λ Ej:Unit=>EX=.inl Ej) (λ Ej=>⟨[],[]⟩) (λ Ej hv=>?_) ?_
   ·have h0:=C9 _ hv;exact nx 6 Z (mQ (oi h0) Z (sr))
   refine lG (λ (Ec:Int)=>⟨[(2,.ptr 2 0),(3,.ptr 3 0),(6,.p (eI Ec))],[(2,(aa.cs a_0).map .p),(3,(aa.cs CF).map .p)]⟩) (λ m (Ec:Int)=>di (dC n) a_0 CF m Ec) Y 0 h1 (gE rfl rfl) ?_;rintro m i28 h1;replace h1:di (dC n) a_0 CF (m+1) i28=some EX:=h1;rw [di] at h1;refine nx 6 rfl (oLl (f:=ah) rfl rfl ?_);refine nx 2 rfl (fD [66] h1 rfl (λ Fs h1=>?_) λ Fs h1=>?_)
   ·refine nx 5 Z (cc' h1 λ Hp h1=>?_);refine cc' h1 λ FJ h1=>bd h1 λ Eh Gx h1=>mD [(2,.ptr 2 0),(3,.ptr 3 0),(6,.p (eI i28))] Z ⟨Z,Z,Z,trivial⟩ Z (dR 3 Z ?_);refine dq (.rptr (aa.cs (lat a_0.Ar i28))) [70,71] Z (λ _ e _ q=>ae Z (cO (f:=ah) (l:=a_0.Ar) aa.cs Z Z Z Z Z Z (e _ _ Z) Z (e _ _ Z) Hp aa.B' Y q)) Z (dR 4 Z ?_);refine dq (.rptr (aa.cs (lat CF.Ar i28))) [75,76] Z (λ _ e _ q=>ae Z (cO (f:=ah) (l:=CF.Ar) aa.cs Z Z Z Z Z Z (e _ _ Z) Z (e _ _ Z) FJ aa.B' Y q)) Z (dR 1 Z ?_);refine dq (.p (eB Eh)) [73,78] Z (λ _ e _ q=>ae Z (aY (DF (lat a_0.Ar i28) (lat CF.Ar i28) _ Gx) Z Z Z (am (e _ _ Z) (am (e _ _ Z) aM)) ⟨sr,sr,trivial⟩ Tryz.call22 Z q)) Z (dR 1 Z ?_);refine dE Z (nx 1 Z ?_);refine fB [80] h1 Z (λ HF h1=>?_) λ HF h1=>?_
    ·exact nx 6 Z (mQ (hR0 _ (oi h1).symm) Z (sr))
    refine nx 4 Z (oA h1 Z Z λ FI h1=>?_);exact nx 2 Z (eX (i28+1) h1 (gE Z Z))
   exact nx 2 Z (eXi _ (oi h1).symm (gE Z Z))
  refine lG (λ (EE:Int)=>⟨[(2,.ptr 2 0),(3,.ptr 3 0),(5,.p (eI EE))],[(2,(aa.cs a_0).map .p),(3,(aa.cs CF).map .p)]⟩) (λ m (EE:Int)=>dd a_0 CF m EE) Y 0 h1 (gE rfl rfl) ?_;rintro m i13 h1;replace h1:dd a_0 CF (m+1) i13=some EA:=h1;rw [dd] at h1;refine nx 6 rfl (oLl (f:=eS) rfl rfl ?_);refine nx 2 rfl (fD [48] h1 rfl (λ EO h1=>?_) λ EO h1=>?_)
  ·refine nx 5 Z (cc' h1 λ DW h1=>?_);refine cc' h1 λ Dl h1=>mD [(2,.ptr 2 0),(3,.ptr 3 0),(5,.p (eI i13))] Z ⟨Z,Z,Z,trivial⟩ Z (dR 3 Z ?_);refine dq (.rptr [eS (lat a_0.AI i13)]) [52,53] Z (λ _ e _ q=>ae Z (cO (f:=eS) (l:=a_0.AI) (λ x=>[eS x]) Z Z Z Z Z Z (e _ _ Z) Z (e _ _ Z) DW Y Y q)) Z (dR 4 Z ?_);refine dq (.rptr [eS (lat CF.AI i13)]) [57,58] Z (λ _ e _ q=>ae Z (cO (f:=eS) (l:=CF.AI) (λ x=>[eS x]) Z Z Z Z Z Z (e _ _ Z) Z (e _ _ Z) Dl Y Y q)) Z (dR 1 Z ?_);refine dq (.p (eB (!decide (lat a_0.AI i13=lat CF.AI i13)))) [55,60] Z (λ _ e _ q=>ae Z (lw Z Z Z (e _ _ Z) (e _ _ Z) Z q)) Z (dE Z ?_);refine nx 1 Z (fN [61] h1 Z (λ Fu h1=>?_) λ Fu h1=>?_)
   ·refine nx 4 Z (oA h1 Z Z λ D3 h1=>?_);exact nx 2 Z (eX (i13+1) h1 (gE Z Z))
   exact nx 6 Z (mQ (hR0 _ (oi h1).symm) Z (sr))
  exact nx 2 Z (eXi _ (oi h1).symm (gE Z Z))
 refine nx 7 Z (fN [11,12] h1 Z (λ c1 h1=>?_) λ c1 h1=>?_)
 ·refine nx 7 Z (fN [17,18,19] h1 Z (λ c2 h1=>?_) λ c2 h1=>?_)
  ·refine nx 4 Z (oS Z Z ?_);refine nx 2 Z (fN [24,25,26] h1 Z (λ c3 h1=>?_) λ c3 h1=>?_)
   ·refine nx 2 Z (oLl (f:=ah) Z Z ?_);refine nx 2 Z (oLl (f:=ah) Z Z ?_);refine nx 3 Z (fN [33,34,35] h1 Z (λ c4 h1=>?_) λ c4 h1=>?_)
    ·refine nx 2 Z (oLl (f:=eS) Z Z ?_);refine nx 2 Z (oLl (f:=eS) Z Z ?_);exact nx 3 Z (eX _ (oi h1).symm (gE Z Z))
    exact nx 9 Z (eX _ (oi h1).symm (gE Z Z))
   exact nx 18 Z (eX _ (oi h1).symm (gE Z Z))
  exact nx 25 Z (eX _ (oi h1).symm (gE Z Z))
 exact nx 32 Z (eX _ (oi h1).symm (gE Z Z))
def cy (Dy:aa->Int->Int->Option Int)(Cz:aa)(levels_2:Int):Nat->Int->Int->Option Int|0,_,_=>none|m+1,n15,i16=>(if i16<(Cz.Ar.length:Int) then some (decide (0<=n15))else some false : Option Bool).bind λ t18=>if t18=true then ck ((0:Int)<=i16/\i16<(Cz.Ar.length:Int))<|ck (inR (levels_2-1))<|(Dy (lat Cz.Ar i16) n15 (levels_2-1)).bind λ C2=>ck (inR (i16+1))<|cy Dy Cz levels_2 m C2 (i16+1)else some n15
def dK:Nat->aa->Int->Int->Option Int|0,_,_,_=>none|n+1,Cz,nodes_1,levels_2=>(if nodes_1<1 then some true else some (decide (levels_2<1)) : Option Bool).bind λ t2=>if t2=true then some (-1)else ck (inR (nodes_1-1))<|(cy (dK n) Cz levels_2 n (nodes_1-1) 0).bind λ n27=>some n27
theorem qv (n:Nat):∀ (Cz:aa) (nodes_1:Int) (levels_2:Int) (r:Int),dK n Cz nodes_1 levels_2=some r->au Tryz.prog 56 [.agg (aa.cs Cz),eI nodes_1,eI levels_2] (·=.p (eI r)):=by
 induction n with
 | zero=>intro Cz nodes_1 levels_2 r h0; cases h0
 | succ n ih=>
 have DN:=ih;intro Cz nodes_1 levels_2 r h0;rw [dK] at h0;refine aZ good Tryz.func56 Z Z Z λ w0=>mP (λ v:Int=>.p (eI v)) ?_;refine nx 7 Z (bd h0 λ Hd h1 h0=>?_);refine kN Hd (λ GP=>⟨[(1,.p (eI nodes_1)),(2,.p (eI levels_2)),(3,.ptr 3 0),(14,.p (eB GP))],[(3,(aa.cs Cz).map .p)]⟩) ?_ ?_
 ·refine nx 1 Z (fB [14] h0 Z (λ c3 h0=>?_) λ c3 h0=>?_)
  ·exact nx 6 Z (mQ (oi h0) Z (sr))
  refine nx 5 Z (oA h0 Z Z λ Fz h0=>?_);refine nx 8 Z (bd h0 λ Ei h1 h0=>?_);refine kE 0 Ei (λ FC=>⟨[(7,.p (eI FC))],[]⟩) ?_ ?_
  ·exact nx 7 Z (mQ (oi h0) Z (sr))
  refine lG (λ (EV:Int×Int)=>⟨[(2,.p (eI levels_2)),(3,.ptr 3 0),(7,.p (eI EV.1)),(8,.p (eI EV.2))],[(3,(aa.cs Cz).map .p)]⟩) (λ m (EV:Int×Int)=>cy (dK n) Cz levels_2 m EV.1 EV.2) Y (nodes_1-1,0) h1 (gE rfl rfl) ?_;rintro m ⟨n15,i16⟩ h1;replace h1:cy (dK n) Cz levels_2 (m+1) n15 i16=some Ei:=h1;rw [cy] at h1;refine nx 2 rfl (bd h1 λ o36 h2 h1=>?_);refine kN o36 (λ v37=>⟨[(2,.p (eI levels_2)),(3,.ptr 3 0),(7,.p (eI n15)),(8,.p (eI i16)),(25,.p (eB v37))],[(3,(aa.cs Cz).map .p)]⟩) ?_ ?_
  ·refine nx 1 Z (fB [25] h1 Z (λ D8 h1=>?_) λ D8 h1=>?_)
   ·refine nx 8 Z (oE h1 aa.B' Z Z Y λ C4 h1=>?_);refine nx 3 Z (oA h1 Z Z λ Eq h1=>?_);refine bd h1 λ C2 FL h1=>oK (DN (lat Cz.Ar i16) n15 (levels_2-1) _ FL) Z ⟨sr,sr,sr,trivial⟩ Tryz.call56 Z (nx 4 Z ?_);exact oA h1 Z Z λ D6 h1=>nx 2 Z (eX (C2,i16+1) h1 (gE Z Z))
   exact nx 2 Z (eXi _ (oi h1).symm (gE Z Z))
  refine nx 4 Z (oLl (f:=ah) Z Z ?_);refine nx 2 Z (fD [21,22] h2 Z (λ Fu h2=>?_) λ Fu h2=>?_)
  ·exact nx 4 Z (eX _ (oi h2).symm (gE Z Z))
  exact nx 4 Z (eX _ (oi h2).symm (gE Z Z))
 refine nx 4 Z (fD [10,11] h1 Z (λ c1 h1=>?_) λ c1 h1=>?_)
 ·exact nx 4 Z (eX _ (oi h1).symm (gE Z Z))
 exact nx 4 Z (eX _ (oi h1).symm (gE Z Z))
def cE (Dz:aa->Option Int)(Cz:aa):Nat->Int->Int->Option Int|0,_,_=>none|m+1,n9,i10=>if i10<(Cz.Ar.length:Int) then ck ((0:Int)<=i10/\i10<(Cz.Ar.length:Int))<|(Dz (lat Cz.Ar i10)).bind λ DK=>ck (inR (n9+DK))<|ck (inR (i10+1))<|cE Dz Cz m (n9+DK) (i10+1)else some n9
def dG:Nat->aa->Option Int|0,_=>none|n+1,Cz=>(cE (dG n) Cz n (Cz.AI.length:Int) 0).bind λ n19=>some n19
theorem qC (n:Nat):∀ (Cz:aa) (r:Int),dG n Cz=some r->au Tryz.prog 57 [.agg (aa.cs Cz)] (·=.p (eI r)):=by
 induction n with
 | zero=>intro Cz r h0; cases h0
 | succ n ih=>
 have DO:=ih;intro Cz r h0;rw [dG] at h0;refine aZ good Tryz.func57 Z Z Z λ w0=>mP (λ v:Int=>.p (eI v)) ?_;refine nx 9 Z (oLl (f:=eS) Z Z ?_);refine nx 8 Z (bd h0 λ o21 h1 h0=>?_);refine kE 0 o21 (λ v22=>⟨[(3,.p (eI v22))],[]⟩) ?_ ?_
 ·exact nx 7 Z (mQ (oi h0) Z (sr))
 refine lG (λ (G5:Int×Int)=>⟨[(1,.ptr 1 0),(3,.p (eI G5.1)),(4,.p (eI G5.2))],[(1,(aa.cs Cz).map .p)]⟩) (λ m (G5:Int×Int)=>cE (dG n) Cz m G5.1 G5.2) Y ((Cz.AI.length:Int),0) h1 (gE rfl rfl) ?_;rintro m ⟨n9,i10⟩ h1;replace h1:cE (dG n) Cz (m+1) n9 i10=some o21:=h1;rw [cE] at h1;refine nx 6 rfl (oLl (f:=ah) rfl rfl ?_);refine nx 2 rfl (fD [12] h1 rfl (λ Eg h1=>?_) λ Eg h1=>?_)
 ·refine nx 9 Z (oE h1 aa.B' Z Z Y λ EJ h1=>?_);refine nx 1 Z (bd h1 λ DK FY h1=>?_);refine oK (DO (lat Cz.Ar i10) _ FY) Z ⟨sr,trivial⟩ Tryz.call57 Z (oA h1 Z Z λ DW h1=>?_);refine nx 4 Z (oA h1 Z Z λ Dl h1=>?_);exact nx 2 Z (eX (n9+DK,i10+1) h1 (gE Z Z))
 exact nx 2 Z (eXi _ (oi h1).symm (gE Z Z))
def iu (n:Nat)(Cz:aa)(nodes_1:Int):Option Bool :=((dK n Cz nodes_1 40).bind λ r1=>if 0<=r1 then(dG n Cz).bind λ r4=>ck (inR (2*nodes_1))<|some (decide (r4<=2*nodes_1))else some false : Option Bool).bind λ t7=>some t7
theorem pY (n:Nat)(Cz:aa)(nodes_1:Int)(r:Bool)(h0:iu n Cz nodes_1=some r):au Tryz.prog 26 [.agg (aa.cs Cz),eI nodes_1] (·=.p (eB r)):=by
 unfold iu at h0;refine aZ good Tryz.func26 Z Z Z λ w0=>mP (λ v:Bool=>.p (eB v)) ?_;refine nx 6 Z (bd h0 λ o9 h1 h0=>?_);refine kN o9 (λ v10=>⟨[(4,.p (eB v10))],[]⟩) ?_ ?_
 ·exact nx 2 Z (mQ (oi h0) Z (sr))
 refine nx 3 Z (bd h1 λ r1 e2 h1=>?_);refine oK (qv _ Cz nodes_1 40 _ e2) Z ⟨sr,sr,sr,trivial⟩ Tryz.call56 Z (nx 2 Z ?_);refine fD [8,9] h1 Z (λ c3 h1=>?_) λ c3 h1=>?_
 ·refine nx 1 Z (bd h1 λ r4 e5 h1=>?_);refine oK (qC _ Cz _ e5) Z ⟨sr,trivial⟩ Tryz.call57 Z (nx 1 Z ?_);exact oA h1 Z Z λ Hj h1=>nx 4 Z (eX _ (oi h1).symm (gE Z Z))
 exact nx 8 Z (eX _ (oi h1).symm (gE Z Z))
def cL (n:Nat)(Cz:aa):Option Bool :=((iu n Cz 200).bind λ r1=>if r1=true then(ey n Cz).bind λ r4=>some (decide (r4=0))else some false : Option Bool).bind λ t6=>some t6
theorem eh (n:Nat)(Cz:aa)(r:Bool)(h0:cL n Cz=some r):au Tryz.prog 15 [.agg (aa.cs Cz)] (·=.p (eB r)):=by
 unfold cL at h0;refine aZ good Tryz.func15 Z Z Z λ w0=>mP (λ v:Bool=>.p (eB v)) ?_;refine nx 6 Z (bd h0 λ o8 h1 h0=>?_);refine kN o8 (λ v9=>⟨[(2,.p (eB v9))],[]⟩) ?_ ?_
 ·exact nx 2 Z (mQ (oi h0) Z (sr))
 refine nx 2 Z (bd h1 λ r1 e2 h1=>?_);refine oK (pY _ Cz 200 _ e2) Z ⟨sr,sr,trivial⟩ Tryz.call26 Z (nx 1 Z ?_);refine fB [4,5] h1 Z (λ c3 h1=>?_) λ c3 h1=>?_
 ·refine nx 1 Z (bd h1 λ r4 e5 h1=>?_);refine oK (kL _ Cz _ e5) Z ⟨sr,trivial⟩ Tryz.call27 Z (nx 4 Z ?_);exact eX _ (oi h1).symm (gE Z Z)
 exact nx 6 Z (eX _ (oi h1).symm (gE Z Z))
def cF (n:Nat)(CI:List ac):Nat->Int->Option (Unit⊕Int)|0,_=>none|m+1,i21=>if i21<(CI.length:Int) then ck ((0:Int)<=i21/\i21<(CI.length:Int))<|(if ((lat CI i21).Cu)=true then if (lat CI i21).BY=([]:Bk) then if (!((lat CI i21).Cu))=true then if (lat CI i21).A'=0 then(et n ((lat CI i21).BY)).bind λ Fw=>some (!Fw)else some true else some false else some true else if (!((lat CI i21).Cu))=true then if (lat CI i21).A'=0 then(et n ((lat CI i21).BY)).bind λ Eh=>some (!Eh)else some true else some false : Option Bool).bind λ F7=>if F7=true then some (.inr 1)else(if (lat CI i21).A'<0 then some true else some (decide (9007199254740992<(lat CI i21).A')) : Option Bool).bind λ t37=>if t37=true then some (.inr 5)else ck (inR (i21+1))<|cF n CI m (i21+1)else some (.inl ())
def fm (n:Nat)(CI:List ac):Option Int :=if 32<(CI.length:Int) then some 4 else jn (cF n CI n 0) λ Du=>some 0
theorem iY (n:Nat)(CI:List ac)(r:Int)(h0:fm n CI=some r):au Tryz.prog 17 [eL ag CI] (·=.p (eI r)):=by
 unfold fm at h0;refine aZ good Tryz.func17 Z Z Z λ w0=>mP (λ v:Int=>.p (eI v)) ?_;refine nx 8 Z (oLl (f:=ag) Z Z ?_);refine nx 2 Z (fD [7] h0 Z (λ c1 h0=>?_) λ c1 h0=>?_)
 ·exact nx 6 Z (mQ (oi h0) Z (sr))
 refine nx 8 rfl ?_;obtain ⟨EX,h1,C9,hR0⟩:=dl h0;refine kEx 0 (λ Ej:Unit=>EX=.inl Ej) (λ Ej=>⟨[],[]⟩) (λ Ej hv=>?_) ?_
 ·have h0:=C9 _ hv;exact nx 6 Z (mQ (oi h0) Z (sr))
 refine lG (λ (Ec:Int)=>⟨[(0,.p (eL ag CI)),(3,.p (eI Ec))],[]⟩) (λ m (Ec:Int)=>cF n CI m Ec) Y 0 h1 (gE rfl rfl) ?_;rintro m i21 h1;replace h1:cF n CI (m+1) i21=some EX:=h1;rw [cF] at h1;refine nx 5 rfl (oLl (f:=ag) rfl rfl ?_);refine nx 2 rfl (fD [11] h1 rfl (λ c22 h1=>?_) λ c22 h1=>?_)
 ·refine nx 8 Z (oE h1 ac.B' Z Z Y λ DI h1=>?_);refine nx 6 Z (bd h1 λ Gf h2 h1=>?_);refine kN Gf (λ F0=>⟨[(0,.p (eL ag CI)),(3,.p (eI i21)),(4,.ptr 4 0),(40,.p (eB F0))],[(4,(ac.cs (lat CI i21)).map .p)]⟩) ?_ ?_
  ·refine nx 1 Z (fB [40] h1 Z (λ c35 h1=>?_) λ c35 h1=>?_)
   ·exact nx 6 Z (mQ (hR0 _ (oi h1).symm) Z (sr))
   refine nx 3 Z (bd h1 λ Hb h2 h1=>?_);refine kN Hb (λ v50=>⟨[(0,.p (eL ag CI)),(3,.p (eI i21)),(48,.p (eB v50))],[]⟩) ?_ ?_
   ·refine nx 1 Z (fB [48] h1 Z (λ c38 h1=>?_) λ c38 h1=>?_)
    ·exact nx 6 Z (mQ (hR0 _ (oi h1).symm) Z (sr))
    refine nx 4 Z (oA h1 Z Z λ FH h1=>?_);exact nx 2 Z (eX (i21+1) h1 (gE Z Z))
   refine nx 5 Z (fD [43,44] h2 Z (λ Fq h2=>?_) λ Fq h2=>?_)
   ·exact nx 5 Z (eX _ (oi h2).symm (gE Z Z))
   exact nx 5 Z (eX _ (oi h2).symm (gE Z Z))
  refine nx 4 Z (fB [19,20] h2 Z (λ Ew h2=>?_) λ Ew h2=>?_)
  ·refine nx 2 Z (oS Z Z ?_);refine nx 2 Z (fN [23,24,25] h2 Z (λ EM h2=>?_) λ EM h2=>?_)
   ·refine nx 4 Z (fB [28,29] h2 Z (λ HG h2=>?_) λ HG h2=>?_)
    ·refine nx 4 Z (fN [32,33] h2 Z (λ Ft h2=>?_) λ Ft h2=>?_)
     ·refine nx 2 Z (bd h2 λ Fw e29 h2=>?_);refine oK (iS _ ((lat CI i21).BY) _ e29) Z ⟨sr,trivial⟩ Tryz.call41 Z (nx 5 Z ?_);exact eX _ (oi h2).symm (gE Z Z)
     exact nx 8 Z (eX _ (oi h2).symm (gE Z Z))
    exact nx 12 Z (eX _ (oi h2).symm (gE Z Z))
   exact nx 16 Z (eX _ (oi h2).symm (gE Z Z))
  refine nx 9 Z (fB [28,29] h2 Z (λ EL h2=>?_) λ EL h2=>?_)
  ·refine nx 4 Z (fN [32,33] h2 Z (λ Eu h2=>?_) λ Eu h2=>?_)
   ·refine nx 2 Z (bd h2 λ Eh Gx h2=>?_);refine oK (iS _ ((lat CI i21).BY) _ Gx) Z ⟨sr,trivial⟩ Tryz.call41 Z (nx 5 Z ?_);exact eX _ (oi h2).symm (gE Z Z)
   exact nx 8 Z (eX _ (oi h2).symm (gE Z Z))
  exact nx 12 Z (eX _ (oi h2).symm (gE Z Z))
 exact nx 2 Z (eXi _ (oi h1).symm (gE Z Z))
def gI (Cz:aa):Option Bool :=(if Cz.AT<0 then some true else some (decide (6<Cz.AT)) : Option Bool).bind λ t2=>if t2=true then some false else jn (if Cz.AT=1 then(if Cz.A'=0 then some false else some (!decide (Cz.A'=1)) : Option Bool).bind λ t6=>if t6=true then some (.inr false)else some (.inl ())else if Cz.AT=2 then some (.inl ())else if Cz.A'=0 then some (.inl ())else some (.inr false) : Option (Unit⊕Bool)) λ q20=>(if Cz.AT=3 then if Cz.AT=4 then some false else if Cz.AT=5 then some false else some (decide (0<(Cz.Ar.length:Int)))else if Cz.By=([]:Bk) then if Cz.AT=4 then some false else if Cz.AT=5 then some false else some (decide (0<(Cz.Ar.length:Int)))else some true : Option Bool).bind λ DU=>if DU=true then some false else if Cz.AT=5 then some (decide ((Cz.AI.length:Int)=(Cz.Ar.length:Int)))else some (decide ((Cz.AI.length:Int)=0))
theorem od (Cz:aa)(r:Bool)(h0:gI Cz=some r):au Tryz.prog 105 [.agg (aa.cs Cz)] (·=.p (eB r)):=by
 unfold gI at h0;refine aZ good Tryz.func105 Z Z Z λ w0=>mP (λ v:Bool=>.p (eB v)) ?_;refine nx 7 Z (bd h0 λ He h1 h0=>?_);refine kN He (λ ER=>⟨[(1,.ptr 1 0),(10,.p (eB ER))],[(1,(aa.cs Cz).map .p)]⟩) ?_ ?_
 ·refine nx 1 Z (fB [10] h0 Z (λ c3 h0=>?_) λ c3 h0=>?_)
  ·exact nx 6 Z (mQ (oi h0) Z (sr))
  refine nx 8 rfl ?_;obtain ⟨EY,h1,C9,hR0⟩:=dl h0;refine kX (λ FD:Unit=>EY=.inl FD) (λ FD=>⟨[(1,.ptr 1 0)],[(1,(aa.cs Cz).map .p)]⟩) (λ FD hv=>?_) ?_
  ·have h0:=C9 _ hv;refine nx 3 Z (bd h0 λ Fy h1 h0=>?_);refine kN Fy (λ E1=>⟨[(1,.ptr 1 0),(51,.p (eB E1))],[(1,(aa.cs Cz).map .p)]⟩) ?_ ?_
   ·refine nx 1 Z (fB [51] h0 Z (λ Fu h0=>?_) λ Fu h0=>?_)
    ·exact nx 6 Z (mQ (oi h0) Z (sr))
    refine nx 9 Z (fD [54] h0 Z (λ EN h0=>?_) λ EN h0=>?_)
    ·refine nx 5 Z (oLl (f:=eS) Z Z ?_);refine nx 2 Z (oLl (f:=ah) Z Z ?_);exact nx 4 Z (mQ (oi h0) Z (sr))
    refine nx 6 Z (oLl (f:=eS) Z Z ?_);exact nx 4 Z (mQ (oi h0) Z (sr))
   refine nx 5 Z (fN [30,31] h1 Z (λ GH h1=>?_) λ GH h1=>?_)
   ·refine nx 9 Z (fN [39,40] h1 Z (λ Eg h1=>?_) λ Eg h1=>?_)
    ·exact nx 12 Z (eX _ (oi h1).symm (gE Z Z))
    refine nx 5 Z (fN [43,44,45] h1 Z (λ D9 h1=>?_) λ D9 h1=>?_)
    ·exact nx 7 Z (eX _ (oi h1).symm (gE Z Z))
    refine nx 2 Z (oLl (f:=ah) Z Z ?_);exact nx 4 Z (eX _ (oi h1).symm (gE Z Z))
   refine nx 2 Z (oS Z Z ?_);refine nx 2 Z (fN [34,35,36] h1 Z (λ EP h1=>?_) λ EP h1=>?_)
   ·refine nx 4 Z (fN [39,40] h1 Z (λ EO h1=>?_) λ EO h1=>?_)
    ·exact nx 12 Z (eX _ (oi h1).symm (gE Z Z))
    refine nx 5 Z (fN [43,44,45] h1 Z (λ FP h1=>?_) λ FP h1=>?_)
    ·exact nx 7 Z (eX _ (oi h1).symm (gE Z Z))
    refine nx 2 Z (oLl (f:=ah) Z Z ?_);exact nx 4 Z (eX _ (oi h1).symm (gE Z Z))
   exact nx 16 Z (eX _ (oi h1).symm (gE Z Z))
  refine nx 6 Z (fD [16,17] h1 Z (λ c4 h1=>?_) λ c4 h1=>?_)
  ·refine nx 2 Z (bd h1 λ Fx h2 h1=>?_);refine kN Fx (λ EC=>⟨[(1,.ptr 1 0),(25,.p (eB EC))],[(1,(aa.cs Cz).map .p)]⟩) ?_ ?_
   ·refine nx 1 Z (fB [25] h1 Z (λ c7 h1=>?_) λ c7 h1=>?_)
    ·exact nx 6 Z (mQ (hR0 _ (oi h1).symm) Z (sr))
    exact nx 2 Z (eX _ (oi h1).symm (gE Z Z))
   refine nx 5 Z (fN [20,21] h2 Z (λ c5 h2=>?_) λ c5 h2=>?_)
   ·exact nx 5 Z (eX _ (oi h2).symm (gE Z Z))
   exact nx 5 Z (eX _ (oi h2).symm (gE Z Z))
  refine nx 6 Z (fD [26,27] h1 Z (λ c8 h1=>?_) λ c8 h1=>?_)
  ·exact nx 2 Z (eX _ (oi h1).symm (gE Z Z))
  refine nx 7 Z (fN [15] h1 Z (λ c9 h1=>?_) λ c9 h1=>?_)
  ·exact nx 2 Z (eX _ (oi h1).symm (gE Z Z))
  exact nx 6 Z (mQ (hR0 _ (oi h1).symm) Z (sr))
 refine nx 5 Z (fD [5,6] h1 Z (λ c1 h1=>?_) λ c1 h1=>?_)
 ·exact nx 5 Z (eX _ (oi h1).symm (gE Z Z))
 exact nx 5 Z (eX _ (oi h1).symm (gE Z Z))
def ib (CB:Bk):Option Int :=if 4096<(CB.length:Int) then some 3 else(d7 CB).bind λ r2=>if (!r2)=true then some 1 else some 0
theorem lE (CB:Bk)(r:Int)(h0:ib CB=some r):au Tryz.prog 107 [eS CB] (·=.p (eI r)):=by
 unfold ib at h0;refine aZ good Tryz.func107 Z Z Z λ w0=>mP (λ v:Int=>.p (eI v)) ?_;refine nx 8 Z (oLs Z ?_);refine nx 2 Z (fD [5] h0 Z (λ c1 h0=>?_) λ c1 h0=>?_)
 ·exact nx 6 Z (mQ (oi h0) Z (sr))
 refine nx 6 Z (bd h0 λ r2 e3 h0=>?_);refine oK (n0 CB _ e3) Z ⟨sr,trivial⟩ Tryz.call48 Z (nx 2 Z ?_);refine fB [8] h0 Z (λ c4 h0=>?_) λ c4 h0=>?_
 ·exact nx 6 Z (mQ (oi h0) Z (sr))
 exact nx 7 Z (mQ (oi h0) Z (sr))
def cD (Cz:aa):Nat->Int->Option (Unit⊕(Unit⊕Int))|0,_=>none|m+1,D5=>if D5<(Cz.AI.length:Int) then ck ((0:Int)<=D5/\D5<(Cz.AI.length:Int))<|(ib (lat Cz.AI D5)).bind λ FR=>if FR=0 then(if 0<D5 then ck (inR (D5-1))<|ck ((0:Int)<=D5-1/\D5-1<(Cz.AI.length:Int))<|some (Op.bytesLess (lat Cz.AI D5) (lat Cz.AI (D5-1))||decide (lat Cz.AI D5=lat Cz.AI (D5-1)))else some false : Option Bool).bind λ t33=>if t33=true then some (.inr (.inr 1))else ck (inR (D5+1))<|cD Cz m (D5+1)else some (.inr (.inr FR))else some (.inl ())
def iT (n:Nat)(Cz:aa):Option Int :=(gI Cz).bind λ r1=>if (!r1)=true then some 1 else jn (if Cz.AT=2 then(fy Cz.A').bind λ r5=>if (!r5)=true then some (.inr 5)else some (.inl ())else if Cz.AT=3 then(ib Cz.By).bind λ r9=>some (.inr r9)else if Cz.AT=5 then jn (cD Cz n 0) λ Ge=>some (.inl ())else some (.inl ()) : Option (Unit⊕Int)) λ q37=>some 0
theorem qj (n:Nat)(Cz:aa)(r:Int)(h0:iT n Cz=some r):au Tryz.prog 76 [.agg (aa.cs Cz)] (·=.p (eI r)):=by
 unfold iT at h0;refine aZ good Tryz.func76 Z Z Z λ w0=>mP (λ v:Int=>.p (eI v)) ?_;refine nx 9 Z (bd h0 λ r1 e2 h0=>?_);refine oK (od Cz _ e2) Z ⟨sr,trivial⟩ Tryz.call105 Z (nx 2 Z ?_);refine fB [8] h0 Z (λ c3 h0=>?_) λ c3 h0=>?_
 ·exact nx 6 Z (mQ (oi h0) Z (sr))
 refine nx 8 rfl ?_;obtain ⟨o40,h1,C9,hR0⟩:=dl h0;refine kX (λ GO:Unit=>o40=.inl GO) (λ GO=>⟨[],[]⟩) (λ GO hv=>?_) ?_
 ·have h0:=C9 _ hv;exact nx 6 Z (mQ (oi h0) Z (sr))
 refine nx 6 Z (fD [11,12] h1 Z (λ c4 h1=>?_) λ c4 h1=>?_)
 ·refine nx 5 Z (bd h1 λ r5 e6 h1=>?_);refine oK (kh Cz.A' _ e6) Z ⟨sr,trivial⟩ Tryz.call106 Z (nx 2 Z ?_);refine fB [16] h1 Z (λ c7 h1=>?_) λ c7 h1=>?_
  ·exact nx 6 Z (mQ (hR0 _ (oi h1).symm) Z (sr))
  exact nx 2 Z (eX _ (oi h1).symm (gE Z Z))
 refine nx 6 Z (fD [17,18] h1 Z (λ c8 h1=>?_) λ c8 h1=>?_)
 ·refine nx 5 Z (bd h1 λ r9 GM h1=>?_);refine oK (lE Cz.By _ GM) Z ⟨sr,trivial⟩ Tryz.call107 Z (nx 3 Z ?_);exact mQ (hR0 _ (oi h1).symm) Z (sr)
 refine nx 6 Z (fD [22,23] h1 Z (λ Eg h1=>?_) λ Eg h1=>?_)
 ·refine nx 5 rfl (oLl (f:=eS) Z Z ?_);refine nx 3 rfl ?_;obtain ⟨EA,h2,hL1,hR1⟩:=dl h1;refine kEx 1 (λ EQ:Unit=>EA=.inl EQ) (λ EQ=>⟨[],[]⟩) (λ EQ hv=>?_) ?_
  ·have h1:=hL1 _ hv;exact nx 1 Z (eX _ (oi h1).symm (gE Z Z))
  refine lG (λ (q44:Int)=>⟨[(1,.ptr 1 0),(25,.p (eL eS Cz.AI)),(26,.p (eI (Cz.AI.length:Int))),(27,.p (eI q44))],[(1,(aa.cs Cz).map .p)]⟩) (λ m (q44:Int)=>cD Cz m q44) Y 0 h2 (gE rfl rfl) ?_;rintro m D5 h2;replace h2:cD Cz (m+1) D5=some EA:=h2;rw [cD] at h2;refine nx 5 rfl (fD [28] h2 rfl (λ EM h2=>?_) λ EM h2=>?_)
  ·refine nx 7 Z (oE h2 Y Z Z Y λ Ep h2=>?_);refine nx 8 Z (bd h2 λ FR e28 h2=>?_);refine oK (lE (lat Cz.AI D5) _ e28) Z ⟨sr,trivial⟩ Tryz.call107 Z (nx 7 Z ?_);refine fN [35] h2 Z (λ Fs h2=>?_) λ Fs h2=>?_
   ·refine nx 3 Z (bd h2 λ Gg h3 h2=>?_);refine kN Gg (λ v46=>⟨[(1,.ptr 1 0),(25,.p (eL eS Cz.AI)),(26,.p (eI (Cz.AI.length:Int))),(27,.p (eI D5)),(48,.p (eB v46))],[(1,(aa.cs Cz).map .p)]⟩) ?_ ?_
    ·refine nx 1 Z (fB [48] h2 Z (λ HF h2=>?_) λ HF h2=>?_)
     ·exact nx 6 Z (mQ (hR0 _ (hR1 _ (oi h2).symm).symm) Z (sr))
     refine nx 3 Z (oA h2 Z Z λ FI h2=>?_);exact nx 2 Z (eX (D5+1) h2 (gE Z Z))
    refine nx 4 Z (fD [38,39] h3 Z (λ EL h3=>?_) λ EL h3=>?_)
    ·refine nx 4 Z (oA h3 Z Z λ FJ h3=>?_);refine oE h3 Y Z Z Y λ Gu h3=>nx 1 Z (oS Z Z ?_);exact nx 2 Z (eX _ (oi h3).symm (gE Z Z))
    exact nx 10 Z (eX _ (oi h3).symm (gE Z Z))
   exact nx 7 Z (mQ (hR0 _ (hR1 _ (oi h2).symm).symm) Z (sr))
  exact nx 2 Z (eXi _ (oi h2).symm (gE Z Z))
 exact nx 2 Z (eX _ (oi h1).symm (gE Z Z))
def ce (Di:aa->Int->Int->Option (Int×Int))(Cz:aa)(CK:Int):Nat->Int->Int->Option (Int⊕(Int×Int))|0,_,_=>none|m+1,DU,Ef=>if DU<(Cz.Ar.length:Int) then ck ((0:Int)<=DU/\DU<(Cz.Ar.length:Int))<|ck (inR (CK+1))<|(Di (lat Cz.Ar DU) (CK+1) Ef).bind λ CX=>if CX.1=0 then ck (inR (DU+1))<|ce Di Cz CK m (DU+1) CX.2 else some (.inr (CX.1,CX.2))else some (.inl Ef)
def ci:Nat->aa->Int->Int->Option (Int×Int)|0,_,_,_=>none|n+1,Cz,CK,cap_0=>if 32<CK then some (4,cap_0)else if 4096<=cap_0 then some (14,cap_0)else ck (inR (cap_0+1))<|(iT n Cz).bind λ r4=>if r4=0 then jn (ce (ci n) Cz CK n 0 (cap_0+1)) λ f27=>some (0,f27)else some (r4,cap_0+1)
theorem mF (n:Nat):∀ (Cz:aa) (CK:Int) (cap_0:Int) (r:Int×Int),ci n Cz CK cap_0=some r->bs Tryz.prog 75 [.p (.agg (aa.cs Cz)),.p (eI CK),.ptr 1000000 0,.ptr 1000001 0] [(1000000,[.p (eI cap_0)]),(1000001,[.func (.func 75) [.ptr 1000000 0,.ptr 1000001 0]])] (λ x y=>x=.p (eI r.1)/\y=[(1000000,[.p (eI r.2)]),(1000001,[.func (.func 75) [.ptr 1000000 0,.ptr 1000001 0]])]):=by
 induction n with
 | zero=>intro Cz CK cap_0 r h0; cases h0
 | succ n ih=>
 have Dp:=ih;intro Cz CK cap_0 r h0;rw [ci] at h0;refine gN good [] [1000000,1000001] Tryz.func75 Z Z Z Z Z λ w0 F=>mPo (λ v:Int×Int=>.p (eI v.1)) (λ v=>[(1000000,[.p (eI v.2)]),(1000001,[.func (.func 75) [.ptr 1000000 0,.ptr 1000001 0]])]) ?_;refine nx 11 Z (fD [12] h0 Z (λ c1 h0=>?_) λ c1 h0=>?_)
 ·exact nx 6 Z (mQo (oi h0) (bB _) Z Z Z Z (sr) ⟨⟨_,Z,⟨sr,trivial⟩⟩,⟨_,Z,⟨sr,trivial⟩⟩,trivial⟩)
 refine nx 8 Z (fD [14] h0 Z (λ c2 h0=>?_) λ c2 h0=>?_)
 ·exact nx 6 Z (mQo (oi h0) (bB _) Z Z Z Z (sr) ⟨⟨_,Z,⟨sr,trivial⟩⟩,⟨_,Z,⟨sr,trivial⟩⟩,trivial⟩)
 refine nx 5 Z (oA h0 Z Z λ EB h0=>?_);refine nx 6 Z (bd h0 λ r4 e5 h0=>?_);refine oK (qj _ Cz _ e5) Z ⟨sr,trivial⟩ Tryz.call76 Z (nx 7 Z ?_);refine fN [20] h0 Z (λ c6 h0=>?_) λ c6 h0=>?_
 ·refine nx 7 rfl (oLl (f:=ah) Z Z ?_);refine nx 3 rfl ?_;obtain ⟨Fx,h1,C9,hR0⟩:=dl h0;refine kEx 0 (λ EC:Int=>Fx=.inl EC) (λ EC=>⟨[],[(1000000,[.p (eI EC)]),(1000001,[.func (.func 75) [.ptr 1000000 0,.ptr 1000001 0]])]⟩) (λ EC hv=>?_) ?_
  ·have h0:=C9 _ hv;exact nx 6 Z (mQo (oi h0) (bB _) Z Z Z Z (sr) ⟨⟨_,Z,⟨sr,trivial⟩⟩,⟨_,Z,⟨sr,trivial⟩⟩,trivial⟩)
  refine lG (λ (EW:Int×Int)=>⟨[(1,.p (eI CK)),(3,.ptr 1000001 0),(23,.p (eL ah Cz.Ar)),(24,.p (eI (Cz.Ar.length:Int))),(25,.p (eI EW.1))],[(1000000,[.p (eI EW.2)]),(1000001,[.func (.func 75) [.ptr 1000000 0,.ptr 1000001 0]])]⟩) (λ m (EW:Int×Int)=>ce (ci n) Cz CK m EW.1 EW.2) Y (0,cap_0+1) h1 (gE rfl rfl) ?_;rintro m ⟨DU,Ef⟩ h1;replace h1:ce (ci n) Cz CK (m+1) DU Ef=some Fx:=h1;rw [ce] at h1;refine nx 5 rfl (fD [26] h1 rfl (λ EN h1=>?_) λ EN h1=>?_)
  ·refine nx 6 Z (oE h1 aa.B' Z Z Y λ DT h1=>?_);refine nx 9 Z (oA h1 Z Z λ C4 h1=>?_);refine bd h1 λ CX Et h1=>mO Z (rc [1000000,1000001] [] 102000 102000 (Dp (lat Cz.Ar DU) (CK+1) Ef _ Et) Z Z Z Z Z Z ⟨sr,sr,sr,sr,trivial⟩ Z Z ⟨⟨_,Z,⟨sr,trivial⟩⟩,⟨_,Z,⟨sr,trivial⟩⟩,trivial⟩ Z Z Z Z Z Z Z Z Tryz.call75 Z Z ?_);refine nx 7 Z (fN [35] h1 Z (λ FN h1=>?_) λ FN h1=>?_)
   ·refine nx 3 Z (oA h1 Z Z λ D6 h1=>?_);exact nx 2 Z (eX (DU+1,CX.2) h1 (gE Z Z))
   exact nx 7 Z (mQo (hR0 _ (oi h1).symm) (bB _) Z Z Z Z (sr) ⟨⟨_,Z,⟨sr,trivial⟩⟩,⟨_,Z,⟨sr,trivial⟩⟩,trivial⟩)
  exact nx 2 Z (eXi _ (oi h1).symm (gE Z Z))
 exact nx 7 Z (mQo (oi h0) (bB _) Z Z Z Z (sr) ⟨⟨_,Z,⟨sr,trivial⟩⟩,⟨_,Z,⟨sr,trivial⟩⟩,trivial⟩)
def ir (n:Nat)(Cz:aa):Option Int :=(ci n Cz 1 0).bind λ r1=>some r1.1
theorem o0 (n:Nat)(Cz:aa)(r:Int)(h0:ir n Cz=some r):au Tryz.prog 46 [.agg (aa.cs Cz)] (·=.p (eI r)):=by
 unfold ir at h0;refine aZ good Tryz.func46 Z Z Z λ w0=>mP (λ v:Int=>.p (eI v)) ?_;refine nx 16 Z (mO Z (tW Z Z Z Z ?_));refine nx 6 Z (bd h0 λ r1 e2 h0=>?_);refine mO Z (rc [3,4] [] 101000 101000 (mF _ Cz 1 0 _ e2) Z Z Z Z Z Z ⟨sr,sr,sr,sr,trivial⟩ Z Z ⟨⟨_,Z,⟨sr,trivial⟩⟩,⟨_,Z,⟨sr,trivial⟩⟩,trivial⟩ Z Z Z Z Z Z Z Z Tryz.call75 Z Z ?_);exact nx 3 Z (mQ (oi h0) Z (sr))
def bn (s1_0:List Bk)(s2_1:List Bk):Nat->Int->Option (Unit⊕Bool)|0,_=>none|m+1,t8=>if t8<(s1_0.length:Int) then ck ((0:Int)<=t8/\t8<(s1_0.length:Int))<|ck ((0:Int)<=t8/\t8<(s2_1.length:Int))<|if lat s1_0 t8=lat s2_1 t8 then ck (inR (t8+1))<|bn s1_0 s2_1 m (t8+1)else some (.inr false)else some (.inl ())
def bo (n:Nat)(s1_0:List Bk)(s2_1:List Bk):Option Bool :=if (s1_0.length:Int)=(s2_1.length:Int) then jn (bn s1_0 s2_1 n 0) λ q15=>some true else some false
theorem db (n:Nat)(s1_0:List Bk)(s2_1:List Bk)(r:Bool)(h0:bo n s1_0 s2_1=some r):au Tryz.prog 60 [eL eS s1_0,eL eS s2_1] (·=.p (eB r)):=by
 unfold bo at h0;refine aZ good Tryz.func60 Z Z Z λ w0=>mP (λ v:Bool=>.p (eB v)) ?_;refine nx 8 Z (oLl (f:=eS) Z Z ?_);refine nx 1 Z (oLl (f:=eS) Z Z ?_);refine nx 2 Z (fN [10] h0 Z (λ c1 h0=>?_) λ c1 h0=>?_)
 ·refine nx 6 rfl (oLl (f:=eS) Z Z ?_);refine nx 3 rfl ?_;obtain ⟨FU,h1,C9,hR0⟩:=dl h0;refine kEx 0 (λ E2:Unit=>FU=.inl E2) (λ E2=>⟨[],[]⟩) (λ E2 hv=>?_) ?_
  ·have h0:=C9 _ hv;exact nx 6 Z (mQ (oi h0) Z (sr))
  refine lG (λ (E8:Int)=>⟨[(0,.p (eL eS s1_0)),(1,.p (eL eS s2_1)),(12,.p (eI (s1_0.length:Int))),(13,.p (eI E8))],[]⟩) (λ m (E8:Int)=>bn s1_0 s2_1 m E8) Y 0 h1 (gE rfl rfl) ?_;rintro m t8 h1;replace h1:bn s1_0 s2_1 (m+1) t8=some FU:=h1;rw [bn] at h1;refine nx 5 rfl (fD [14] h1 rfl (λ c9 h1=>?_) λ c9 h1=>?_)
  ·refine nx 10 Z (cc' h1 λ Es h1=>?_);refine cc' h1 λ Fj h1=>mD [(0,.p (eL eS s1_0)),(1,.p (eL eS s2_1)),(5,.p (eI t8)),(12,.p (eI (s1_0.length:Int))),(13,.p (eI t8))] Z ⟨Z,Z,Z,Z,Z,trivial⟩ Z (dR 2 Z ?_);refine dq (.rptr [eS (lat s1_0 t8)]) [16,17] Z (λ _ e _ q=>ae Z (cO (f:=eS) (l:=s1_0) (λ x=>[eS x]) Z Z Z Z Z Z (e _ _ Z) Z (e _ _ Z) Es Y Y q)) Z (dR 3 Z ?_);refine dq (.rptr [eS (lat s2_1 t8)]) [20,21] Z (λ _ e _ q=>ae Z (cO (f:=eS) (l:=s2_1) (λ x=>[eS x]) Z Z Z Z Z Z (e _ _ Z) Z (e _ _ Z) Fj Y Y q)) Z (dR 1 Z ?_);refine dq (.p (eB (!decide (lat s1_0 t8=lat s2_1 t8)))) [19,23] Z (λ _ e _ q=>ae Z (lw Z Z Z (e _ _ Z) (e _ _ Z) Z q)) Z (dE Z ?_);refine nx 1 Z (fN [24] h1 Z (λ D9 h1=>?_) λ D9 h1=>?_)
   ·refine nx 3 Z (oA h1 Z Z λ EI h1=>?_);exact nx 2 Z (eX (t8+1) h1 (gE Z Z))
   exact nx 6 Z (mQ (hR0 _ (oi h1).symm) Z (sr))
  exact nx 2 Z (eXi _ (oi h1).symm (gE Z Z))
 exact nx 6 Z (mQ (oi h0) Z (sr))
def av (s1_0:List aa)(s2_1:List aa)(eq_2:aa->aa->Option Bool):Nat->Int->Option (Unit⊕Bool)|0,_=>none|m+1,DX=>if DX<(s1_0.length:Int) then ck ((0:Int)<=DX/\DX<(s1_0.length:Int))<|ck ((0:Int)<=DX/\DX<(s2_1.length:Int))<|(eq_2 (lat s1_0 DX) (lat s2_1 DX)).bind λ Ez=>if (!Ez)=true then some (.inr false)else ck (inR (DX+1))<|av s1_0 s2_1 eq_2 m (DX+1)else some (.inl ())
def aL (n:Nat)(s1_0:List aa)(s2_1:List aa)(eq_2:aa->aa->Option Bool):Option Bool :=if (s1_0.length:Int)=(s2_1.length:Int) then jn (av s1_0 s2_1 eq_2 n 0) λ q19=>some true else some false
theorem cT (n:Nat)(s1_0:List aa)(s2_1:List aa)(eq_2:aa->aa->Option Bool)(F_eq_2:FuncId)(C_eq_2:List AV)(K_eq_2:AV.mapA.go (λ _=>none) C_eq_2=some C_eq_2)(E_eq_2:∀ vs w,(callFunc F_eq_2 vs).run Tryz.prog w=.ok (.enter F_eq_2 vs) w)(H_eq_2:∀ (x0:aa) (x1:aa) r,eq_2 x0 x1=some r->hZ Tryz.prog F_eq_2 ([.p (.agg (aa.cs x0)),.p (.agg (aa.cs x1))]++C_eq_2) (·=.p (eB r)))(r:Bool)(h0:aL n s1_0 s2_1 eq_2=some r):hZ Tryz.prog 61 [.p (eL ah s1_0),.p (eL ah s2_1),.func (.func F_eq_2) C_eq_2] (·=.p (eB r)):=by
 unfold aL at h0;refine BQ good Tryz.func61 Z Z Z λ w0=>mP (λ v:Bool=>.p (eB v)) ?_;refine nx 8 Z (oLl (f:=ah) Z Z ?_);refine nx 1 Z (oLl (f:=ah) Z Z ?_);refine nx 2 Z (fN [14] h0 Z (λ c1 h0=>?_) λ c1 h0=>?_)
 ·refine nx 6 rfl (oLl (f:=ah) Z Z ?_);refine nx 3 rfl ?_;obtain ⟨o20,h1,C9,hR0⟩:=dl h0;refine kEx 0 (λ v21:Unit=>o20=.inl v21) (λ v21=>⟨[],[]⟩) (λ v21 hv=>?_) ?_
  ·have h0:=C9 _ hv;exact nx 6 Z (mQ (oi h0) Z (sr))
  refine lG (λ (q22:Int)=>⟨[(1,.p (eL ah s2_1)),(2,.func (.func F_eq_2) C_eq_2),(15,.p (eL ah s1_0)),(16,.p (eI (s1_0.length:Int))),(17,.p (eI q22))],[]⟩) (λ m (q22:Int)=>av s1_0 s2_1 eq_2 m q22) Y 0 h1 (gE rfl rfl) ?_;rintro m DX h1;replace h1:av s1_0 s2_1 eq_2 (m+1) DX=some o20:=h1;rw [av] at h1;refine nx 5 rfl (fD [18] h1 rfl (λ Eg h1=>?_) λ Eg h1=>?_)
  ·refine nx 7 Z (oE h1 aa.B' Z Z Y λ EJ h1=>?_);refine nx 9 Z (oE h1 aa.B' Z Z Y λ EI h1=>?_);refine nx 9 Z (bd h1 λ Ez HA h1=>?_);refine mG (gFn 2 C_eq_2 Z (by simp only [tq K_eq_2])) (mG (gFn 26 C_eq_2 Z (by simp only [tq K_eq_2])) ?_);refine mO Z (yC (q:=[.p (.agg (aa.cs (lat s1_0 DX))),.p (.agg (aa.cs (lat s2_1 DX)))]) (H_eq_2 (lat s1_0 DX) (lat s2_1 DX) _ HA) Z Z Z Z K_eq_2 Z Z ⟨sr,sr,trivial⟩ E_eq_2 Z ?_);refine nx 2 Z (fB [30] h1 Z (λ FO h1=>?_) λ FO h1=>?_)
   ·exact nx 6 Z (mQ (hR0 _ (oi h1).symm) Z (sr))
   refine nx 3 Z (oA h1 Z Z λ Ed h1=>?_);exact nx 2 Z (eX (DX+1) h1 (gE Z Z))
  exact nx 2 Z (eXi _ (oi h1).symm (gE Z Z))
 exact nx 6 Z (mQ (oi h0) Z (sr))
def dh:Nat->aa->aa->Option Bool|0,_,_=>none|n+1,a_0,CF=>(if a_0.AT=CF.AT then if a_0.A'=CF.A' then if a_0.By=CF.By then(bo n a_0.AI CF.AI).bind λ r4=>if r4=true then(aL n a_0.Ar CF.Ar (λ x0 x1=>(dh n) x0 x1)).bind λ r8=>some r8 else some false else some false else some false else some false : Option Bool).bind λ DX=>some DX
theorem gH (n:Nat):∀ (a_0:aa) (CF:aa) (r:Bool),dh n a_0 CF=some r->au Tryz.prog 29 [.agg (aa.cs a_0),.agg (aa.cs CF)] (·=.p (eB r)):=by
 induction n with
 | zero=>intro a_0 CF r h0; cases h0
 | succ n ih=>
 have DC:=ih;intro a_0 CF r h0;rw [dh] at h0;refine aZ good Tryz.func29 Z Z Z λ w0=>mP (λ v:Bool=>.p (eB v)) ?_;refine nx 7 Z (bd h0 λ o12 h1 h0=>?_);refine kN o12 (λ v13=>⟨[(4,.p (eB v13))],[]⟩) ?_ ?_
 ·exact nx 2 Z (mQ (oi h0) Z (sr))
 refine nx 7 Z (fD [9,10] h1 Z (λ c1 h1=>?_) λ c1 h1=>?_)
 ·refine nx 7 Z (fD [15,16,17] h1 Z (λ c2 h1=>?_) λ c2 h1=>?_)
  ·refine nx 4 Z (oS Z Z ?_);refine nx 2 Z (fD [22,23,24] h1 Z (λ c3 h1=>?_) λ c3 h1=>?_)
   ·refine nx 4 Z (bd h1 λ r4 e5 h1=>?_);refine oK (db _ a_0.AI CF.AI _ e5) Z ⟨sr,sr,trivial⟩ Tryz.call60 Z (nx 2 Z ?_);refine fB [29,30,31] h1 Z (λ c6 h1=>?_) λ c6 h1=>?_
    ·refine nx 4 Z (bd h1 λ r8 e9 h1=>?_);refine mO Z (y5 (cT _ a_0.Ar CF.Ar (λ x0 x1=>(dh n) x0 x1) 29 [] Z Tryz.call29 (λ x0 x1 r h=>(DC x0 x1 r h).q) _ e9) Z Z Z Z (kK Z (kK Z (kK (wS Z) uR))) ⟨sr,sr,sr,trivial⟩ Tryz.call61 Z ?_);exact nx 3 Z (eX _ (oi h1).symm (gE Z Z))
    exact nx 8 Z (eX _ (oi h1).symm (gE Z Z))
   exact nx 15 Z (eX _ (oi h1).symm (gE Z Z))
  exact nx 22 Z (eX _ (oi h1).symm (gE Z Z))
 exact nx 29 Z (eX _ (oi h1).symm (gE Z Z))
end Go.Ab.R06
end
