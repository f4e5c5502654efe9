/- Texts of the proof, one behind the other. No statement is proved here. -/
import Derived.WalkKit
import Derived.Lib.Builder
import Derived.Lib.UnsafeStr
import Derived.Laws.Externs
import Derived.Shelf.RegionOpenPlain
import Derived.Below
import Derived.Lib.LaidTab
import Derived.Shelf.Lays
import Derived.Shelf.Small.Utf8
import Derived.Shelf.Small.Strs
import Derived.Shelf.Small.Wraps
import Derived.Shelf.Strings.Prefix
import Derived.Shelf.LaysM
import Derived.Shelf.Strconv.Itoa3
import Derived.Shelf.LaysC
import Derived.Shelf.Strconv.ParseIntPublic10
import Derived.Shelf.Unicode.DecodeAny
import Derived.Shelf.Strings.IndexAnyAll
import Derived.Shelf.Strings.Runes
import Derived.Shelf.Unicode.ValidAny
import Derived.Shelf.Strings.IndexAny
import Derived.Test.YtdhapbkkniegoaaGreatDoorProg
import Derived.Lib.AppendIntMem
import Derived.Deep.LoopGhost
import Derived.Laws.Runes
import Derived.Scope
import Derived.Deep.QuietTactic
import Derived.BigQuiet
import Derived.Laws.RangeString
import Derived.Lib.IndexAny
import Derived.Lib.TrimU
import Derived.MapKept
import Derived.Lib.AppendZeros
import Derived.Test.YtdhapbkkniegoaaGreatDoorZ43a
import Derived.Test.YtdhapbkkniegoaaGreatDoorZ43b
section
set_option linter.unusedSimpArgs false
set_option linter.unnecessarySimpa false
set_option linter.unusedVariables false
namespace Go.Ab
open Go.Proofs Go.RowKit Go
structure aE where
 fbuf:Bytes
def cm (b:aE):Option aE:=some b
def dl (b:aE):Option (Bytes×aE):=ck (b.fbuf.length≤9223372036854775807) <| some (b.fbuf,b)
theorem DK:∃ j,Tryz.prog.info? 90=some j∧j.size=2:=by
 have h:(Tryz.prog.info? 90).map (·.size)=some 2:=by kernel_rfl
 obtain ⟨j,hj,hs⟩:=Option.map_eq_some_iff.1 h
 exact ⟨j,hj,hs⟩
set_option maxHeartbeats 1000000 in
set_option maxRecDepth 100000 in
theorem sW (b:Nat)(w:World)(h0:w.cell? ⟨b,0,none⟩=some (.pointer (some ⟨b,0,none⟩))) :
  Calls Tryz.prog 71 #[.pointer (some ⟨b,0,none⟩)] w λ e w'=>e=.returned (.tuple #[])∧w'=w:=by
 obtain ⟨j,hj,_⟩:=DK
 go_enter Tryz.func71,Tryz.ntmps71
 go_wp2
 rw [Lib.run_neq_ptr_same w _ Tryz.underlying87 hj]
 go_wp2
 go_end0
 exact ⟨rfl,rfl⟩
set_option maxHeartbeats 1000000 in
set_option maxRecDepth 100000 in
theorem rO (b:Nat)(w:World)(h0:w.cell? ⟨b,0,none⟩=some (.pointer none))(hsh:w.shape? b=some (90,2))(hfz:w.frozen? ⟨b,0,none⟩=false) :
  Calls Tryz.prog 71 #[.pointer (some ⟨b,0,none⟩)] w λ e w'=>e=.returned (.tuple #[])∧w'=w.setCell ⟨b,0,none⟩ (.pointer (some ⟨b,0,none⟩)):=by
 obtain ⟨j,hj,hjs⟩:=DK
 go_enter Tryz.func71,Tryz.ntmps71
 go_wp2
 rw [Lib.run_to_unsafe w ⟨b,0,none⟩ Tryz.underlying87 Tryz.underlying137 hj (by rw [hjs]; decide) hsh (Nat.zero_lt_succ 1)]
 simp only [Result.andThen]
 rw [Oper.upon_value]
 go_wp2
 rw [run_callFunc_extern Tryz.func99 (by kernel_rfl) (by kernel_rfl) (by kernel_rfl) (e:=Extern.AbiNoEscape.same) (by kernel_rfl)]
 rw [Lib.run_noEscape]
 simp only [Result.andThen]
 rw [Oper.upon_value]
 go_wp2
 rw [Lib.run_from_unsafe w ⟨b,0,none⟩ Tryz.underlying137 Tryz.underlying87 hj hsh (by kernel_rfl)]
 simp only [Result.andThen]
 rw [Oper.upon_value]
 go_wp2
 go_end0
 exact ⟨rfl,rfl⟩
structure yG (b:Nat)(w w':World):Prop where
 os:w'.os=w.os
 out:w'.output=w.output
 tape:w'.tape=w.tape
 size:w'.heap.size=w.heap.size
 other:∀ k,k≠b→w'.heap[k]? = w.heap[k]?
def back (i:Nat):Option Nat:=if i=900000 then some 2000000 else if i=1000000 then some 1000000 else none
def ghB (g:Gh):Gh:=⟨g.st,λ i=>if i=2000000 then g.ow 900000 else if M1≤i∧i < 2*M1 then g.ow i else none⟩
theorem vt {g:Gh}{i b:Nat}(h:(ghB g).ow i=some b):(i=2000000∧g.ow 900000=some b)∨(M1≤i∧i < 2*M1∧g.ow i=some b):=by
 simp only [ghB] at h
 split at h
 ·exact .inl ⟨‹_›,h⟩
 ·split at h
  ·rename_i h1; exact .inr ⟨h1.1,h1.2,h⟩
  ·cases h
theorem wE {g:Gh}:∀ i j b,back i=some j→g.ow i=some b→(ghB g).ow j=some b:=by
 intro i j b h hb
 unfold back at h
 split at h
 ·cases h; subst_vars; simp only [ghB,if_true]; exact hb
 ·split at h
  ·cases h; subst_vars
   simp only [ghB]
   rw [if_neg (by decide),if_pos (by decide)]; exact hb
  ·cases h
theorem yy {w w':World}{g:Gh}{b:Nat}(hok:Ok0 w g.st)(hown:∀ i b,g.ow i=some b→b < w.heap.size∧i < 2*M1)
  (hinj:∀ i j b,g.ow i=some b→g.ow j=some b→i=j) (hnst:∀ i b,M1≤i→g.ow i=some b→∀ o,¬ g.st b o)
  (hb:g.ow 1000000=some b) (h:yG b w w')
  (hsh:∀ (c:Array Value) (e:TypeId),w.heap[b]? = some (.cells c e (0,0))→∃ c':Array Value,w'.heap[b]? = some (.cells c' e (0,0))∧c'.size=c.size):tf w g w' (ghB g):=by
 have hbs:∀ o,¬ g.st b o:=hnst _ b (Nat.le_refl _) hb
 have hev:Ev w g.st w' g.st:=λ k o hk=>⟨hk,by
  have:k≠b:=λ e=>hbs o (e ▸ hk)
  simp only [World.cell?,h.other k this]⟩
 refine ⟨h.os,h.out,h.tape,by rw [h.size]; exact Nat.le_refl _,λ k hk hno=>h.other k (λ e=>hno 1000000 (e ▸ hb)),λ i k hi=>?_,λ i j k hi hj=>?_,λ k o hk=>by rw [h.size]; exact hok.lt k o hk,λ k hk _ o=>Iff.rfl,λ i h1 h2=>?_,λ i k c e h1 h2 h3=>?_,λ i k hi hk o=>hnst i k hi hk o,hev⟩
 ·rcases vt hi with ⟨_,h1⟩ | ⟨_,_,h1⟩
  ·exact ⟨by rw [h.size]; exact (hown _ _ h1).1,.inr ⟨_,h1⟩⟩
  ·exact ⟨by rw [h.size]; exact (hown _ _ h1).1,.inr ⟨_,h1⟩⟩
 ·rcases vt hi with ⟨e1,h1⟩ | ⟨a1,a2,h1⟩ <;> rcases vt hj with ⟨e2,h2⟩ | ⟨b1,b2,h2⟩
  ·omega
  ·have:=hinj _ _ _ h1 h2; unfold M1 at *; omega
  ·have:=hinj _ _ _ h1 h2; unfold M1 at *; omega
  ·exact hinj _ _ _ h1 h2
 ·simp only [ghB]
  rw [if_neg (by unfold M1 at *; omega),if_pos ⟨h1,h2⟩]
 ·by_cases e1:k=b
  ·subst e1; exact hsh c e h3
  ·exact ⟨c,(h.other k e1).trans h3,rfl⟩
theorem E6 {w w':World}{g:Gh}{b:Nat}(hbs:∀ o,¬ g.st b o)(h:yG b w w')(hc:∃ c e,w.heap[b]? = some (.cells c e (0,0)))
  (hsh:∀ (c:Array Value) (e:TypeId),w.heap[b]? = some (.cells c e (0,0))→∃ c':Array Value,w'.heap[b]? = some (.cells c' e (0,0))∧c'.size=c.size):EvO (λ _=>false) w g w' g:=by
 refine ⟨λ k o hk=>⟨hk,?_⟩,λ _ _ _ h=>h,λ id k c e _ _ hk=>?_,λ _ _ _ _ _ h=>h,λ id k es k' _ _ hk=>(h.other k (λ e=>by subst e; obtain ⟨c,t,hc⟩:=hc; rw [hc] at hk; cases hk)).trans hk,λ _ _=>rfl,λ id k o _ _ ho=>h.other k (λ e=>hbs o (e ▸ ho))⟩
 ·have:k≠b:=λ e=>hbs o (e ▸ hk)
  simp only [World.cell?,h.other k this]
 ·by_cases e1:k=b
  ·subst e1; exact hsh c e hk
  ·exact ⟨c,(h.other k e1).trans hk,rfl⟩
theorem Am {w:World}{g:Gh}{es:List PV}{vs:Array Value}{T ty:Nat}(hsz:vs.size=1)
  (hargs:∀ (i:Nat) c v,[AV.ptr 1000000 0][i]? = some c→vs[i]? = some v→ARep w g c v)
  (hobs:∀ id cs,look [(1000000,[AV.bptr T 2 1000000,AV.vec 900000 1 ty es])] id=some cs→lu w g id cs) :
  ∃ b p q,g.ow 1000000=some b∧vs=#[.pointer (some ⟨b,0,none⟩)]∧w.heap[b]? = some (.cells #[p,q] T (0,0))∧(∀ o,¬ g.st b o) ∧
   (p=.pointer none∨p=.pointer (some ⟨b,0,none⟩))∧ARep w g (.vec 900000 1 ty es) q:=by
 obtain ⟨b,c,e,h1,h2,h3,h4,h5⟩:=hobs 1000000 _ rfl
 obtain ⟨p,hp,hpr⟩:=h5 0 _ rfl
 obtain ⟨q,hq,hqr⟩:=h5 1 _ rfl
 have hv0:vs[0]? = some vs[0]:=Array.getElem?_eq_getElem (by omega)
 have ha:=hargs 0 _ _ rfl hv0
 have hvs:vs=#[vs[0]]:=by
  apply Array.ext
  ·simp [hsz]
  ·intro i h1 h2
   have:i=0:=by omega
   subst this; rfl
 have hc:∀ c1:Array Value,c1=c→c1.size=2→c=#[p,q]:=by
  rintro c1 rfl h
  apply Array.ext
  ·simp [h]
  ·intro i k1 k2
   match i,k2 with
   | 0,_=>rw [Array.getElem?_eq_getElem k1] at hp; simpa using hp
   | 1,_=>rw [Array.getElem?_eq_getElem k1] at hq; simpa using hq
 have hav:vs[0]=.pointer (some ⟨b,0,none⟩):=by
  generalize vs[0]=v at ha
  cases ha with
  | ptr how=>rw [h1] at how; cases how; rfl
 refine ⟨b,p,q,h1,by rw [hvs,hav],?_,h4,?_,hqr⟩
 ·cases hpr with
  | bptrn how hb hcs=>rw [h1] at how; cases how; rw [h2] at hb; cases hb; rw [h2,hc _ rfl hcs]
  | bptr how hb hcs=>rw [h1] at how; cases how; rw [h2] at hb; cases hb; rw [h2,hc _ rfl hcs]
 ·cases hpr with
  | bptrn how hb hcs=>exact .inl rfl
  | bptr how hb hcs=>rw [h1] at how; cases how; exact .inr rfl
theorem ob_B {w':World}{g:Gh}{es:List PV}{T ty b:Nat}{p q:Value}(hb:g.ow 1000000=some b)(h4:∀ o,¬ g.st b o)(h:w'.heap[b]? = some (.cells #[p,q] T (0,0)))
  (hp:p=.pointer none∨p=.pointer (some ⟨b,0,none⟩)) (hq:ARep w' g (.vec 900000 1 ty es) q):lu w' (ghB g) 1000000 [.bptr T 2 1000000,.vec 2000000 1 ty es]:=by
 have how:(ghB g).ow 1000000=some b:=wE 1000000 1000000 b rfl hb
 refine ⟨b,#[p,q],T,how,h,by simp,h4,λ i x hx=>?_⟩
 match i,hx with
 | 0,hx =>
  simp only [List.getElem?_cons_zero,Option.some.injEq] at hx; subst hx
  refine ⟨p,rfl,?_⟩
  rcases hp with rfl | rfl
  ·exact .bptrn how h rfl
  ·exact .bptr how h rfl
 | 1,hx =>
  simp only [List.getElem?_cons_succ,List.getElem?_cons_zero,Option.some.injEq] at hx; subst hx
  exact ⟨q,rfl,jS (m:=back) (g:=g) (g':=ghB g) rfl wE hq rfl⟩
 | n+2,hx=>simp at hx
theorem eO (b_0:aE)(r:aE)(h0:cm b_0=some r):cD Tryz.prog 71 [.ptr 1000000 0] [(1000000,[.bptr 90 2 1000000,.vec 900000 1 (5+1) (b_0.fbuf.map eU)])]
  (λ x y=>x=.tuple []∧y=[(1000000,[.bptr 90 2 1000000,.vec 2000000 1 (5+1) (r.fbuf.map eU)])]):=by
 cases h0
 intro w g vs hok hown hinj hnst hsz hargs hobs
 obtain ⟨b,p,q,hb,rfl,hheap,hbs,hp,hq⟩:=Am hsz hargs hobs
 have hc0:w.cell? ⟨b,0,none⟩=some p:=by simp [World.cell?,hheap]
 rcases hp with rfl | rfl
 ·refine (rO b w hc0 (by simp [World.shape?,hheap]) (by simp [World.frozen?,hheap])).mono ?_
  rintro e w' ⟨rfl,rfl⟩
  have hO:yG b w (w.setCell ⟨b,0,none⟩ (.pointer (some ⟨b,0,none⟩))):=⟨rfl,rfl,rfl,by simp [World.setCell],λ k hk=>Below.heap_setCell _ _ _ _ hk⟩
  have hheap':(w.setCell ⟨b,0,none⟩ (.pointer (some ⟨b,0,none⟩))).heap[b]? = some (.cells #[.pointer (some ⟨b,0,none⟩),q] 90 (0,0)):=by
   simp [World.setCell,Array.getElem?_modify,hheap]
  have hsh:∀ (c:Array Value) (e:TypeId),w.heap[b]? = some (.cells c e (0,0))→∃ c':Array Value,(w.setCell ⟨b,0,none⟩ (.pointer (some ⟨b,0,none⟩))).heap[b]? = some (.cells c' e (0,0))∧c'.size=c.size:=λ c e h=>by
   rw [hheap] at h; cases h; exact ⟨_,hheap',rfl⟩
  refine ⟨_,_,_,ghB g,rfl,⟨rfl,rfl⟩,.tuple rfl (by simp),λ x hx=>?_,yy hok hown hinj hnst hb hO hsh⟩
  simp only [List.mem_singleton] at hx; subst hx
  exact ob_B hb hbs hheap' (.inr rfl) (hq.mono (E6 hbs hO ⟨_,_,hheap⟩ hsh))
 ·refine (sW b w hc0).mono ?_
  rintro e w' ⟨rfl,rfl⟩
  have hO:yG b w' w':=⟨rfl,rfl,rfl,rfl,λ k hk=>rfl⟩
  refine ⟨_,_,_,ghB g,rfl,⟨rfl,rfl⟩,.tuple rfl (by simp),λ x hx=>?_,yy hok hown hinj hnst hb hO (λ c e h=>⟨c,h,rfl⟩)⟩
  simp only [List.mem_singleton] at hx; subst hx
  exact ob_B hb hbs hheap (.inr rfl) hq
theorem u5:Tryz.prog.follows .mixedOrders=true:=by kernel_rfl
theorem pD (w:World):Below w.heap.size w w.drew:=Below.drew (Below.refl _ w)
set_option maxHeartbeats 2000000 in
set_option maxRecDepth 100000 in
theorem xa (b:Nat)(p:Value)(w:World)(hbk:w.heap[b]? = some (.cells #[p,.slice none 0 0] 90 (0,0))) :
  Calls Tryz.prog 56 #[.pointer (some ⟨b,0,none⟩)] w λ e w'=>e=.returned (.string ⟨#[]⟩)∧Below w.heap.size w w':=by
 have mixed:=u5
 have hUS:∀ (W:World) (q:Option Addr),(Builtin.unsafeString_ #[113,3] 9 #[.pointer q,.int .i64 0]).run Tryz.prog W=.ok (.string .empty) W:=λ W q=>Lib.run_unsafeString_none W _ _ _ q
 have c1:w.drew.cell? ⟨b,1,none⟩=some (.slice none 0 0):=by
  have:w.drew.heap[b]? = some (.cells #[p,.slice none 0 0] 90 (0,0)):=hbk
  rw [Lib.cell_of_heap this]; rfl
 have hSD:(Builtin.unsafeSliceData_ #[88] 113 #[.slice none 0 0]).run Tryz.prog w.drew=.ok (.pointer none) w.drew:=rfl
 go_enter Tryz.func56,Tryz.ntmps56
 go_wp2
 go_region_o
 all_goals (go_wp2; go_ret; exact ⟨rfl,pD w⟩)
set_option maxHeartbeats 2000000 in
set_option maxRecDepth 100000 in
theorem vY (b g cap:Nat)(p:Value)(w:World)(hc0:cap≠0)(hbk:w.heap[b]? = some (.cells #[p,.slice (some ⟨g,0,none⟩) 0 cap] 90 (0,0))) :
  Calls Tryz.prog 56 #[.pointer (some ⟨b,0,none⟩)] w λ e w'=>e=.returned (.string ⟨#[]⟩)∧Below w.heap.size w w':=by
 have mixed:=u5
 have hUS:∀ (W:World) (q:Option Addr),(Builtin.unsafeString_ #[113,3] 9 #[.pointer q,.int .i64 0]).run Tryz.prog W=.ok (.string .empty) W:=λ W q=>Lib.run_unsafeString_none W _ _ _ q
 have c1:w.drew.cell? ⟨b,1,none⟩=some (.slice (some ⟨g,0,none⟩) 0 cap):=by
  have:w.drew.heap[b]? = some (.cells #[p,.slice (some ⟨g,0,none⟩) 0 cap] 90 (0,0)):=hbk
  rw [Lib.cell_of_heap this]; rfl
 have hSD:(Builtin.unsafeSliceData_ #[88] 113 #[.slice (some ⟨g,0,none⟩) 0 cap]).run Tryz.prog w.drew=.ok (.pointer (some ⟨g,0,none⟩)) w.drew:=Lib.run_unsafeSliceData_row _ _ _ _ _ _ hc0
 clear hc0
 go_enter Tryz.func56,Tryz.ntmps56
 go_wp2
 go_region_o
 all_goals (go_wp2; go_ret; exact ⟨rfl,pD w⟩)
set_option maxHeartbeats 2000000 in
set_option maxRecDepth 100000 in
theorem t1 (b g:Nat)(p:Value)(cur:Array Value)(w:World)(hbk:w.heap[b]? = some (.cells #[p,.slice (some ⟨g,0,none⟩) 0 0] 90 (0,0)))(hg:w.heap[g]? = some (.cells cur 5 (0,0))) :
  Calls Tryz.prog 56 #[.pointer (some ⟨b,0,none⟩)] w λ e w'=>e=.returned (.string ⟨#[]⟩)∧Below w.heap.size w w':=by
 have mixed:=u5
 have hUS:∀ (W:World) (q:Option Addr),(Builtin.unsafeString_ #[113,3] 9 #[.pointer q,.int .i64 0]).run Tryz.prog W=.ok (.string .empty) W:=λ W q=>Lib.run_unsafeString_none W _ _ _ q
 have hlt:b < w.heap.size:=by
  rcases Nat.lt_or_ge b w.heap.size with h' | h'
  ·exact h'
  ·simp [Array.getElem?_eq_none h'] at hbk
 have c1:w.drew.cell? ⟨b,1,none⟩=some (.slice (some ⟨g,0,none⟩) 0 0):=by
  have:w.drew.heap[b]? = some (.cells #[p,.slice (some ⟨g,0,none⟩) 0 0] 90 (0,0)):=hbk
  rw [Lib.cell_of_heap this]; rfl
 have hSD:(Builtin.unsafeSliceData_ #[88] 113 #[.slice (some ⟨g,0,none⟩) 0 0]).run Tryz.prog w.drew=.ok (.pointer (some ⟨w.drew.heap.size,0,none⟩)) (w.drew.alloc (.view ⟨g,0,none⟩ 5)) :=
  Lib.run_unsafeSliceData_zero w.drew _ _ 5 Tryz.underlying113 ⟨g,0,none⟩ 0 (5,cur.size) (by have hg':w.drew.heap[g]? = some (.cells cur 5 (0,0)):=hg; simp [World.shape?,hg'])
 have c2:(w.drew.alloc (.view ⟨g,0,none⟩ 5)).cell? ⟨b,1,none⟩=some (.slice (some ⟨g,0,none⟩) 0 0):=by
  have:(w.drew.alloc (.view ⟨g,0,none⟩ 5)).heap[b]? = _:=(Lib.alloc_old w.drew _ b hlt).trans hbk
  rw [Lib.cell_of_heap this]; rfl
 have c3:(w.alloc (.view ⟨g,0,none⟩ 5)).drew.cell? ⟨b,1,none⟩=some (.slice (some ⟨g,0,none⟩) 0 0):=c2
 have c0:w.cell? ⟨b,1,none⟩=some (.slice (some ⟨g,0,none⟩) 0 0):=c1
 go_enter Tryz.func56,Tryz.ntmps56
 go_wp2
 go_region_o
 all_goals (go_wp2; go_ret; exact ⟨rfl,(pD w).alloc (Nat.le_refl _) _⟩)
set_option maxHeartbeats 2000000 in
set_option maxRecDepth 100000 in
theorem xu (b g cap:Nat)(p:Value)(cur:Array Value)(l:List UInt8)(w:World)(h0:l≠[])(hbk:w.heap[b]? = some (.cells #[p,.slice (some ⟨g,0,none⟩) l.length cap] 90 (0,0)))(hg:w.heap[g]? = some (.cells cur 5 (0,0)))
  (hnc:l.length≤cap) (hcs:cur.size=cap) (hcm:l.length≤9223372036854775807) (hcell:∀ (j:Nat) x,l[j]? = some x→w.cell? ⟨g,j,none⟩=some (.int .u8 x.toNat)) :
  Calls Tryz.prog 56 #[.pointer (some ⟨b,0,none⟩)] w λ e w'=>e=.returned (.string ⟨l.toArray⟩)∧w'=(w.drew.freeze ⟨g,0,none⟩ l.length):=by
 have mixed:=u5
 have hl0:l.length≠0:=by simpa using h0
 have c1:w.drew.cell? ⟨b,1,none⟩=some (.slice (some ⟨g,0,none⟩) l.length cap):=by
  have:w.drew.heap[b]? = some (.cells #[p,.slice (some ⟨g,0,none⟩) l.length cap] 90 (0,0)):=hbk
  rw [Lib.cell_of_heap this]; rfl
 have hSD:(Builtin.unsafeSliceData_ #[88] 113 #[.slice (some ⟨g,0,none⟩) l.length cap]).run Tryz.prog w.drew=.ok (.pointer (some ⟨g,0,none⟩)) w.drew:=Lib.run_unsafeSliceData_row _ _ _ _ _ _ (by omega)
 have hUS:(Builtin.unsafeString_ #[113,3] 9 #[.pointer (some ⟨g,0,none⟩),.int .i64 l.length]).run Tryz.prog w.drew=.ok (.string ⟨l.toArray⟩) (w.drew.freeze ⟨g,0,none⟩ l.length):=by
  refine Lib.run_unsafeString_row w.drew 113 3 9 5 Tryz.underlying113 (by kernel_rfl) g cur.size (by have hg':w.drew.heap[g]? = some (.cells cur 5 (0,0)):=hg; simp [World.shape?,hg']) l h0 (by omega) hcm ?_
  intro j x hx
  have:=hcell j x hx
  rw [add_lit,Nat.zero_add,World.cell?_drew]; exact this
 clear hcell hcs hcm hnc h0 hl0
 go_enter Tryz.func56,Tryz.ntmps56
 go_wp2
 go_region_o
 all_goals (go_wp2; go_ret; exact ⟨rfl,rfl⟩)
theorem vj (w:World)(g n k:Nat)(h:k≠g):(w.freeze ⟨g,0,none⟩ n).heap[k]? = w.heap[k]?:=by
 unfold World.freeze
 split
 ·rfl
 ·simp only [Array.getElem?_modify]
  rw [if_neg (λ e=>h e.symm)]
theorem wi (w:World)(g n:Nat)(a:Addr):(w.freeze ⟨g,0,none⟩ n).cell? a=w.cell? a:=by
 unfold World.freeze
 split
 ·rfl
 ·simp only [World.cell?,Array.getElem?_modify]
  by_cases h:g=a.block
  ·simp only [h,if_true]
   cases w.heap[a.block]? with
   | none=>rfl
   | some o=>cases o <;> rfl
  ·simp only [h,if_false]
theorem vQ (w:World)(g n:Nat):(w.freeze ⟨g,0,none⟩ n).heap.size=w.heap.size:=by
 unfold World.freeze; split <;> simp
theorem vZ (w:World)(g n:Nat):(w.freeze ⟨g,0,none⟩ n).os=w.os∧(w.freeze ⟨g,0,none⟩ n).output=w.output∧(w.freeze ⟨g,0,none⟩ n).tape=w.tape:=by
 unfold World.freeze; split <;> exact ⟨rfl,rfl,rfl⟩
def ghS (g:Gh):Gh:=⟨g.st,λ i=>if M1≤i∧i < 2*M1 then g.ow i else none⟩
theorem vn {g:Gh}{i b:Nat}(h:(ghS g).ow i=some b):M1≤i∧i < 2*M1∧g.ow i=some b:=by
 simp only [ghS] at h
 split at h
 ·rename_i h1; exact ⟨h1.1,h1.2,h⟩
 ·cases h
theorem yh {w w':World}{g:Gh}{q:Nat}(hok:Ok0 w g.st)(hown:∀ i b,g.ow i=some b→b < w.heap.size∧i < 2*M1)
  (hinj:∀ i j b,g.ow i=some b→g.ow j=some b→i=j) (hnst:∀ i b,M1≤i→g.ow i=some b→∀ o,¬ g.st b o)
  (hq:g.ow 900000=some q∨w.heap.size≤q) (os:w'.os=w.os) (out:w'.output=w.output) (tape:w'.tape=w.tape) (size:w.heap.size≤w'.heap.size)
  (other:∀ k,k < w.heap.size→k≠q→w'.heap[k]? = w.heap[k]?) (cell:∀ b o,b < w.heap.size→w'.cell? ⟨b,o,none⟩=w.cell? ⟨b,o,none⟩):tf w g w' (ghS g):=by
 have hev:Ev w g.st w' g.st:=λ k o hk=>⟨hk,cell k o (hok.lt k o hk)⟩
 refine ⟨os,out,tape,size,λ k hk hno=>other k hk (λ e=>?_),λ i k hi=>?_,λ i j k hi hj=>?_,λ k o hk=>Nat.lt_of_lt_of_le (hok.lt k o hk) size,λ k hk _ o=>Iff.rfl,λ i h1 h2=>?_,λ i k c e h1 h2 h3=>?_,λ i k hi hk o=>hnst i k hi hk o,hev⟩
 ·rcases hq with hq | hq
  ·exact hno _ (e ▸ hq)
  ·omega
 ·obtain ⟨_,_,h1⟩:=vn hi
  exact ⟨Nat.lt_of_lt_of_le (hown _ _ h1).1 size,.inr ⟨_,h1⟩⟩
 ·exact hinj _ _ _ (vn hi).2.2 (vn hj).2.2
 ·simp only [ghS]; rw [if_pos ⟨h1,h2⟩]
 ·refine ⟨c,(other k (hown _ _ h2).1 (λ e=>?_)).trans h3,rfl⟩
  rcases hq with hq | hq
  ·have:=hinj _ _ _ h2 (e ▸ hq); unfold M1 at *; omega
  ·have:=(hown _ _ h2).1; omega
theorem ob_S {w':World}{g:Gh}{es:List PV}{T b:Nat}{p q:Value}(hb:g.ow 1000000=some b)(h4:∀ o,¬ g.st b o)(h:w'.heap[b]? = some (.cells #[p,q] T (0,0)))
  (hp:p=.pointer none∨p=.pointer (some ⟨b,0,none⟩)) (hq:PRep w' g.st (.slice es) q):lu w' (ghS g) 1000000 [.bptr T 2 1000000,.p (.slice es)]:=by
 have how:(ghS g).ow 1000000=some b:=by simp only [ghS]; rw [if_pos (by decide)]; exact hb
 refine ⟨b,#[p,q],T,how,h,by simp,h4,λ i x hx=>?_⟩
 match i,hx with
 | 0,hx =>
  simp only [List.getElem?_cons_zero,Option.some.injEq] at hx; subst hx
  refine ⟨p,rfl,?_⟩
  rcases hp with rfl | rfl
  ·exact .bptrn how h rfl
  ·exact .bptr how h rfl
 | 1,hx =>
  simp only [List.getElem?_cons_succ,List.getElem?_cons_zero,Option.some.injEq] at hx; subst hx
  exact ⟨q,rfl,.p hq⟩
 | n+2,hx=>simp at hx
theorem fx (b_0:aE)(r:Bytes×aE)(h0:dl b_0=some r):cD Tryz.prog 56 [.ptr 1000000 0] [(1000000,[.bptr 90 2 1000000,.vec 900000 1 (5+1) (b_0.fbuf.map eU)])]
  (λ x y=>x=.p (eS r.1)∧y=[(1000000,[.bptr 90 2 1000000,.p (eL eU r.2.fbuf)])]):=by
 obtain ⟨hmax,h0⟩:=ke h0
 cases h0
 intro w g vs hok hown hinj hnst hsz hargs hobs
 obtain ⟨b,p,q,hb,rfl,hheap,hbs,hp,hq⟩:=Am hsz hargs hobs
 have hbl:b < w.heap.size:=(hown _ _ hb).1
 obtain ⟨l,hl⟩:∃ l,l=b_0.fbuf:=⟨_,rfl⟩
 rw [← hl] at hq ⊢
 -- a builder that holds nothing
 have none_:∀ q0,l=[]→q=q0→(Calls Tryz.prog 56 #[.pointer (some ⟨b,0,none⟩)] w λ e w'=>e=.returned (.string ⟨#[]⟩)∧Below w.heap.size w w')→PRep w g.st (.slice []) q0 →
   Calls Tryz.prog 56 #[.pointer (some ⟨b,0,none⟩)] w λ e w'=>∃ v r obs' g',e=.returned v∧(r=.p (eS l)∧obs'=[(1000000,[.bptr 90 2 1000000,.p (eL eU l)])])∧ARep w' g' r v∧(∀ p∈obs',lu w' g' p.1 p.2)∧tf w g w' g':=by
  rintro q0 rfl rfl hc hr
  refine hc.mono ?_
  rintro e w' ⟨rfl,hB⟩
  have hcell:∀ b o,b < w.heap.size→w'.cell? ⟨b,o,none⟩=w.cell? ⟨b,o,none⟩:=λ b o h=>hB.cell (p:=⟨b,o,none⟩) h
  refine ⟨_,_,_,ghS g,rfl,⟨rfl,rfl⟩,.p (.val _),λ x hx=>?_,yh (q:=w.heap.size) hok hown hinj hnst (.inr (Nat.le_refl _)) hB.os hB.output hB.tape hB.size (λ k hk _=>hB.block k hk) hcell⟩
  simp only [List.mem_singleton] at hx; subst hx
  exact ob_S hb hbs ((hB.block b hbl).trans hheap) hp (hr.mono (w':=w') (st':=g.st) (λ k o hk=>⟨hk,hcell k o (hok.lt k o hk)⟩))
 generalize hes:l.map eU=es at hq
 cases hq with
 | vecn =>
  have e:l=[]:=by simpa using hes
  exact none_ _ e rfl (xa b p w hheap) .nils
 | vec how hb2 hcs hsz2 hst hr hty =>
  rename_i g2 off2 cap c e2
  have he2:e2=5∧off2=0:=by
   rcases hty with h | h
   ·cases h
   ·exact ⟨(Nat.succ.inj h.1).symm,h.2⟩
  obtain ⟨rfl,rfl⟩:=he2
  rw [Nat.zero_add] at hcs
  simp only [Nat.zero_add] at hst
  have hgl:g2 < w.heap.size:=(hown _ _ how).1
  subst hes
  simp only [List.length_map] at hheap
  by_cases hl0:l=[]
  ·subst hl0
   by_cases hc0:cap=0
   ·subst hc0
    exact none_ _ rfl rfl (t1 b g2 p c w hheap hb2) (by simpa using hr)
   ·exact none_ _ rfl rfl (vY b g2 cap p w hc0 hheap) (by simpa using hr)
  ·have hcap:l.length≤cap:=by
    obtain ⟨a',cap',he,hle⟩:=nB hr
    cases he
    simpa using hle
   have hcell:∀ (j:Nat) x,l[j]? = some x→w.cell? ⟨g2,j,none⟩=some (.int .u8 x.toNat):=by
    intro j x hx
    have hinv:=Cn hsz2 hb2 hr
    obtain ⟨_,u,hu,hru⟩:=hinv j (eU x) 0 (eU x) (by simp [hx]) rfl
    cases hru
    simp only [World.cell?,hb2]
    simpa using hu
   refine (xu b g2 cap p c l w hl0 (by simpa using hheap) hb2 hcap (by simpa using hcs) ?_ hcell).mono ?_
   ·rw [hl]; exact hmax
   rintro e w' ⟨rfl,rfl⟩
   have hother:∀ k,k≠g2→(w.drew.freeze ⟨g2,0,none⟩ l.length).heap[k]? = w.heap[k]?:=λ k hk=>vj w.drew g2 _ k hk
   have hcell2:∀ b o,(w.drew.freeze ⟨g2,0,none⟩ l.length).cell? ⟨b,o,none⟩=w.cell? ⟨b,o,none⟩:=λ b o=>wi w.drew g2 _ _
   obtain ⟨r1,r2,r3⟩:=vZ w.drew g2 l.length
   refine ⟨_,_,_,ghS g,rfl,⟨rfl,rfl⟩,.p (.val _),λ x hx=>?_,yh (q:=g2) hok hown hinj hnst (.inl how) r1 r2 r3 (by rw [vQ]; exact Nat.le_refl _) (λ k _ hk=>hother k hk) (λ b o _=>hcell2 b o)⟩
   simp only [List.mem_singleton] at hx; subst hx
   have hne:b≠g2:=λ e=>by subst e; have:=hinj _ _ _ hb how; omega
   exact ob_S hb hbs ((hother b hne).trans (by simpa using hheap)) hp (by simpa using hr.mono (w':=w.drew.freeze ⟨g2,0,none⟩ l.length) (st':=g.st) (λ k o hk=>⟨hk,hcell2 k o⟩))
end Go.Ab
end
section
set_option linter.unusedVariables false
set_option linter.unusedSimpArgs false
set_option linter.unnecessarySimpa false
namespace Go.Ab.RB
open Go.Proofs Go.Ab
attribute [local irreducible] awp gO aY aB cD AV.sub M dh
def dc (p_0:List UInt8)(r_1:Int):Option (List UInt8) :=
 if IntKind.wrap .u32 (r_1)≤2047 then
  ck ((0:Int)≤6) <|
  ck ((0:Int)≤iOr .u8 192 (IntKind.wrap .u8 (cK .i32 r_1 6))∧iOr .u8 192 (IntKind.wrap .u8 (cK .i32 r_1 6)) < 256) <|
  ck ((0:Int)≤iOr .u8 128 (bz .u8 (IntKind.wrap .u8 (r_1)) 63)∧iOr .u8 128 (bz .u8 (IntKind.wrap .u8 (r_1)) 63) < 256) <|
  ck ((p_0.length+[u8 (iOr .u8 192 (IntKind.wrap .u8 (cK .i32 r_1 6))),u8 (iOr .u8 128 (bz .u8 (IntKind.wrap .u8 (r_1)) 63))].length)*1≤140737488355328) <|
  some (p_0++[u8 (iOr .u8 192 (IntKind.wrap .u8 (cK .i32 r_1 6))),u8 (iOr .u8 128 (bz .u8 (IntKind.wrap .u8 (r_1)) 63))])
 else
  (
    if IntKind.wrap .u32 (r_1) < 55296 then
     some true
    else
     if 57343 < IntKind.wrap .u32 (r_1) then
      some (decide (IntKind.wrap .u32 (r_1)≤65535))
     else
      some false
   : Option Bool).bind λ t8 =>
  if t8=true then
   ck ((0:Int)≤12) <|
   ck ((0:Int)≤6) <|
   ck ((0:Int)≤iOr .u8 224 (IntKind.wrap .u8 (cK .i32 r_1 12))∧iOr .u8 224 (IntKind.wrap .u8 (cK .i32 r_1 12)) < 256) <|
   ck ((0:Int)≤iOr .u8 128 (bz .u8 (IntKind.wrap .u8 (cK .i32 r_1 6)) 63)∧iOr .u8 128 (bz .u8 (IntKind.wrap .u8 (cK .i32 r_1 6)) 63) < 256) <|
   ck ((0:Int)≤iOr .u8 128 (bz .u8 (IntKind.wrap .u8 (r_1)) 63)∧iOr .u8 128 (bz .u8 (IntKind.wrap .u8 (r_1)) 63) < 256) <|
   ck ((p_0.length+[u8 (iOr .u8 224 (IntKind.wrap .u8 (cK .i32 r_1 12))),u8 (iOr .u8 128 (bz .u8 (IntKind.wrap .u8 (cK .i32 r_1 6)) 63)),u8 (iOr .u8 128 (bz .u8 (IntKind.wrap .u8 (r_1)) 63))].length)*1≤140737488355328) <|
   some (p_0++[u8 (iOr .u8 224 (IntKind.wrap .u8 (cK .i32 r_1 12))),u8 (iOr .u8 128 (bz .u8 (IntKind.wrap .u8 (cK .i32 r_1 6)) 63)),u8 (iOr .u8 128 (bz .u8 (IntKind.wrap .u8 (r_1)) 63))])
  else
   (
     if 65535 < IntKind.wrap .u32 (r_1) then
      some (decide (IntKind.wrap .u32 (r_1)≤1114111))
     else
      some false
    : Option Bool).bind λ t17 =>
   if t17=true then
    ck ((0:Int)≤18) <|
    ck ((0:Int)≤12) <|
    ck ((0:Int)≤6) <|
    ck ((0:Int)≤iOr .u8 240 (IntKind.wrap .u8 (cK .i32 r_1 18))∧iOr .u8 240 (IntKind.wrap .u8 (cK .i32 r_1 18)) < 256) <|
    ck ((0:Int)≤iOr .u8 128 (bz .u8 (IntKind.wrap .u8 (cK .i32 r_1 12)) 63)∧iOr .u8 128 (bz .u8 (IntKind.wrap .u8 (cK .i32 r_1 12)) 63) < 256) <|
    ck ((0:Int)≤iOr .u8 128 (bz .u8 (IntKind.wrap .u8 (cK .i32 r_1 6)) 63)∧iOr .u8 128 (bz .u8 (IntKind.wrap .u8 (cK .i32 r_1 6)) 63) < 256) <|
    ck ((0:Int)≤iOr .u8 128 (bz .u8 (IntKind.wrap .u8 (r_1)) 63)∧iOr .u8 128 (bz .u8 (IntKind.wrap .u8 (r_1)) 63) < 256) <|
    ck ((p_0.length+[u8 (iOr .u8 240 (IntKind.wrap .u8 (cK .i32 r_1 18))),u8 (iOr .u8 128 (bz .u8 (IntKind.wrap .u8 (cK .i32 r_1 12)) 63)),u8 (iOr .u8 128 (bz .u8 (IntKind.wrap .u8 (cK .i32 r_1 6)) 63)),u8 (iOr .u8 128 (bz .u8 (IntKind.wrap .u8 (r_1)) 63))].length)*1≤140737488355328) <|
    some (p_0++[u8 (iOr .u8 240 (IntKind.wrap .u8 (cK .i32 r_1 18))),u8 (iOr .u8 128 (bz .u8 (IntKind.wrap .u8 (cK .i32 r_1 12)) 63)),u8 (iOr .u8 128 (bz .u8 (IntKind.wrap .u8 (cK .i32 r_1 6)) 63)),u8 (iOr .u8 128 (bz .u8 (IntKind.wrap .u8 (r_1)) 63))])
   else
    ck ((p_0.length+[(239:UInt8),(191:UInt8),(189:UInt8)].length)*1≤140737488355328) <|
    some (p_0++[(239:UInt8),(191:UInt8),(189:UInt8)])
set_option maxHeartbeats 4000000 in
theorem iJ (p_0:List UInt8)(r_1:Int)(r:(List UInt8))(h0:dc p_0 r_1=some r):cD Tryz.prog 123 [.vec 900000 1 (5+1) (p_0.map eU),.p (eK .i32 r_1)] [] (λ x y=>x=.vec 2000000 1 (5+1) (r.map eU)∧y=[]):=by
 unfold dc at h0
 refine jk good [800000] [] Tryz.func123 rfl rfl rfl rfl rfl λ w0 F=>mPo (λ v:(List UInt8)=>.vec 2000000 1 (5+1) (v.map eU)) (λ v=>[]) ?_
 refine nx 17 rfl (fD [11,13] h0 rfl (λ c1 h0=>?_) λ c1 h0=>?_)
 ·refine nx 5 rfl (cc' h0 λ hk2 h0=>?_)
  refine mO rfl (jz rfl rfl rfl rfl rfl rfl hk2 ?_)
  refine nx 6 rfl (cc' h0 λ hk4 h0=>?_)
  refine cc' h0 λ hk3 h0=>mO rfl (bS eU [u8 (iOr .u8 192 (IntKind.wrap .u8 (cK .i32 r_1 6))),u8 (iOr .u8 128 (bz .u8 (IntKind.wrap .u8 (r_1)) 63))] rfl rfl rfl rfl rfl rfl rfl rfl rfl rfl rfl rfl rfl (congr (congrArg List.cons (gS hk4)) (congr (congrArg List.cons (gS hk3)) rfl)) ?_)
  refine cc' h0 λ hk5 h0=>mO rfl (fp eU p_0 [u8 (iOr .u8 192 (IntKind.wrap .u8 (cK .i32 r_1 6))),u8 (iOr .u8 128 (bz .u8 (IntKind.wrap .u8 (r_1)) 63))] rfl rfl rfl rfl rfl rfl rfl rfl rfl rfl rfl rfl rfl (λ _=>rfl) rfl rfl rfl rfl hk5 ?_)
  exact nx 3 rfl (mQo (oi h0) (br (cn 24 800000 rfl rfl rfl rfl rfl) (ca _)) rfl rfl rfl rfl (sr) trivial)
 refine nx 2 rfl (bd h0 λ o30 h1 h0=>?_)
 refine kN o30 (λ v31=>⟨[(0,.vec 900000 1 (5+1) (p_0.map eU)),(1,.p (eK .i32 r_1)),(5,.p (eK .u32 (IntKind.wrap .u32 (r_1)))),(25,.p (eB v31))],[]⟩) ?_ ?_
 ·refine nx 1 rfl (fB [25] h0 rfl (λ c9 h0=>?_) λ c9 h0=>?_)
  ·refine nx 5 rfl (cc' h0 λ hk10 h0=>?_)
   refine mO rfl (jz rfl rfl rfl rfl rfl rfl hk10 ?_)
   refine nx 3 rfl (cc' h0 λ hk11 h0=>?_)
   refine mO rfl (jz rfl rfl rfl rfl rfl rfl hk11 ?_)
   refine nx 7 rfl (cc' h0 λ hk14 h0=>?_)
   refine cc' h0 λ hk13 h0=>cc' h0 λ hk12 h0=>mO rfl (bS eU [u8 (iOr .u8 224 (IntKind.wrap .u8 (cK .i32 r_1 12))),u8 (iOr .u8 128 (bz .u8 (IntKind.wrap .u8 (cK .i32 r_1 6)) 63)),u8 (iOr .u8 128 (bz .u8 (IntKind.wrap .u8 (r_1)) 63))] rfl rfl rfl rfl rfl rfl rfl rfl rfl rfl rfl rfl rfl (congr (congrArg List.cons (gS hk14)) (congr (congrArg List.cons (gS hk13)) (congr (congrArg List.cons (gS hk12)) rfl))) ?_)
   refine cc' h0 λ hk15 h0=>mO rfl (fp eU p_0 [u8 (iOr .u8 224 (IntKind.wrap .u8 (cK .i32 r_1 12))),u8 (iOr .u8 128 (bz .u8 (IntKind.wrap .u8 (cK .i32 r_1 6)) 63)),u8 (iOr .u8 128 (bz .u8 (IntKind.wrap .u8 (r_1)) 63))] rfl rfl rfl rfl rfl rfl rfl rfl rfl rfl rfl rfl rfl (λ _=>rfl) rfl rfl rfl rfl hk15 ?_)
   exact nx 3 rfl (mQo (oi h0) (br (cn 49 800000 rfl rfl rfl rfl rfl) (ca _)) rfl rfl rfl rfl (sr) trivial)
  refine nx 2 rfl (bd h0 λ o32 h1 h0=>?_)
  refine kN o32 (λ v33=>⟨[(0,.vec 900000 1 (5+1) (p_0.map eU)),(1,.p (eK .i32 r_1)),(50,.p (eB v33))],[]⟩) ?_ ?_
  ·refine nx 1 rfl (fB [50] h0 rfl (λ c18 h0=>?_) λ c18 h0=>?_)
   ·refine nx 5 rfl (cc' h0 λ hk19 h0=>?_)
    refine mO rfl (jz rfl rfl rfl rfl rfl rfl hk19 ?_)
    refine nx 3 rfl (cc' h0 λ hk20 h0=>?_)
    refine mO rfl (jz rfl rfl rfl rfl rfl rfl hk20 ?_)
    refine nx 4 rfl (cc' h0 λ hk21 h0=>?_)
    refine mO rfl (jz rfl rfl rfl rfl rfl rfl hk21 ?_)
    refine nx 7 rfl (cc' h0 λ hk25 h0=>?_)
    refine cc' h0 λ hk24 h0=>cc' h0 λ hk23 h0=>cc' h0 λ hk22 h0=>mO rfl (bS eU [u8 (iOr .u8 240 (IntKind.wrap .u8 (cK .i32 r_1 18))),u8 (iOr .u8 128 (bz .u8 (IntKind.wrap .u8 (cK .i32 r_1 12)) 63)),u8 (iOr .u8 128 (bz .u8 (IntKind.wrap .u8 (cK .i32 r_1 6)) 63)),u8 (iOr .u8 128 (bz .u8 (IntKind.wrap .u8 (r_1)) 63))] rfl rfl rfl rfl rfl rfl rfl rfl rfl rfl rfl rfl rfl (congr (congrArg List.cons (gS hk25)) (congr (congrArg List.cons (gS hk24)) (congr (congrArg List.cons (gS hk23)) (congr (congrArg List.cons (gS hk22)) rfl)))) ?_)
    refine cc' h0 λ hk26 h0=>mO rfl (fp eU p_0 [u8 (iOr .u8 240 (IntKind.wrap .u8 (cK .i32 r_1 18))),u8 (iOr .u8 128 (bz .u8 (IntKind.wrap .u8 (cK .i32 r_1 12)) 63)),u8 (iOr .u8 128 (bz .u8 (IntKind.wrap .u8 (cK .i32 r_1 6)) 63)),u8 (iOr .u8 128 (bz .u8 (IntKind.wrap .u8 (r_1)) 63))] rfl rfl rfl rfl rfl rfl rfl rfl rfl rfl rfl rfl rfl (λ _=>rfl) rfl rfl rfl rfl hk26 ?_)
    exact nx 3 rfl (mQo (oi h0) (br (cn 77 800000 rfl rfl rfl rfl rfl) (ca _)) rfl rfl rfl rfl (sr) trivial)
   refine nx 4 rfl (mO rfl (bS eU [(239:UInt8),(191:UInt8),(189:UInt8)] rfl rfl rfl rfl rfl rfl rfl rfl rfl rfl rfl rfl rfl rfl ?_))
   refine cc' h0 λ hk27 h0=>mO rfl (fp eU p_0 [(239:UInt8),(191:UInt8),(189:UInt8)] rfl rfl rfl rfl rfl rfl rfl rfl rfl rfl rfl rfl rfl (λ _=>rfl) rfl rfl rfl rfl hk27 ?_)
   exact nx 3 rfl (mQo (oi h0) (br (cn 10 800000 rfl rfl rfl rfl rfl) (ca _)) rfl rfl rfl rfl (sr) trivial)
  refine nx 4 rfl (fD [52,53] h1 rfl (λ c16 h1=>?_) λ c16 h1=>?_)
  ·exact nx 5 rfl (eX _ (oi h1).symm (gE rfl rfl))
  exact nx 5 rfl (eX _ (oi h1).symm (gE rfl rfl))
 refine nx 6 rfl (fD [25,27] h1 rfl (λ c6 h1=>?_) λ c6 h1=>?_)
 ·exact nx 2 rfl (eX _ (oi h1).symm (gE rfl rfl))
 refine nx 5 rfl (fD [29,30] h1 rfl (λ c7 h1=>?_) λ c7 h1=>?_)
 ·exact nx 5 rfl (eX _ (oi h1).symm (gE rfl rfl))
 exact nx 5 rfl (eX _ (oi h1).symm (gE rfl rfl))
def dP (p_0:List UInt8)(r_1:Int):Option (List UInt8) :=
 if IntKind.wrap .u32 (r_1)≤127 then
  ck ((0:Int)≤IntKind.wrap .u8 (r_1)∧IntKind.wrap .u8 (r_1) < 256) <|
  ck ((p_0.length+[u8 (IntKind.wrap .u8 (r_1))].length)*1≤140737488355328) <|
  some (p_0++[u8 (IntKind.wrap .u8 (r_1))])
 else
  (dc p_0 r_1).bind λ r4 =>
  some r4
set_option maxHeartbeats 4000000 in
theorem lb (p_0:List UInt8)(r_1:Int)(r:(List UInt8))(h0:dP p_0 r_1=some r):cD Tryz.prog 111 [.vec 900000 1 (5+1) (p_0.map eU),.p (eK .i32 r_1)] [] (λ x y=>x=.vec 2000000 1 (5+1) (r.map eU)∧y=[]):=by
 unfold dP at h0
 refine jk good [800000] [] Tryz.func111 rfl rfl rfl rfl rfl λ w0 F=>mPo (λ v:(List UInt8)=>.vec 2000000 1 (5+1) (v.map eU)) (λ v=>[]) ?_
 refine nx 11 rfl (fD [7] h0 rfl (λ c1 h0=>?_) λ c1 h0=>?_)
 ·refine nx 6 rfl (cc' h0 λ hk2 h0=>?_)
  refine mO rfl (bS eU [u8 (IntKind.wrap .u8 (r_1))] rfl rfl rfl rfl rfl rfl rfl rfl rfl rfl rfl rfl rfl (congr (congrArg List.cons (gS hk2)) rfl) ?_)
  refine cc' h0 λ hk3 h0=>mO rfl (fp eU p_0 [u8 (IntKind.wrap .u8 (r_1))] rfl rfl rfl rfl rfl rfl rfl rfl rfl rfl rfl rfl rfl (λ _=>rfl) rfl rfl rfl rfl hk3 ?_)
  exact nx 3 rfl (mQo (oi h0) (br (cn 12 800000 rfl rfl rfl rfl rfl) (ca _)) rfl rfl rfl rfl (sr) trivial)
 refine nx 6 rfl (bd h0 λ r4 e5 h0=>?_)
 refine mO rfl (bF [] [900000] 101000 101001 (iJ p_0 r_1 _ e5) rfl rfl rfl rfl rfl ⟨sr,sr,trivial⟩ rfl rfl trivial rfl rfl rfl rfl rfl rfl rfl rfl Tryz.call123 rfl rfl ?_)
 exact nx 3 rfl (mQo (oi h0) (br (cn 101000 800000 rfl rfl rfl rfl rfl) (ca _)) rfl rfl rfl rfl (sr) trivial)
def aZ (b_0:aE)(s_1:Bytes):Option (Int×Bool×aE) :=
 (cm (aE.mk b_0.fbuf)).bind λ r1 =>
 ck ((r1.fbuf.length+s_1.length)*1≤140737488355328) <|
 some ((s_1.length:Int),false,(aE.mk (r1.fbuf++s_1)))
set_option maxHeartbeats 4000000 in
theorem bJ (b_0:aE)(s_1:Bytes)(r:Int×Bool×aE)(h0:aZ b_0 s_1=some r):cD Tryz.prog 54 [.ptr 1000000 0,.p (eS s_1)] [(1000000,[.bptr 90 2 1000000,.vec 900000 1 (5+1) (b_0.fbuf.map eU)])] (λ x y=>x=.tuple [.p (eI r.1),.p (eE r.2.1)]∧y=[(1000000,[.bptr 90 2 1000000,.vec 2000000 1 (5+1) (r.2.2.fbuf.map eU)])]):=by
 unfold aZ at h0
 refine jk good [800000] [1000000] Tryz.func54 rfl rfl rfl rfl rfl λ w0 F=>mPo (λ v:Int×Bool×aE=>.tuple [.p (eI v.1),.p (eE v.2.1)]) (λ v=>[(1000000,[.bptr 90 2 1000000,.vec 2000000 1 (5+1) (v.2.2.fbuf.map eU)])]) ?_
 refine nx 8 rfl (bd h0 λ r1 e2 h0=>?_)
 refine mO rfl (bF [1000000] [900000] 101000 101001 (eO (aE.mk b_0.fbuf) _ e2) rfl rfl rfl rfl rfl ⟨sr,trivial⟩ rfl rfl ⟨⟨_,rfl,⟨sr,sr,trivial⟩⟩,trivial⟩ rfl rfl rfl rfl rfl rfl rfl rfl Tryz.call71 rfl rfl ?_)
 refine nx 9 rfl (cc' h0 λ hk3 h0=>?_)
 refine mO rfl (Bv r1.fbuf s_1 rfl rfl rfl rfl rfl rfl rfl rfl rfl rfl rfl rfl rfl rfl rfl hk3 ?_)
 refine nx 7 rfl (oLs rfl ?_)
 exact nx 4 rfl (mQo (oi h0) (br (cn 14 800000 rfl rfl rfl rfl rfl) (ca _)) rfl rfl rfl rfl (az ⟨sr,sr,trivial⟩) ⟨⟨_,rfl,⟨sr,sr,trivial⟩⟩,trivial⟩)
def bD (b_0:aE)(c_1:Int):Option (Bool×aE) :=
 (cm (aE.mk b_0.fbuf)).bind λ r1 =>
 ck ((0:Int)≤c_1∧c_1 < 256) <|
 ck ((r1.fbuf.length+[u8 c_1].length)*1≤140737488355328) <|
 some (false,(aE.mk (r1.fbuf++[u8 c_1])))
set_option maxHeartbeats 4000000 in
theorem cM (b_0:aE)(c_1:Int)(r:Bool×aE)(h0:bD b_0 c_1=some r):cD Tryz.prog 92 [.ptr 1000000 0,.p (eK .u8 c_1)] [(1000000,[.bptr 90 2 1000000,.vec 900000 1 (5+1) (b_0.fbuf.map eU)])] (λ x y=>x=.p (eE r.1)∧y=[(1000000,[.bptr 90 2 1000000,.vec 2000000 1 (5+1) (r.2.fbuf.map eU)])]):=by
 unfold bD at h0
 refine jk good [800000] [1000000] Tryz.func92 rfl rfl rfl rfl rfl λ w0 F=>mPo (λ v:Bool×aE=>.p (eE v.1)) (λ v=>[(1000000,[.bptr 90 2 1000000,.vec 2000000 1 (5+1) (v.2.fbuf.map eU)])]) ?_
 refine nx 7 rfl (bd h0 λ r1 e2 h0=>?_)
 refine mO rfl (bF [1000000] [900000] 101000 101001 (eO (aE.mk b_0.fbuf) _ e2) rfl rfl rfl rfl rfl ⟨sr,trivial⟩ rfl rfl ⟨⟨_,rfl,⟨sr,sr,trivial⟩⟩,trivial⟩ rfl rfl rfl rfl rfl rfl rfl rfl Tryz.call71 rfl rfl ?_)
 refine nx 9 rfl (cc' h0 λ hk3 h0=>?_)
 refine mO rfl (bS eU [u8 c_1] rfl rfl rfl rfl rfl rfl rfl rfl rfl rfl rfl rfl rfl (congr (congrArg List.cons (gS hk3)) rfl) ?_)
 refine cc' h0 λ hk4 h0=>mO rfl (fp eU r1.fbuf [u8 c_1] rfl rfl rfl rfl rfl rfl rfl rfl rfl rfl rfl rfl rfl (λ _=>rfl) rfl rfl rfl rfl hk4 ?_)
 exact nx 9 rfl (mQo (oi h0) (br (cn 14 800000 rfl rfl rfl rfl rfl) (ca _)) rfl rfl rfl rfl (sr) ⟨⟨_,rfl,⟨sr,sr,trivial⟩⟩,trivial⟩)
def du (b_0:aE)(r_1:Int):Option (Int×Bool×aE) :=
 (cm (aE.mk b_0.fbuf)).bind λ r1 =>
 (dP r1.fbuf r_1).bind λ r3 =>
 ck (inR ((r3.length:Int) - (r1.fbuf.length:Int))) <|
 some ((r3.length:Int) - (r1.fbuf.length:Int),false,(aE.mk r3))
set_option maxHeartbeats 4000000 in
theorem ki (b_0:aE)(r_1:Int)(r:Int×Bool×aE)(h0:du b_0 r_1=some r):cD Tryz.prog 90 [.ptr 1000000 0,.p (eK .i32 r_1)] [(1000000,[.bptr 90 2 1000000,.vec 900000 1 (5+1) (b_0.fbuf.map eU)])] (λ x y=>x=.tuple [.p (eI r.1),.p (eE r.2.1)]∧y=[(1000000,[.bptr 90 2 1000000,.vec 2000000 1 (5+1) (r.2.2.fbuf.map eU)])]):=by
 unfold du at h0
 refine jk good [800000] [1000000] Tryz.func90 rfl rfl rfl rfl rfl λ w0 F=>mPo (λ v:Int×Bool×aE=>.tuple [.p (eI v.1),.p (eE v.2.1)]) (λ v=>[(1000000,[.bptr 90 2 1000000,.vec 2000000 1 (5+1) (v.2.2.fbuf.map eU)])]) ?_
 refine nx 8 rfl (bd h0 λ r1 e2 h0=>?_)
 refine mO rfl (bF [1000000] [900000] 101000 101001 (eO (aE.mk b_0.fbuf) _ e2) rfl rfl rfl rfl rfl ⟨sr,trivial⟩ rfl rfl ⟨⟨_,rfl,⟨sr,sr,trivial⟩⟩,trivial⟩ rfl rfl rfl rfl rfl rfl rfl rfl Tryz.call71 rfl rfl ?_)
 refine nx 7 rfl (oLl (f:=eU) rfl rfl ?_)
 refine nx 10 rfl (bd h0 λ r3 e4 h0=>?_)
 refine mO rfl (bF [] [101000] 102000 102001 (lb r1.fbuf r_1 _ e4) rfl rfl rfl rfl rfl ⟨sr,sr,trivial⟩ rfl rfl trivial rfl rfl rfl rfl rfl rfl rfl rfl Tryz.call111 rfl rfl ?_)
 refine nx 10 rfl (oLl (f:=eU) rfl rfl ?_)
 refine nx 1 rfl (oA h0 rfl rfl λ hk5 h0=>?_)
 refine nx 3 rfl (mG (gE (t:=⟨[(4,.p (eI ((r3.length:Int) - (r1.fbuf.length:Int)))),(5,.p (eE false))],[(1000000,[.bptr 90 2 1000000,.vec 102000 1 (5+1) (r3.map eU)])]⟩) rfl rfl) ?_)
 exact nx 1 rfl (mQo (oi h0) (br (cn 102000 800000 rfl rfl rfl rfl rfl) (ca _)) rfl rfl rfl rfl (az ⟨sr,sr,trivial⟩) ⟨⟨_,rfl,⟨sr,sr,trivial⟩⟩,trivial⟩)
def im (b_0:aE):Option (Int×aE) :=
 some ((b_0.fbuf.length:Int),(aE.mk b_0.fbuf))
set_option maxHeartbeats 4000000 in
theorem mU (b_0:aE)(r:Int×aE)(h0:im b_0=some r):cD Tryz.prog 91 [.ptr 1000000 0] [(1000000,[.bptr 90 2 1000000,.vec 900000 1 (5+1) (b_0.fbuf.map eU)])] (λ x y=>x=.p (eI r.1)∧y=[(1000000,[.bptr 90 2 1000000,.vec 2000000 1 (5+1) (r.2.fbuf.map eU)])]):=by
 unfold im at h0
 refine jk good [800000] [1000000] Tryz.func91 rfl rfl rfl rfl rfl λ w0 F=>mPo (λ v:Int×aE=>.p (eI v.1)) (λ v=>[(1000000,[.bptr 90 2 1000000,.vec 2000000 1 (5+1) (v.2.fbuf.map eU)])]) ?_
 refine nx 10 rfl (oLl (f:=eU) rfl rfl ?_)
 exact nx 3 rfl (mQo (oi h0) (br (cn 900000 800000 rfl rfl rfl rfl rfl) (ca _)) rfl rfl rfl rfl (sr) ⟨⟨_,rfl,⟨sr,sr,trivial⟩⟩,trivial⟩)
end Go.Ab.RB
end
section
set_option linter.unusedVariables false
set_option linter.unusedSimpArgs false
set_option linter.unnecessarySimpa false
namespace Go.Ab
open Go.RowKit
theorem aB.of_calls {P:Program}{f:FuncId}{l:List Value}{r:AV}
  (h:∀ (w:World) (st:Nat→Nat→Prop),Ok0 w st→Calls P f l.toArray w λ e w'=>∃ v,e=.returned v∧Below w.heap.size w w'∧∀ g',ARep w' g' r v):aB P f (l.map PV.val) (·=r):=by
 intro w st vs hok hsz hargs
 have e:vs=l.toArray:=by
  apply Array.ext
  ·simpa using hsz
  ·intro i h1 h2
   have hi:i < l.length:=by simpa using h2
   have:=hargs i (.val l[i]) vs[i] (by simp [hi]) (Array.getElem?_eq_getElem h1)
   generalize hv:vs[i]=v at this
   cases this
   simp
 subst e
 refine (h w st hok).mono ?_
 rintro e w' ⟨v,rfl,hB,hr⟩
 refine ⟨v,r,⟨st,λ _=>none⟩,rfl,rfl,hr _,⟨hB.os,hB.output,hB.tape,hB.size,λ b hb=>hB.block b hb,?_,?_,λ b o hb=>Nat.lt_of_lt_of_le (hok.lt b o hb) hB.size,λ b _ o=>Iff.rfl⟩⟩
 ·intro i b hi; cases hi
 ·intro i j b hi; cases hi
theorem ny {w:World}{st:Nat→Nat→Prop}(h:kJ w st){g j:Nat}{l:List GC}{k:IntKind}{n:Int}(hl:look p8 g=some l)(hj:l[j]? = some (.int k n)):w.cell? ⟨g,j,none⟩=some (.int k n):=by
 obtain ⟨_,v,h2,h3⟩:=(h g (l.map GC.pv) (by rw [mX,hl]; rfl)).1 j (.val (.int k n)) (by rw [List.getElem?_map,hj]; rfl)
 cases h3
 exact h2
theorem wg {w:World}{st:Nat→Nat→Prop}(h:kJ w st){g j:Nat}{l:List GC}(hl:look p8 g=some l)(hj:l[j]? = some .ifc):∃ t v,w.cell? ⟨g,j,none⟩=some (.iface t v):=by
 obtain ⟨_,v,h2,h3⟩:=(h g (l.map GC.pv) (by rw [mX,hl]; rfl)).1 j .ifc (by rw [List.getElem?_map,hj]; rfl)
 cases h3 with
 | ifc t v=>exact ⟨t,v,h2⟩
theorem BP {P:Program}{w:World}{st:Nat→Nat→Prop}(h:kJ w st){g:Nat}{l:List GC}{nm:String}{k:IntKind}{zs:List Int}(hl:look p8 g=some l)(hn:P.globalNamed nm=some g)(hz:l=zs.map (GC.int k))(hne:zs≠[]):Lib.TabIs P w nm k zs:=by
 obtain ⟨h0,h1,h2⟩:=h g (l.map GC.pv) (by rw [mX,hl]; rfl)
 have hc:∀ (j:Nat) z,zs[j]? = some z→w.cell? ⟨g,j,none⟩=some (.int k z):=λ j z hj=>ny h hl (by rw [hz,List.getElem?_map,hj]; rfl)
 unfold Lib.TabIs World.var?
 rw [hn]
 simp only [Option.bind_some]
 have hlen:(l.map GC.pv).length=zs.length:=by rw [hz]; simp
 rw [hlen] at h2
 obtain ⟨z0,hz0⟩:∃ z0,zs[0]? = some z0:=by
  cases zs with
  | nil=>exact absurd rfl hne
  | cons z r=>exact ⟨z,rfl⟩
 have hc0:=hc 0 z0 hz0
 simp only [World.cell?] at hc hc0 h2
 cases hh:w.heap[g]? with
 | none=>rw [hh] at hc0; cases hc0
 | some o =>
  rw [hh] at hc hc0 h2
  cases o with
  | cells c e fz =>
   simp only [Option.isSome_none,Bool.false_eq_true,if_false] at hc hc0 h2
   refine congrArg some ?_
   apply Array.ext_getElem?
   intro j
   by_cases hj:j < zs.length
   ·rw [hc j zs[j] (List.getElem?_eq_getElem hj)]
    simp [hj]
   ·have h3:c.size≤zs.length:=by
     rcases Nat.lt_or_ge zs.length c.size with h' | h'
     ·rw [Array.getElem?_eq_getElem h'] at h2; cases h2
     ·exact h'
    rw [Array.getElem?_eq_none (by omega),Array.getElem?_eq_none (by simp; omega)]
  | _=>simp at hc0
theorem gA (s:Bytes):(str s).data.toList=s:=by simp [str]
theorem lc (w:World):Below w.heap.size w w:=Below.refl _ w
end Go.Ab
end
section
set_option linter.unusedVariables false
namespace Go.Proofs
open Go.Shelf
def Tryz.lays119_ren:Go.Shelf.Ren:=⟨λ | 119=>106 | n=>n,λ | 21=>21 | 4=>4 | n=>n,λ | n=>n⟩
theorem Tryz.lays119:Go.Proofs.Lays.n119 Tryz.prog Tryz.lays119_ren:={
 mixed:=by kernel_rfl
 f119:=Tryz.func106.trans (congrArg some (by kernel_rfl))
 t4:=Tryz.underlying4
 a4:=Tryz.isAgg4
 z4:=Tryz.sizeOf4
 v4:=Tryz.zeroValue4
 t21:=Tryz.underlying21
 a21:=Tryz.isAgg21
 z21:=Tryz.sizeOf21
 v21:=Tryz.zeroValue21 }
theorem Tryz.utf8_ValidRune (r:Int)(w:World) :
  Calls Tryz.prog 106 #[.int .i32 r] w λ e w'=>e=.returned (.bool (Lib.validRune r))∧w'=w:=Any.utf8_ValidRune Tryz.lays119 r w
def Tryz.lays137_ren:Go.Shelf.Ren:=⟨λ | 137=>68 | 217=>94 | 266=>113 | n=>n,λ | 9=>9 | 5=>5 | 3=>3 | n=>n,λ | n=>n⟩
theorem Tryz.lays137:Go.Proofs.Lays.n137 Tryz.prog Tryz.lays137_ren:={
 mixed:=by kernel_rfl
 f137:=Tryz.func68.trans (congrArg some (by kernel_rfl))
 f217:=Tryz.func94.trans (congrArg some (by kernel_rfl))
 f266:=Tryz.func113.trans (congrArg some (by kernel_rfl))
 t3:=Tryz.underlying3
 a3:=Tryz.isAgg3
 z3:=Tryz.sizeOf3
 v3:=Tryz.zeroValue3
 t5:=Tryz.underlying5
 a5:=Tryz.isAgg5
 z5:=Tryz.sizeOf5
 v5:=Tryz.zeroValue5
 t9:=Tryz.underlying9
 a9:=Tryz.isAgg9
 z9:=Tryz.sizeOf9
 v9:=Tryz.zeroValue9 }
open Go.RowKit in
theorem Tryz.strings_IndexByte (s:ByteArray)(c:Int)(w:World) :
  Calls Tryz.prog 68 #[.string s,.int .u8 c] w λ e w'=>e=.returned (.int .i64 (Lib.indexByte s.data.toList c.toNat.toUInt8))∧w'=w:=Any.strings_IndexByte Tryz.lays137 s c w
def Tryz.lays103_ren:Go.Shelf.Ren:=⟨λ | 103=>62 | 210=>82 | 206=>87 | n=>n,λ | 9=>9 | 4=>4 | 24=>37 | 3=>3 | n=>n,λ | n=>n⟩
theorem Tryz.lays103:Go.Proofs.Lays.n103 Tryz.prog Tryz.lays103_ren:={
 mixed:=by kernel_rfl
 f103:=Tryz.func62.trans (congrArg some (by kernel_rfl))
 f206:=Tryz.func87.trans (congrArg some (by kernel_rfl))
 f210:=Tryz.func82.trans (congrArg some (by kernel_rfl))
 t3:=Tryz.underlying3
 a3:=Tryz.isAgg3
 z3:=Tryz.sizeOf3
 v3:=Tryz.zeroValue3
 t4:=Tryz.underlying4
 a4:=Tryz.isAgg4
 z4:=Tryz.sizeOf4
 v4:=Tryz.zeroValue4
 t9:=Tryz.underlying9
 a9:=Tryz.isAgg9
 z9:=Tryz.sizeOf9
 v9:=Tryz.zeroValue9
 t24:=Tryz.underlying37
 a24:=Tryz.isAgg37
 z24:=Tryz.sizeOf37
 v24:=Tryz.zeroValue37 }
open Go.RowKit in
theorem Tryz.strings_CutPrefix (s p:ByteArray)(w:World) :
  Calls Tryz.prog 62 #[.string s,.string p] w λ e w'=>e=.returned (.tuple #[.string ⟨(Lib.trimPrefix s.data.toList p.data.toList).toArray⟩,.bool (Lib.hasPrefix s.data.toList p.data.toList)])∧w'=w:=Any.strings_CutPrefix Tryz.lays103 s p w
def Tryz.lays99_ren:Go.Shelf.Ren:=⟨λ | 99=>65 | 206=>87 | n=>n,λ | 9=>9 | 4=>4 | 3=>3 | n=>n,λ | n=>n⟩
theorem Tryz.lays99:Go.Proofs.Lays.n99 Tryz.prog Tryz.lays99_ren:={
 mixed:=by kernel_rfl
 f99:=Tryz.func65.trans (congrArg some (by kernel_rfl))
 f206:=Tryz.func87.trans (congrArg some (by kernel_rfl))
 t3:=Tryz.underlying3
 a3:=Tryz.isAgg3
 z3:=Tryz.sizeOf3
 v3:=Tryz.zeroValue3
 t4:=Tryz.underlying4
 a4:=Tryz.isAgg4
 z4:=Tryz.sizeOf4
 v4:=Tryz.zeroValue4
 t9:=Tryz.underlying9
 a9:=Tryz.isAgg9
 z9:=Tryz.sizeOf9
 v9:=Tryz.zeroValue9 }
open Go.RowKit Go.Lib in
theorem Tryz.strings_HasPrefix (s p:ByteArray)(w:World) :
  Calls Tryz.prog 65 #[.string s,.string p] w λ e w'=>e=.returned (.bool (Lib.hasPrefix s.data.toList p.data.toList))∧w'=w:=Any.strings_HasPrefix Tryz.lays99 s p w
def Tryz.laysM171_ren:Go.Shelf.Ren:=⟨λ | 171=>100 | 243=>117 | 246=>112 | 283=>124 | 284=>125 | 285=>126 | 286=>127 | 129=>137 | 317=>136 | 318=>138 | 319=>139 | 320=>140 | 337=>147 | 338=>148 | n=>n,λ | 3=>3 | 9=>9 | 2=>2 | 4=>4 | 171=>154 | 0=>0 | 53=>155 | 37=>88 | 5=>5 | 173=>158 | 212=>169 | 51=>153 | 20=>20 | 213=>170 | 46=>142 | 232=>183 | 233=>184 | n=>n,λ | 17=>3 | 18=>6 | 19=>7 | n=>n⟩
theorem Tryz.laysM171:Go.Proofs.LaysM.n171 Tryz.prog Tryz.laysM171_ren:={
 mixed:=by kernel_rfl
 f129:=Tryz.func137.trans (congrArg some (by kernel_rfl))
 f171:=Tryz.func100.trans (congrArg some (by kernel_rfl))
 f243:=Tryz.func117.trans (congrArg some (by kernel_rfl))
 f246:=Tryz.func112.trans (congrArg some (by kernel_rfl))
 f283:=Tryz.func124.trans (congrArg some (by kernel_rfl))
 f284:=Tryz.func125.trans (congrArg some (by kernel_rfl))
 f285:=Tryz.func126.trans (congrArg some (by kernel_rfl))
 f286:=Tryz.func127.trans (congrArg some (by kernel_rfl))
 f317:=Tryz.func136.trans (congrArg some (by kernel_rfl))
 f318:=Tryz.func138.trans (congrArg some (by kernel_rfl))
 f319:=Tryz.func139.trans (congrArg some (by kernel_rfl))
 f320:=Tryz.func140.trans (congrArg some (by kernel_rfl))
 f337:=Tryz.func147.trans (congrArg some (by kernel_rfl))
 f338:=Tryz.func148.trans (congrArg some (by kernel_rfl))
 t0:=Tryz.underlying0
 a0:=Tryz.isAgg0
 z0:=Tryz.sizeOf0
 v0:=Tryz.zeroValue0
 t2:=Tryz.underlying2
 a2:=Tryz.isAgg2
 z2:=Tryz.sizeOf2
 v2:=Tryz.zeroValue2
 t3:=Tryz.underlying3
 a3:=Tryz.isAgg3
 z3:=Tryz.sizeOf3
 v3:=Tryz.zeroValue3
 t4:=Tryz.underlying4
 a4:=Tryz.isAgg4
 z4:=Tryz.sizeOf4
 v4:=Tryz.zeroValue4
 t5:=Tryz.underlying5
 a5:=Tryz.isAgg5
 z5:=Tryz.sizeOf5
 v5:=Tryz.zeroValue5
 t9:=Tryz.underlying9
 a9:=Tryz.isAgg9
 z9:=Tryz.sizeOf9
 v9:=Tryz.zeroValue9
 t20:=Tryz.underlying20
 a20:=Tryz.isAgg20
 z20:=Tryz.sizeOf20
 v20:=Tryz.zeroValue20
 t37:=Tryz.underlying88
 a37:=Tryz.isAgg88
 z37:=Tryz.sizeOf88
 v37:=Tryz.zeroValue88
 t46:=Tryz.underlying142
 a46:=Tryz.isAgg142
 z46:=Tryz.sizeOf142
 v46:=Tryz.zeroValue142
 t51:=Tryz.underlying153
 a51:=Tryz.isAgg153
 z51:=Tryz.sizeOf153
 v51:=Tryz.zeroValue153
 t53:=Tryz.underlying155
 a53:=Tryz.isAgg155
 z53:=Tryz.sizeOf155
 v53:=Tryz.zeroValue155
 t171:=Tryz.underlying154
 a171:=Tryz.isAgg154
 z171:=Tryz.sizeOf154
 v171:=Tryz.zeroValue154
 t173:=Tryz.underlying158
 a173:=Tryz.isAgg158
 z173:=Tryz.sizeOf158
 v173:=Tryz.zeroValue158
 t212:=Tryz.underlying169
 a212:=Tryz.isAgg169
 z212:=Tryz.sizeOf169
 v212:=Tryz.zeroValue169
 t213:=Tryz.underlying170
 a213:=Tryz.isAgg170
 z213:=Tryz.sizeOf170
 t232:=Tryz.underlying183
 a232:=Tryz.isAgg183
 z232:=Tryz.sizeOf183
 v232:=Tryz.zeroValue183
 t233:=Tryz.underlying184
 a233:=Tryz.isAgg184
 z233:=Tryz.sizeOf184
 v233:=Tryz.zeroValue184
 g17:=by kernel_rfl
 g18:=by kernel_rfl
 g19:=by kernel_rfl
 i0:=by kernel_rfl
 i2:=by kernel_rfl
 i3:=by kernel_rfl
 i4:=by kernel_rfl
 i5:=by kernel_rfl
 i9:=by kernel_rfl
 i20:=by kernel_rfl
 i37:=by kernel_rfl
 i46:=by kernel_rfl
 i51:=by kernel_rfl
 i53:=by kernel_rfl
 i171:=by kernel_rfl
 i173:=by kernel_rfl
 i212:=by kernel_rfl
 i232:=by kernel_rfl
 i233:=by kernel_rfl
 m17:=by kernel_rfl
 m18:=by kernel_rfl
 m19:=by kernel_rfl }
open Go.RowKit Go.Sort Go.Lib in
theorem Tryz.strconv_Itoa (n:Int)(h0:-9223372036854775808≤n)(h1:n≤9223372036854775807)(w:World)(htab:Lib.TabIs Tryz.prog w "internal/strconv.uint64pow10" .u64 Lib.pow10Tab) :
  Calls Tryz.prog 100 #[.int .i64 n] w λ e w'=>e=.returned (.string ⟨(Lib.itoa n).toArray⟩)∧∃ k os,w'=grow (w.drewN k) os:=Any.strconv_Itoa Tryz.laysM171 n h0 h1 w htab
def Tryz.laysC174_ren:Go.Shelf.Ren:=⟨λ | 174=>96 | 247=>114 | 245=>115 | 287=>128 | 279=>129 | 280=>130 | 281=>131 | 282=>132 | 321=>141 | 322=>142 | 316=>143 | 171=>100 | 205=>144 | 243=>117 | 246=>112 | 283=>124 | 284=>125 | 285=>126 | 286=>127 | 129=>137 | 317=>136 | 318=>138 | 319=>139 | 320=>140 | 337=>147 | 338=>148 | n=>n,λ | 9=>9 | 3=>3 | 2=>2 | 75=>92 | 85=>135 | 4=>4 | 167=>160 | 5=>5 | 53=>155 | 175=>161 | 46=>142 | 168=>163 | 37=>88 | 0=>0 | 210=>174 | 21=>21 | 127=>113 | 145=>181 | 143=>179 | 171=>154 | 173=>158 | 212=>169 | 51=>153 | 20=>20 | 213=>170 | 232=>183 | 233=>184 | 80=>84 | n=>n,λ | 15=>4 | 16=>5 | 17=>3 | 18=>6 | 19=>7 | n=>n⟩
theorem Tryz.laysC174:Go.Proofs.LaysC.n174 Tryz.prog Tryz.laysC174_ren:={
 mixed:=by kernel_rfl
 f129:=Tryz.func137.trans (congrArg some (by kernel_rfl))
 f171:=Tryz.func100.trans (congrArg some (by kernel_rfl))
 f174:=Tryz.func96.trans (congrArg some (by kernel_rfl))
 f205:=Tryz.func144.trans (congrArg some (by kernel_rfl))
 f243:=Tryz.func117.trans (congrArg some (by kernel_rfl))
 f245:=Tryz.func115.trans (congrArg some (by kernel_rfl))
 f246:=Tryz.func112.trans (congrArg some (by kernel_rfl))
 f247:=Tryz.func114.trans (congrArg some (by kernel_rfl))
 f279:=Tryz.func129.trans (congrArg some (by kernel_rfl))
 f280:=Tryz.func130.trans (congrArg some (by kernel_rfl))
 f281:=Tryz.func131.trans (congrArg some (by kernel_rfl))
 f282:=Tryz.func132.trans (congrArg some (by kernel_rfl))
 f283:=Tryz.func124.trans (congrArg some (by kernel_rfl))
 f284:=Tryz.func125.trans (congrArg some (by kernel_rfl))
 f285:=Tryz.func126.trans (congrArg some (by kernel_rfl))
 f286:=Tryz.func127.trans (congrArg some (by kernel_rfl))
 f287:=Tryz.func128.trans (congrArg some (by kernel_rfl))
 f316:=Tryz.func143.trans (congrArg some (by kernel_rfl))
 f317:=Tryz.func136.trans (congrArg some (by kernel_rfl))
 f318:=Tryz.func138.trans (congrArg some (by kernel_rfl))
 f319:=Tryz.func139.trans (congrArg some (by kernel_rfl))
 f320:=Tryz.func140.trans (congrArg some (by kernel_rfl))
 f321:=Tryz.func141.trans (congrArg some (by kernel_rfl))
 f322:=Tryz.func142.trans (congrArg some (by kernel_rfl))
 f337:=Tryz.func147.trans (congrArg some (by kernel_rfl))
 f338:=Tryz.func148.trans (congrArg some (by kernel_rfl))
 t0:=Tryz.underlying0
 a0:=Tryz.isAgg0
 z0:=Tryz.sizeOf0
 v0:=Tryz.zeroValue0
 t2:=Tryz.underlying2
 a2:=Tryz.isAgg2
 z2:=Tryz.sizeOf2
 v2:=Tryz.zeroValue2
 t3:=Tryz.underlying3
 a3:=Tryz.isAgg3
 z3:=Tryz.sizeOf3
 v3:=Tryz.zeroValue3
 t4:=Tryz.underlying4
 a4:=Tryz.isAgg4
 z4:=Tryz.sizeOf4
 v4:=Tryz.zeroValue4
 t5:=Tryz.underlying5
 a5:=Tryz.isAgg5
 z5:=Tryz.sizeOf5
 v5:=Tryz.zeroValue5
 t9:=Tryz.underlying9
 a9:=Tryz.isAgg9
 z9:=Tryz.sizeOf9
 v9:=Tryz.zeroValue9
 t20:=Tryz.underlying20
 a20:=Tryz.isAgg20
 z20:=Tryz.sizeOf20
 v20:=Tryz.zeroValue20
 t21:=Tryz.underlying21
 a21:=Tryz.isAgg21
 z21:=Tryz.sizeOf21
 v21:=Tryz.zeroValue21
 t37:=Tryz.underlying88
 a37:=Tryz.isAgg88
 z37:=Tryz.sizeOf88
 v37:=Tryz.zeroValue88
 t46:=Tryz.underlying142
 a46:=Tryz.isAgg142
 z46:=Tryz.sizeOf142
 v46:=Tryz.zeroValue142
 t51:=Tryz.underlying153
 a51:=Tryz.isAgg153
 z51:=Tryz.sizeOf153
 v51:=Tryz.zeroValue153
 t53:=Tryz.underlying155
 a53:=Tryz.isAgg155
 z53:=Tryz.sizeOf155
 v53:=Tryz.zeroValue155
 t75:=Tryz.underlying92
 a75:=Tryz.isAgg92
 z75:=Tryz.sizeOf92
 v75:=Tryz.zeroValue92
 t85:=Tryz.underlying135
 a85:=Tryz.isAgg135
 z85:=Tryz.sizeOf135
 v85:=Tryz.zeroValue135
 t127:=Tryz.underlying113
 a127:=Tryz.isAgg113
 z127:=Tryz.sizeOf113
 v127:=Tryz.zeroValue113
 t143:=Tryz.underlying179
 a143:=Tryz.isAgg179
 z143:=Tryz.sizeOf179
 v143:=Tryz.zeroValue179
 t145:=Tryz.underlying181
 a145:=Tryz.isAgg181
 z145:=Tryz.sizeOf181
 v145:=Tryz.zeroValue181
 t167:=Tryz.underlying160
 a167:=Tryz.isAgg160
 z167:=Tryz.sizeOf160
 v167:=Tryz.zeroValue160
 t168:=Tryz.underlying163
 a168:=Tryz.isAgg163
 z168:=Tryz.sizeOf163
 v168:=Tryz.zeroValue163
 t171:=Tryz.underlying154
 a171:=Tryz.isAgg154
 z171:=Tryz.sizeOf154
 v171:=Tryz.zeroValue154
 t173:=Tryz.underlying158
 a173:=Tryz.isAgg158
 z173:=Tryz.sizeOf158
 v173:=Tryz.zeroValue158
 t175:=Tryz.underlying161
 a175:=Tryz.isAgg161
 z175:=Tryz.sizeOf161
 v175:=Tryz.zeroValue161
 t210:=Tryz.underlying174
 a210:=Tryz.isAgg174
 z210:=Tryz.sizeOf174
 v210:=Tryz.zeroValue174
 t212:=Tryz.underlying169
 a212:=Tryz.isAgg169
 z212:=Tryz.sizeOf169
 v212:=Tryz.zeroValue169
 t213:=Tryz.underlying170
 a213:=Tryz.isAgg170
 z213:=Tryz.sizeOf170
 t232:=Tryz.underlying183
 a232:=Tryz.isAgg183
 z232:=Tryz.sizeOf183
 v232:=Tryz.zeroValue183
 t233:=Tryz.underlying184
 a233:=Tryz.isAgg184
 z233:=Tryz.sizeOf184
 v233:=Tryz.zeroValue184
 g15:=by kernel_rfl
 g16:=by kernel_rfl
 g17:=by kernel_rfl
 g18:=by kernel_rfl
 g19:=by kernel_rfl
 t80:=Tryz.underlying84
 a80:=Tryz.isAgg84
 z80:=Tryz.sizeOf84
 v80:=Tryz.zeroValue84
 i0:=by kernel_rfl
 i2:=by kernel_rfl
 i3:=by kernel_rfl
 i4:=by kernel_rfl
 i5:=by kernel_rfl
 i9:=by kernel_rfl
 i20:=by kernel_rfl
 i21:=by kernel_rfl
 i37:=by kernel_rfl
 i46:=by kernel_rfl
 i51:=by kernel_rfl
 i53:=by kernel_rfl
 i75:=by kernel_rfl
 i80:=by kernel_rfl
 i85:=by kernel_rfl
 i127:=by kernel_rfl
 i143:=by kernel_rfl
 i145:=by kernel_rfl
 i167:=by kernel_rfl
 i168:=by kernel_rfl
 i171:=by kernel_rfl
 i173:=by kernel_rfl
 i175:=by kernel_rfl
 i210:=by kernel_rfl
 i212:=by kernel_rfl
 i232:=by kernel_rfl
 i233:=by kernel_rfl
 m15:=by kernel_rfl
 m16:=by kernel_rfl
 m17:=by kernel_rfl
 m18:=by kernel_rfl
 m19:=by kernel_rfl
 c0:=by kernel_rfl
 c2:=by kernel_rfl
 c3:=by kernel_rfl
 c4:=by kernel_rfl
 c5:=by kernel_rfl
 c9:=by kernel_rfl
 c20:=by kernel_rfl
 c21:=by kernel_rfl
 c37:=by kernel_rfl
 c46:=by kernel_rfl
 c51:=by kernel_rfl
 c53:=by kernel_rfl
 c75:=by kernel_rfl
 c80:=by kernel_rfl
 c85:=by kernel_rfl
 c127:=by kernel_rfl
 c143:=by kernel_rfl
 c145:=by kernel_rfl
 c167:=by kernel_rfl
 c168:=by kernel_rfl
 c171:=by kernel_rfl
 c173:=by kernel_rfl
 c175:=by kernel_rfl
 c210:=by kernel_rfl
 c212:=by kernel_rfl
 c213:=by kernel_rfl
 c232:=by kernel_rfl
 c233:=by kernel_rfl }
open Go.RowKit in
theorem Tryz.strconv_ParseInt_10_at64_ok (s:ByteArray)(hmax:s.size≤9223372036854775806)(v:Int)(h:Lib.parseIntB 64 s.data.toList=.ok v)(w:World) :
  Calls Tryz.prog 96 #[.string s,.int .i64 10,.int .i64 64] w λ e w'=>e=.returned (.tuple #[.int .i64 v,.nilIface])∧(w'=w∨∃ t,w'=Lib.bytesWorld w 5 t):=Any.strconv_ParseInt_10_at64_ok Tryz.laysC174 s hmax v h w
open Go.RowKit in
theorem Tryz.strconv_ParseInt_10_at64_range (s:ByteArray)(hlim:s.size≤281474976710656)(h:Lib.parseIntB 64 s.data.toList=.range)(ev:Value)(w:World)(hv:w.cell? ⟨5,0,none⟩=some ev)(hev:ev=.nilIface∨∃ te pe,ev=.iface te pe) :
  Calls Tryz.prog 96 #[.string s,.int .i64 10,.int .i64 64] w λ e w'=>∃ N,e=.returned (.tuple #[.int .i64 (Lib.intSat 64 s.data.toList),.iface 163 (.pointer (some ⟨N,0,none⟩))])∧w.heap.size≤N∧w'.heap[N]? = some (.cells #[.string ⟨#[80,97,114,115,101,73,110,116]⟩,.string s,ev] 174 (0,0))∧Below w.heap.size w w':=Any.strconv_ParseInt_10_at64_range Tryz.laysC174 s hlim h ev w hv hev
open Go.RowKit in
theorem Tryz.strconv_ParseInt_10_at64_syntax (s:ByteArray)(hlim:s.size≤281474976710656)(h:Lib.parseIntB 64 s.data.toList=Lib.parseIntB 64 [])(ev:Value)(w:World)(hv:w.cell? ⟨4,0,none⟩=some ev)(hev:ev=.nilIface∨∃ te pe,ev=.iface te pe) :
  Calls Tryz.prog 96 #[.string s,.int .i64 10,.int .i64 64] w λ e w'=>∃ N,e=.returned (.tuple #[.int .i64 (0),.iface 163 (.pointer (some ⟨N,0,none⟩))])∧w.heap.size≤N∧w'.heap[N]? = some (.cells #[.string ⟨#[80,97,114,115,101,73,110,116]⟩,.string s,ev] 174 (0,0))∧Below w.heap.size w w':=Any.strconv_ParseInt_10_at64_syntax Tryz.laysC174 s hlim h ev w hv hev
def Tryz.lays197_ren:Go.Shelf.Ren:=⟨λ | 197=>88 | 260=>109 | n=>n,λ | 9=>9 | 21=>21 | 3=>3 | 4=>4 | 5=>5 | 105=>127 | 119=>149 | 0=>0 | 46=>142 | 139=>152 | 138=>151 | n=>n,λ | 3=>1 | 4=>2 | n=>n⟩
theorem Tryz.lays197:Go.Proofs.Lays.n197 Tryz.prog Tryz.lays197_ren:={
 mixed:=by kernel_rfl
 f197:=Tryz.func88.trans (congrArg some (by kernel_rfl))
 f260:=Tryz.func109.trans (congrArg some (by kernel_rfl))
 t0:=Tryz.underlying0
 a0:=Tryz.isAgg0
 z0:=Tryz.sizeOf0
 v0:=Tryz.zeroValue0
 t3:=Tryz.underlying3
 a3:=Tryz.isAgg3
 z3:=Tryz.sizeOf3
 v3:=Tryz.zeroValue3
 t4:=Tryz.underlying4
 a4:=Tryz.isAgg4
 z4:=Tryz.sizeOf4
 v4:=Tryz.zeroValue4
 t5:=Tryz.underlying5
 a5:=Tryz.isAgg5
 z5:=Tryz.sizeOf5
 v5:=Tryz.zeroValue5
 t9:=Tryz.underlying9
 a9:=Tryz.isAgg9
 z9:=Tryz.sizeOf9
 v9:=Tryz.zeroValue9
 t21:=Tryz.underlying21
 a21:=Tryz.isAgg21
 z21:=Tryz.sizeOf21
 v21:=Tryz.zeroValue21
 t46:=Tryz.underlying142
 a46:=Tryz.isAgg142
 z46:=Tryz.sizeOf142
 v46:=Tryz.zeroValue142
 t105:=Tryz.underlying127
 a105:=Tryz.isAgg127
 z105:=Tryz.sizeOf127
 v105:=Tryz.zeroValue127
 t119:=Tryz.underlying149
 a119:=Tryz.isAgg149
 z119:=Tryz.sizeOf149
 t138:=Tryz.underlying151
 a138:=Tryz.isAgg151
 z138:=Tryz.sizeOf151
 v138:=Tryz.zeroValue151
 t139:=Tryz.underlying152
 a139:=Tryz.isAgg152
 z139:=Tryz.sizeOf152
 v139:=Tryz.zeroValue152
 g3:=by kernel_rfl
 g4:=by kernel_rfl }
open Go.RowKit Go.Lib in
theorem Tryz.utf8_DecodeRuneInString (s:ByteArray)(w:World)(hT:Lib.Utf8Tabs 1 2 w) :
  Calls Tryz.prog 88 #[.string s] w λ e w'=>e=.returned (.tuple #[.int .i32 (Lib.decodeGo s).1,.int .i64 (Lib.decodeGo s).2])∧Below w.heap.size w w':=Any.utf8_DecodeRuneInString Tryz.lays197 s w hT
def Tryz.lays153_ren:Go.Shelf.Ren:=⟨λ | 153=>63 | 152=>83 | 226=>84 | 227=>85 | 228=>86 | 137=>68 | 119=>106 | 224=>107 | 225=>108 | 217=>94 | 266=>113 | n=>n,λ | 9=>9 | 3=>3 | 4=>4 | 5=>5 | 21=>21 | 117=>124 | 116=>123 | 0=>0 | 46=>142 | 124=>143 | n=>n,λ | n=>n⟩
theorem Tryz.lays153:Go.Proofs.Lays.n153 Tryz.prog Tryz.lays153_ren:={
 mixed:=by kernel_rfl
 f119:=Tryz.func106.trans (congrArg some (by kernel_rfl))
 f137:=Tryz.func68.trans (congrArg some (by kernel_rfl))
 f152:=Tryz.func83.trans (congrArg some (by kernel_rfl))
 f153:=Tryz.func63.trans (congrArg some (by kernel_rfl))
 f217:=Tryz.func94.trans (congrArg some (by kernel_rfl))
 f224:=Tryz.func107.trans (congrArg some (by kernel_rfl))
 f225:=Tryz.func108.trans (congrArg some (by kernel_rfl))
 f226:=Tryz.func84.trans (congrArg some (by kernel_rfl))
 f227:=Tryz.func85.trans (congrArg some (by kernel_rfl))
 f228:=Tryz.func86.trans (congrArg some (by kernel_rfl))
 f266:=Tryz.func113.trans (congrArg some (by kernel_rfl))
 t0:=Tryz.underlying0
 a0:=Tryz.isAgg0
 z0:=Tryz.sizeOf0
 v0:=Tryz.zeroValue0
 t3:=Tryz.underlying3
 a3:=Tryz.isAgg3
 z3:=Tryz.sizeOf3
 v3:=Tryz.zeroValue3
 t4:=Tryz.underlying4
 a4:=Tryz.isAgg4
 z4:=Tryz.sizeOf4
 v4:=Tryz.zeroValue4
 t5:=Tryz.underlying5
 a5:=Tryz.isAgg5
 z5:=Tryz.sizeOf5
 v5:=Tryz.zeroValue5
 t9:=Tryz.underlying9
 a9:=Tryz.isAgg9
 z9:=Tryz.sizeOf9
 v9:=Tryz.zeroValue9
 t21:=Tryz.underlying21
 a21:=Tryz.isAgg21
 z21:=Tryz.sizeOf21
 v21:=Tryz.zeroValue21
 t46:=Tryz.underlying142
 a46:=Tryz.isAgg142
 z46:=Tryz.sizeOf142
 v46:=Tryz.zeroValue142
 t116:=Tryz.underlying123
 a116:=Tryz.isAgg123
 z116:=Tryz.sizeOf123
 t117:=Tryz.underlying124
 a117:=Tryz.isAgg124
 z117:=Tryz.sizeOf124
 v117:=Tryz.zeroValue124
 t124:=Tryz.underlying143
 a124:=Tryz.isAgg143
 z124:=Tryz.sizeOf143
 v124:=Tryz.zeroValue143 }
open Go.RowKit Go.Lib in
theorem Tryz.strings_IndexAny_long (hv116:∀ w,(zeroValue 123).run Tryz.prog w=.ok (.agg (Array.replicate 256 (.bool false))) w)(s chars:ByteArray)(w:World)(h2:2≤chars.size)(h8:8 < s.size)(hs:s.size < 4294967281)(hcs:chars.size < 4294967281)(hascii:∀ (j:Nat) b,chars.data.toList[j]? = some b→b.toNat < 128) :
  Calls Tryz.prog 63 #[.string s,.string chars] w λ e w'=>e=.returned (.int .i64 (Lib.indexAny s.data.toList chars.data.toList))∧w'=((w.alloc (.cells (Lib.setCells chars.data.toList) 123)).alloc (.cells (Lib.setCells chars.data.toList) 123)):=Any.strings_IndexAny_long Tryz.lays153 hv116 (by kernel_rfl) s chars w h2 h8 hs hcs hascii
def Tryz.lays152_ren:Go.Shelf.Ren:=⟨λ | 152=>83 | 137=>68 | 119=>106 | 224=>107 | 225=>108 | 217=>94 | 266=>113 | n=>n,λ | 9=>9 | 21=>21 | 3=>3 | 4=>4 | 5=>5 | 0=>0 | 46=>142 | n=>n,λ | n=>n⟩
theorem Tryz.lays152:Go.Proofs.Lays.n152 Tryz.prog Tryz.lays152_ren:={
 mixed:=by kernel_rfl
 f119:=Tryz.func106.trans (congrArg some (by kernel_rfl))
 f137:=Tryz.func68.trans (congrArg some (by kernel_rfl))
 f152:=Tryz.func83.trans (congrArg some (by kernel_rfl))
 f217:=Tryz.func94.trans (congrArg some (by kernel_rfl))
 f224:=Tryz.func107.trans (congrArg some (by kernel_rfl))
 f225:=Tryz.func108.trans (congrArg some (by kernel_rfl))
 f266:=Tryz.func113.trans (congrArg some (by kernel_rfl))
 t0:=Tryz.underlying0
 a0:=Tryz.isAgg0
 z0:=Tryz.sizeOf0
 v0:=Tryz.zeroValue0
 t3:=Tryz.underlying3
 a3:=Tryz.isAgg3
 z3:=Tryz.sizeOf3
 v3:=Tryz.zeroValue3
 t4:=Tryz.underlying4
 a4:=Tryz.isAgg4
 z4:=Tryz.sizeOf4
 v4:=Tryz.zeroValue4
 t5:=Tryz.underlying5
 a5:=Tryz.isAgg5
 z5:=Tryz.sizeOf5
 v5:=Tryz.zeroValue5
 t9:=Tryz.underlying9
 a9:=Tryz.isAgg9
 z9:=Tryz.sizeOf9
 v9:=Tryz.zeroValue9
 t21:=Tryz.underlying21
 a21:=Tryz.isAgg21
 z21:=Tryz.sizeOf21
 v21:=Tryz.zeroValue21
 t46:=Tryz.underlying142
 a46:=Tryz.isAgg142
 z46:=Tryz.sizeOf142
 v46:=Tryz.zeroValue142 }
open Go.RowKit Go.Lib in
theorem Tryz.strings_IndexRune_ascii (s:ByteArray)(r:Int)(w:World)(h0:0≤r)(h1:r < 128) :
  Calls Tryz.prog 83 #[.string s,.int .i32 r] w λ e w'=>e=.returned (.int .i64 (Lib.indexByte s.data.toList r.toNat.toUInt8))∧w'=w:=Any.strings_IndexRune_ascii Tryz.lays152 s r w h0 h1
def Tryz.lays196_ren:Go.Shelf.Ren:=⟨λ | 196=>116 | 259=>133 | n=>n,λ | 9=>9 | 4=>4 | 3=>3 | 5=>5 | 12=>12 | 119=>149 | 0=>0 | 46=>142 | 139=>152 | 138=>151 | 53=>155 | n=>n,λ | 3=>1 | 4=>2 | n=>n⟩
theorem Tryz.lays196:Go.Proofs.Lays.n196 Tryz.prog Tryz.lays196_ren:={
 mixed:=by kernel_rfl
 f196:=Tryz.func116.trans (congrArg some (by kernel_rfl))
 f259:=Tryz.func133.trans (congrArg some (by kernel_rfl))
 t0:=Tryz.underlying0
 a0:=Tryz.isAgg0
 z0:=Tryz.sizeOf0
 v0:=Tryz.zeroValue0
 t3:=Tryz.underlying3
 a3:=Tryz.isAgg3
 z3:=Tryz.sizeOf3
 v3:=Tryz.zeroValue3
 t4:=Tryz.underlying4
 a4:=Tryz.isAgg4
 z4:=Tryz.sizeOf4
 v4:=Tryz.zeroValue4
 t5:=Tryz.underlying5
 a5:=Tryz.isAgg5
 z5:=Tryz.sizeOf5
 v5:=Tryz.zeroValue5
 t9:=Tryz.underlying9
 a9:=Tryz.isAgg9
 z9:=Tryz.sizeOf9
 v9:=Tryz.zeroValue9
 t12:=Tryz.underlying12
 a12:=Tryz.isAgg12
 z12:=Tryz.sizeOf12
 v12:=Tryz.zeroValue12
 t46:=Tryz.underlying142
 a46:=Tryz.isAgg142
 z46:=Tryz.sizeOf142
 v46:=Tryz.zeroValue142
 t53:=Tryz.underlying155
 a53:=Tryz.isAgg155
 z53:=Tryz.sizeOf155
 v53:=Tryz.zeroValue155
 t119:=Tryz.underlying149
 a119:=Tryz.isAgg149
 z119:=Tryz.sizeOf149
 t138:=Tryz.underlying151
 a138:=Tryz.isAgg151
 z138:=Tryz.sizeOf151
 v138:=Tryz.zeroValue151
 t139:=Tryz.underlying152
 a139:=Tryz.isAgg152
 z139:=Tryz.sizeOf152
 v139:=Tryz.zeroValue152
 g3:=by kernel_rfl
 g4:=by kernel_rfl }
open Go.RowKit Go.Lib in
theorem Tryz.utf8_ValidString (s:ByteArray)(w:World)(hs:s.size≤9223372036854775807)(hT:Lib.Utf8Tabs 1 2 w):Calls Tryz.prog 116 #[.string s] w λ e w'=>e=.returned (.bool (Lib.validD s.data.toList))∧Below w.heap.size w w':=Any.utf8_ValidString Tryz.lays196 s w hs hT
def Tryz.lays226_ren:Go.Shelf.Ren:=⟨λ | 226=>84 | n=>n,λ | 3=>3 | 4=>4 | n=>n,λ | n=>n⟩
theorem Tryz.lays226:Go.Proofs.Lays.n226 Tryz.prog Tryz.lays226_ren:={
 mixed:=by kernel_rfl
 f226:=Tryz.func84.trans (congrArg some (by kernel_rfl))
 t3:=Tryz.underlying3
 a3:=Tryz.isAgg3
 z3:=Tryz.sizeOf3
 v3:=Tryz.zeroValue3
 t4:=Tryz.underlying4
 a4:=Tryz.isAgg4
 z4:=Tryz.sizeOf4
 v4:=Tryz.zeroValue4 }
open Go.RowKit Go.Lib in
theorem Tryz.strings_shouldUseASCIISet (n:Int)(w:World) :
  Calls Tryz.prog 84 #[.int .i64 n] w λ e w'=>e=.returned (.bool (decide (8 < n)))∧w'=w:=Any.strings_shouldUseASCIISet Tryz.lays226 n w
end Go.Proofs
end
section
set_option linter.unusedSimpArgs false
set_option linter.unnecessarySimpa false
set_option linter.unusedVariables false
namespace Go.Ab
open Go.Proofs Go.RowKit
def strings_IndexByte (s:Bytes)(c:Int):Option Int:=some (Lib.indexByte s c.toNat.toUInt8)
theorem jT (s_0:Bytes)(c_1:Int)(r:Int)(h0:strings_IndexByte s_0 c_1=some r):aB Tryz.prog 68 [eS s_0,eK .u8 c_1] (·=.p (eI r)):=by
 cases h0
 refine aB.of_calls (l:=[.string (str s_0),.int .u8 c_1]) λ w st hok=>(Tryz.strings_IndexByte _ _ w).mono ?_
 rintro e w' ⟨rfl,rfl⟩
 rw [gA]
 exact ⟨_,rfl,lc _,λ _=>.p (.val _)⟩
def dp (r:Int):Option Bool:=some (Lib.validRune r)
theorem ib (r_0:Int)(r:Bool)(h0:dp r_0=some r):aB Tryz.prog 106 [eK .i32 r_0] (·=.p (eB r)):=by
 cases h0
 refine aB.of_calls (l:=[.int .i32 r_0]) λ w st hok=>(Tryz.utf8_ValidRune _ w).mono ?_
 rintro e w' ⟨rfl,rfl⟩
 exact ⟨_,rfl,lc _,λ _=>.p (.val _)⟩
theorem tn {w:World}{g:Gh}{a b:Value}:ARep w g (.tuple [.p (.val a),.p (.val b)]) (.tuple #[a,b]):=by
 refine .tuple rfl λ i c v h1 h2=>?_
 match i,h1,h2 with
 | 0,h1,h2=>simp at h1 h2; subst h1 h2; exact .p (.val _)
 | 1,h1,h2=>simp at h1 h2; subst h1 h2; exact .p (.val _)
 | n+2,h1,_=>simp at h1
def strings_CutPrefix (s p:Bytes):Option (Bytes×Bool):=some (Lib.trimPrefix s p,Lib.hasPrefix s p)
theorem j3 (s_0 p_1:Bytes)(r:Bytes×Bool)(h0:strings_CutPrefix s_0 p_1=some r):aB Tryz.prog 62 [eS s_0,eS p_1] (·=.tuple [.p (eS r.1),.p (eB r.2)]):=by
 cases h0
 refine aB.of_calls (l:=[.string (str s_0),.string (str p_1)]) λ w st hok=>(Tryz.strings_CutPrefix _ _ w).mono ?_
 rintro e w' ⟨rfl,rfl⟩
 rw [gA,gA]
 exact ⟨_,rfl,lc _,λ _=>tn⟩
def strings_HasPrefix (s p:Bytes):Option Bool:=some (Lib.hasPrefix s p)
theorem nS (s_0 p_1:Bytes)(r:Bool)(h0:strings_HasPrefix s_0 p_1=some r):aB Tryz.prog 65 [eS s_0,eS p_1] (·=.p (eB r)):=by
 cases h0
 refine aB.of_calls (l:=[.string (str s_0),.string (str p_1)]) λ w st hok=>(Tryz.strings_HasPrefix _ _ w).mono ?_
 rintro e w' ⟨rfl,rfl⟩
 rw [gA,gA]
 exact ⟨_,rfl,lc _,λ _=>.p (.val _)⟩
def strconv_Itoa (n:Int):Option Bytes:=ck (inR n) <| some (Lib.itoa n)
theorem rS (i_0:Int)(r:Bytes)(h0:strconv_Itoa i_0=some r):aB Tryz.prog 100 [eI i_0] (·=.p (eS r)):=by
 obtain ⟨hr,h0⟩:=ke h0
 cases h0
 refine aB.of_calls (l:=[.int .i64 i_0]) λ w st hok=>(Tryz.strconv_Itoa _ hr.1 hr.2 w (BP hok.gl (g:=3) rfl (by kernel_rfl) (by kernel_rfl) (by decide))).mono ?_
 rintro e w' ⟨rfl,k,os,rfl⟩
 exact ⟨_,rfl,Lib.below_grow _ w (Nat.le_refl _) k os,λ _=>.p (.val _)⟩
theorem zU:(List.range 256).all (λ c=>match sM[c]? with | some (.int .u8 n)=>n == (Lib.firstT c:Int) | _=>false)=true:=by kernel_rfl
theorem C4:(List.range 16).all (λ c=>(match Ch[2*c]? with | some (.int .u8 n)=>n == (Lib.accLo c:Int) | _=>false)&&(match Ch[2*c+1]? with | some (.int .u8 n)=>n == (Lib.accHi c:Int) | _=>false))=true:=by kernel_rfl
theorem BL {o:Option GC}{m:Int}(h:(match o with | some (.int .u8 n)=>n == m | _=>false)=true):o=some (.int .u8 m):=by
 split at h
 ·rw [eq_of_beq h]
 ·cases h
theorem wq {w:World}{st:Nat→Nat→Prop}(h:kJ w st):Lib.Utf8Tabs 1 2 w:=by
 refine ⟨λ c hc=>ny h rfl (BL (List.all_eq_true.1 zU c (by simpa using hc))),λ i hi=>?_⟩
 have:=List.all_eq_true.1 C4 i (by simpa using hi)
 simp only [Bool.and_eq_true] at this
 exact ⟨ny h rfl (BL this.1),ny h rfl (BL this.2)⟩
def db (s:Bytes):Option (Int×Int):=some ((Lib.decodeGo (str s)).1,(Lib.decodeGo (str s)).2)
theorem iF (s_0:Bytes)(r:Int×Int)(h0:db s_0=some r):aB Tryz.prog 88 [eS s_0] (·=.tuple [.p (eK .i32 r.1),.p (eI r.2)]):=by
 cases h0
 refine aB.of_calls (l:=[.string (str s_0)]) λ w st hok=>(Tryz.utf8_DecodeRuneInString _ w (wq hok.gl)).mono ?_
 rintro e w' ⟨rfl,hB⟩
 exact ⟨_,rfl,hB,λ _=>tn⟩
def en (s:Bytes):Option Bool:=ck (s.length≤9223372036854775807) <| some (Lib.validD s)
theorem ky (s_0:Bytes)(r:Bool)(h0:en s_0=some r):aB Tryz.prog 116 [eS s_0] (·=.p (eB r)):=by
 obtain ⟨hl,h0⟩:=ke h0
 cases h0
 refine aB.of_calls (l:=[.string (str s_0)]) λ w st hok=>(Tryz.utf8_ValidString _ w (by rw [gR]; exact hl) (wq hok.gl)).mono ?_
 rintro e w' ⟨rfl,hB⟩
 rw [gA]
 exact ⟨_,rfl,hB,λ _=>.p (.val _)⟩
theorem wU (w:World)(e:TypeId)(t:ByteArray):Below w.heap.size w (Lib.bytesWorld w e t) :=
 ⟨rfl,rfl,rfl,by rw [Lib.bytesWorld_size]; omega,λ k hk=>Lib.bytesWorld_at_old w e t k hk⟩
def hZ (s:Bytes)(b z:Int):Option (Int×Bool):=ck (b=10∧z=64∧s.length≤281474976710656) <| some (match Lib.parseIntB 64 s with | .ok v=>(v,false) | .range=>(Lib.intSat 64 s,true) | _=>(0,true))
theorem yb {w:World}{g:Gh}{a:Int}{t:TypeId}{v:Value}:ARep w g (.tuple [.p (eI a),.p (eE true)]) (.tuple #[.int .i64 a,.iface t v]):=by
 refine .tuple rfl λ i c v h1 h2=>?_
 match i,h1,h2 with
 | 0,h1,h2=>simp at h1 h2; subst h1 h2; exact .p (.val _)
 | 1,h1,h2=>simp at h1 h2; subst h1 h2; exact .p (.ifc _ _)
 | n+2,h1,_=>simp at h1
theorem oZ (s_0:Bytes)(base_1 bitSize_2:Int)(r:Int×Bool)(h0:hZ s_0 base_1 bitSize_2=some r):aB Tryz.prog 96 [eS s_0,eI base_1,eI bitSize_2] (·=.tuple [.p (eI r.1),.p (eE r.2)]):=by
 obtain ⟨⟨rfl,rfl,hl⟩,h1⟩:=ke h0
 have hsz:(str s_0).size≤281474976710656:=by rw [gR]; exact hl
 refine aB.of_calls (l:=[.string (str s_0),.int .i64 10,.int .i64 64]) λ w st hok=>?_
 cases hp:Lib.parseIntB 64 s_0 with
 | ok v =>
  rw [hp] at h1; cases h1
  refine (Tryz.strconv_ParseInt_10_at64_ok (str s_0) (by omega) v (by rw [gA]; exact hp) w).mono ?_
  rintro e w' ⟨rfl,h⟩
  refine ⟨_,rfl,?_,λ _=>tn⟩
  rcases h with rfl | ⟨t,rfl⟩
  ·exact lc _
  ·exact wU _ _ _
 | range =>
  rw [hp] at h1; cases h1
  obtain ⟨t,v,hv⟩:=wg hok.gl (g:=5) (j:=0) rfl rfl
  refine (Tryz.strconv_ParseInt_10_at64_range (str s_0) hsz (by rw [gA]; exact hp) _ w hv (.inr ⟨_,_,rfl⟩)).mono ?_
  rintro e w' ⟨N,rfl,_,_,hB⟩
  rw [gA]
  exact ⟨_,rfl,hB,λ _=>yb⟩
 | _ =>
  rw [hp] at h1; cases h1
  obtain ⟨t,v,hv⟩:=wg hok.gl (g:=4) (j:=0) rfl rfl
  refine (Tryz.strconv_ParseInt_10_at64_syntax (str s_0) hsz (by rw [gA]; exact hp) _ w hv (.inr ⟨_,_,rfl⟩)).mono ?_
  rintro e w' ⟨N,rfl,_,_,hB⟩
  exact ⟨_,rfl,hB,λ _=>yb⟩
end Go.Ab
set_option linter.unusedVariables false
namespace Go.Ab
open Go.Proofs Go.RowKit Go
set_option maxHeartbeats 1000000 in
set_option maxRecDepth 100000 in
theorem tz16 (w:World)(hT:w.cell? ⟨7,15,none⟩=some (.int .u8 4)) :
  Calls Tryz.prog 148 #[.int .u64 16] w λ e w'=>e=.returned (.int .i64 4)∧w'=w:=by
 have hq:IntKind.u64.wrap (Go.bits BinOp.and IntKind.u64 16 (IntKind.u64.wrap (-16))*285870213051353865) / 288230376151711744=15:=by kernel_rfl
 go_enter Tryz.func148,Tryz.ntmps148
 go_wp2
 go_ret
 exact ⟨rfl,rfl⟩
set_option maxHeartbeats 1000000 in
set_option maxRecDepth 100000 in
theorem pow2 (w:World):Calls Tryz.prog 139 #[.int .i64 16] w λ e w'=>e=.returned (.bool true)∧w'=w:=by
 have hq:bits BinOp.and IntKind.i64 16 15=0:=by kernel_rfl
 go_enter Tryz.func139,Tryz.ntmps139
 go_wp2
 go_ret
 exact ⟨rfl,rfl⟩
set_option maxHeartbeats 400000 in
set_option maxRecDepth 100000 in
theorem tz (w:World)(hT:w.cell? ⟨7,15,none⟩=some (.int .u8 4)) :
  Calls Tryz.prog 140 #[.int .u64 16] w λ e w'=>e=.returned (.int .i64 4)∧w'=w:=by
 have HC:=tz16 w hT
 clear hT
 go_enter Tryz.func140,Tryz.ntmps140
 go_wp2_with (go_at_call 148; refine HC.mono ?_; rintro e w' ⟨rfl,rfl⟩)
 go_ret
 exact ⟨rfl,rfl⟩
end Go.Ab
set_option linter.unusedVariables false
namespace Go.Ab
open Go.Proofs Go.RowKit Go
abbrev digs:ByteArray:={ data:=#[48,49,50,51,52,53,54,55,56,57,97,98,99,100,101,102,103,104,105,106,107,108,109,110,111,112,113,114,115,116,117,118,119,120,121,122] }
def dig (n:Nat)(h:n < 36):UInt8:=digs[n]'(by show n < 36; exact h)
theorem xn (n:Nat)(h:n < 36):(({ data:=#[48,49,50,51,52,53,54,55,56,57,97,98,99,100,101,102,103,104,105,106,107,108,109,110,111,112,113,114,115,116,117,118,119,120,121,122] }:ByteArray)[n]'(by show n < 36; exact h))=dig n h:=rfl
set_option maxHeartbeats 400000 in
set_option maxRecDepth 100000 in
theorem fb (u:Int)(h0:0≤u)(h1:u < 16)(w:World)(hT:w.cell? ⟨7,15,none⟩=some (.int .u8 4)) :
  Calls Tryz.prog 127 #[.slice none 0 0,.int .u64 u,.int .i64 16,.bool false,.bool false] w λ e w'=>e=.returned (.tuple #[.slice none 0 0,.string ⟨[dig u.toNat (by omega)].toArray⟩])∧Below w.heap.size w w':=by
 have hlt:(7:Nat) < w.heap.size:=by
  rcases Nat.lt_or_ge 7 w.heap.size with h | h
  ·exact h
  ·simp [World.cell?,Array.getElem?_eq_none h] at hT
 have HZ:Hid (∀ o,Calls Tryz.prog 140 #[.int .u64 16] (w.alloc o) λ e w'=>e=.returned (.int .i64 4)∧w'=w.alloc o):=λ o=>tz (w.alloc o) ((World.cell?_alloc_lt w _ _ hlt).trans hT)
 clear hT
 go_enter Tryz.func127,Tryz.ntmps127
 go_wp2_with (first | (go_at_call 139; refine (pow2 _).mono ?_; rintro e w' ⟨rfl,rfl⟩) | (go_at_call 140; refine (HZ.out _).mono ?_; rintro e w' ⟨rfl,rfl⟩))
 go_loopg [1,13] 1 (λ g uv iv wx=>g=1∧uv=.int .u64 u∧iv=.int .i64 65∧wx=w.alloc (.cells Tryz.zeroCells170 170))
 case atStart=>exact ⟨rfl,rfl,rfl,rfl⟩
 case round =>
  obtain ⟨rfl,rfl,rfl,rfl⟩:=hrel
  have hlt16:decide ((16:Int)≤u)=false:=decide_eq_false (by omega)
  go_wp2
  rw [xn u.toNat (by omega)]
  generalize hd:dig u.toNat (by omega)=dg
  have hcv:=run_convert_bytes_back (P:=Tryz.prog) (w.alloc (.cells (Tryz.zeroCells170.setIfInBounds 64 (.int .u8 dg.toNat)) 170)) 88 9 5 ⟨w.heap.size,64,none⟩ 1 [dg] Tryz.underlying88 Tryz.underlying5 Tryz.underlying9 (λ j hj=>by
   have:j=0:=by simpa using hj
   subst this
   rw [add_lit,Nat.add_zero,World.cell?_alloc_new]
   rfl)
  rw [show [dg].length=1 from rfl] at hcv
  rw [hcv]
  simp only [Result.andThen]
  rw [Oper.upon_value]
  go_wp2
  go_ret2
  subst hd
  exact ⟨rfl,(Below.refl _ w).alloc (Nat.le_refl _) _⟩
theorem E0:(List.range 256).all (λ n=>Go.bits BinOp.and IntKind.u64 (n:Int) 15 == ((n % 16:Nat):Int))=true:=by kernel_rfl
set_option maxHeartbeats 1000000 in
set_option maxRecDepth 100000 in
theorem fb2 (u:Nat)(h0:16≤u)(h1:u < 256)(w:World)(hT:w.cell? ⟨7,15,none⟩=some (.int .u8 4)) :
  Calls Tryz.prog 127 #[.slice none 0 0,.int .u64 u,.int .i64 16,.bool false,.bool false] w λ e w'=>e=.returned (.tuple #[.slice none 0 0,.string ⟨[dig (u / 16) (by omega),dig (u % 16) (by omega)].toArray⟩])∧Below w.heap.size w w':=by
 have hlt:(7:Nat) < w.heap.size:=by
  rcases Nat.lt_or_ge 7 w.heap.size with h | h
  ·exact h
  ·simp [World.cell?,Array.getElem?_eq_none h] at hT
 have HZ:Hid (∀ o,Calls Tryz.prog 140 #[.int .u64 16] (w.alloc o) λ e w'=>e=.returned (.int .i64 4)∧w'=w.alloc o):=λ o=>tz (w.alloc o) ((World.cell?_alloc_lt w _ _ hlt).trans hT)
 clear hT
 have hand:Go.bits BinOp.and IntKind.u64 (u:Int) 15=((u % 16:Nat):Int):=eq_of_beq (List.all_eq_true.1 E0 u (List.mem_range.2 h1))
 go_enter Tryz.func127,Tryz.ntmps127
 go_wp2_with (first | (go_at_call 139; refine (pow2 _).mono ?_; rintro e w' ⟨rfl,rfl⟩) | (go_at_call 140; refine (HZ.out _).mono ?_; rintro e w' ⟨rfl,rfl⟩))
 go_loopg [1,13] 1 (λ g uv iv wx=>(g=1∧uv=.int .u64 u∧iv=.int .i64 65∧wx=w.alloc (.cells Tryz.zeroCells170 170))∨(g=0∧uv=.int .u64 ((u / 16:Nat):Int)∧iv=.int .i64 64∧wx=w.alloc (.cells (Tryz.zeroCells170.setIfInBounds 64 (.int .u8 (dig (u % 16) (by omega)).toNat)) 170)))
 case atStart=>exact .inl ⟨rfl,rfl,rfl,rfl⟩
 case round =>
  rcases hrel with ⟨rfl,rfl,rfl,rfl⟩ | ⟨rfl,rfl,rfl,rfl⟩
  ·have hlt16:decide ((16:Int)≤(u:Int))=true:=decide_eq_true (by omega)
   go_wp2
   rw [xn (u % 16) (by omega)]
   go_roundg 0
   case measure=>omega
   case rel=>exact .inr ⟨rfl,by rw [Int.natCast_ediv]; rfl,rfl,rfl⟩
  ·have hlt16:decide ((16:Int)≤((u / 16:Nat):Int))=false:=decide_eq_false (by omega)
   go_wp2
   rw [xn (u / 16) (by omega)]
   generalize hd:dig (u / 16) (by omega)=d1
   generalize he:dig (u % 16) (by omega)=d0
   have hcv:=run_convert_bytes_back (P:=Tryz.prog) (w.alloc (.cells ((Tryz.zeroCells170.setIfInBounds 64 (.int .u8 d0.toNat)).setIfInBounds 63 (.int .u8 d1.toNat)) 170)) 88 9 5 ⟨w.heap.size,63,none⟩ 2 [d1,d0] Tryz.underlying88 Tryz.underlying5 Tryz.underlying9 (λ j hj=>by
    have:j=0∨j=1:=by simp at hj; omega
    rcases this with rfl | rfl
    ·rw [add_lit,Nat.add_zero,World.cell?_alloc_new]
     rfl
    ·rw [add_lit,World.cell?_alloc_new]
     rfl)
   rw [show [d1,d0].length=2 from rfl] at hcv
   rw [hcv]
   simp only [Result.andThen]
   rw [Oper.upon_value]
   go_wp2
   go_ret2
   subst hd he
   exact ⟨rfl,(Below.refl _ w).alloc (Nat.le_refl _) _⟩
end Go.Ab
set_option linter.unusedVariables false
namespace Go.Ab
open Go.Proofs Go.RowKit Go
def hexDigit (n:Nat):UInt8:=if n < 10 then UInt8.ofNat (48+n) else UInt8.ofNat (87+n)
theorem C2:∀ n:Fin 16,dig n.1 (Nat.lt_of_lt_of_le n.2 (by decide))=hexDigit n.1:=by decide
theorem sC (n:Nat)(h:n < 16)(h':n < 36):dig n h'=hexDigit n:=C2 ⟨n,h⟩
def dA (u:Nat):Bytes:=if u < 16 then [hexDigit u] else [hexDigit (u / 16),hexDigit (u % 16)]
theorem ES (u:Nat)(h1:u < 256)(w:World)(hT:w.cell? ⟨7,15,none⟩=some (.int .u8 4)) :
  Calls Tryz.prog 127 #[.slice none 0 0,.int .u64 u,.int .i64 16,.bool false,.bool false] w λ e w'=>e=.returned (.tuple #[.slice none 0 0,.string ⟨(dA u).toArray⟩])∧Below w.heap.size w w':=by
 by_cases h:u < 16
 ·have:=fb u (by omega) (by omega) w hT
  rwa [sC _ (by omega) _,Int.toNat_natCast,show [hexDigit u]=dA u from (if_pos h).symm] at this
 ·have:=fb2 u (by omega) h1 w hT
  rwa [sC (u / 16) (by omega) _,sC (u % 16) (by omega) _,show [hexDigit (u / 16),hexDigit (u % 16)]=dA u from (if_neg h).symm] at this
set_option maxHeartbeats 400000 in
set_option maxRecDepth 100000 in
theorem fint (u:Nat)(h1:u < 256)(w:World)(hT:w.cell? ⟨7,15,none⟩=some (.int .u8 4)) :
  Calls Tryz.prog 112 #[.int .i64 u,.int .i64 16] w λ e w'=>e=.returned (.string ⟨(dA u).toArray⟩)∧Below w.heap.size w w':=by
 have HC:Hid _:=ES u h1 w hT
 clear hT
 have hneg:decide ((u:Int) < 0)=false:=decide_eq_false (by omega)
 generalize dA u=tx at HC ⊢
 go_enter Tryz.func112,Tryz.ntmps112
 go_wp2_with (go_at_call 127; refine Calls.mono HC.out ?_; rintro e w' ⟨rfl,hB⟩)
 go_ret
 exact ⟨rfl,hB⟩
set_option maxHeartbeats 400000 in
set_option maxRecDepth 100000 in
theorem EW (u:Nat)(h1:u < 256)(w:World)(hT:w.cell? ⟨7,15,none⟩=some (.int .u8 4)) :
  Calls Tryz.prog 93 #[.int .i64 u,.int .i64 16] w λ e w'=>e=.returned (.string ⟨(dA u).toArray⟩)∧Below w.heap.size w w':=by
 have HC:Hid _:=fint u h1 w hT
 clear hT
 generalize dA u=tx at HC ⊢
 go_enter Tryz.func93,Tryz.ntmps93
 go_wp2_with (go_at_call 112; refine Calls.mono HC.out ?_; rintro e w' ⟨rfl,hB⟩)
 go_ret
 exact ⟨rfl,hB⟩
def gM (i b:Int):Option Bytes:=ck (b=16∧0≤i∧i < 256) <| some (dA i.toNat)
theorem n0 (i_0 base_1:Int)(r:Bytes)(h0:gM i_0 base_1=some r):aB Tryz.prog 93 [eI i_0,eI base_1] (·=.p (eS r)):=by
 obtain ⟨⟨rfl,h1,h2⟩,h3⟩:=ke h0
 cases h3
 obtain ⟨u,rfl⟩:∃ u:Nat,i_0=u:=⟨i_0.toNat,by omega⟩
 refine aB.of_calls (l:=[.int .i64 u,.int .i64 16]) λ w st hok=>(EW u (by omega) w (ny hok.gl rfl (by kernel_rfl))).mono ?_
 rintro e w' ⟨rfl,hB⟩
 exact ⟨_,rfl,hB,λ _=>.p (.val _)⟩
end Go.Ab
set_option linter.unusedVariables false
namespace Go.Ab
open Go.Proofs Go.RowKit Go
theorem Dv (n b0 b1 b2 b3:Nat)(hn:1≤n)(h0:b0 < 256):1≤(Lib.decodeN n b0 b1 b2 b3).2∧(Lib.decodeN n b0 b1 b2 b3).2≤n∧(Lib.decodeN n b0 b1 b2 b3).2≤4 ∧
  ((Lib.decodeN n b0 b1 b2 b3).1 < 128→(Lib.decodeN n b0 b1 b2 b3).2=1∧(Lib.decodeN n b0 b1 b2 b3).1=b0) ∧
  (128≤(Lib.decodeN n b0 b1 b2 b3).1→128≤b0∧(2≤(Lib.decodeN n b0 b1 b2 b3).2→128≤b1)∧(3≤(Lib.decodeN n b0 b1 b2 b3).2→128≤b2)∧(4≤(Lib.decodeN n b0 b1 b2 b3).2→128≤b3)) ∧
  ((Lib.decodeN n b0 b1 b2 b3).1 < 55296∨(57343 < (Lib.decodeN n b0 b1 b2 b3).1∧(Lib.decodeN n b0 b1 b2 b3).1≤1114111)):=by
 unfold Lib.decodeN
 repeat' split
 all_goals (refine ⟨by dsimp only; omega,by dsimp only; omega,by dsimp only; omega,λ h=>⟨by dsimp only at h ⊢; first | done | omega,by dsimp only at h ⊢; first | done | omega⟩,λ h=>⟨by dsimp only at h; omega,λ k=>by dsimp only at k; omega,λ k=>by dsimp only at k; omega,λ k=>by dsimp only at k; omega⟩,by dsimp only; omega⟩)
end Go.Ab
namespace Go.Ab
open Go.Proofs Go.RowKit Go
abbrev rW:ByteArray:={ data:=#[46,91] }
theorem C1 {P:Program}(w:World)(b:Nat)(s:ByteArray)(pos:Nat)(ty:TypeId)(h:pos < s.size)(hb:w.heap[b]? = some (.stringIter s pos)) :
  (Instr.next (.pointer (some ⟨b,0,none⟩)) true ty).run P w=.ok (.tuple #[.bool true,.int .i64 pos,.int .i32 (Utf8.decode s pos).1]) { w with heap:=w.heap.setIfInBounds b (.stringIter s (pos+(Utf8.decode s pos).2)) }:=by
 simp only [Instr.next,getObj,setObj,Sem.run_bind,Sem.run,hb,Result.andThen,h,if_true]
 simp [goInt,Sem.run,hb]
theorem Aj {P:Program}(w:World)(b:Nat)(s:ByteArray)(pos:Nat)(ty:TypeId)(h:¬ pos < s.size)(hb:w.heap[b]? = some (.stringIter s pos)) :
  (Instr.next (.pointer (some ⟨b,0,none⟩)) true ty).run P w=.ok (.tuple #[.bool false]) w:=by
 simp [Instr.next,getObj,Sem.run,hb,h]
theorem wL (s:ByteArray)(k:Nat)(h:k < s.size):s.data.toList[k]? = some (s.get! k):=by
 have:s.get! k=s[k]'h:=by
  simp [ByteArray.get!,getElem!_pos,h]
  rfl
 rw [this]; exact Lib.data_getElem? s k h
theorem Ad (s:ByteArray)(i:Nat)(h:i < s.size):∃ c k:Nat,Utf8.decode s i=(c,k)∧1≤k∧i+k≤s.size∧(c < 128→k=1∧∃ x:UInt8,s.data.toList[i]? = some x∧c=x.toNat) ∧
  (128≤c→∀ j b,i≤j→j < i+k→s.data.toList[j]? = some b→128≤b.toNat)∧(c < 55296∨(57343 < c∧c≤1114111)):=by
 refine ⟨(Utf8.decode s i).1,(Utf8.decode s i).2,rfl,?_⟩
 rw [Lib.decode_at]
 obtain ⟨h1,h2,h3,h4,h5,h6⟩:=Dv (s.size - i) (s.get! i).toNat (s.get! (i+1)).toNat (s.get! (i+2)).toNat (s.get! (i+3)).toNat (by omega) (UInt8.toNat_lt _)
 refine ⟨h1,by omega,λ q=>⟨(h4 q).1,s.get! i,wL s i h,(h4 q).2⟩,λ q j b a1 a2 hb=>?_,h6⟩
 obtain ⟨q0,q1,q2,q3⟩:=h5 q
 have hj:j < s.size:=by omega
 rw [wL s j hj] at hb
 cases hb
 obtain rfl | rfl | rfl | rfl:j=i∨j=i+1∨j=i+2∨j=i+3:=by omega
 ·exact q0
 ·exact q1 (by omega)
 ·exact q2 (by omega)
 ·exact q3 (by omega)
theorem zo (c:Nat)(h:128≤c)(hv:Lib.validRune c=true):(Utf8.encode (c:Int)=⟨#[UInt8.ofNat (0xC0+c / 64),UInt8.ofNat (0x80+c % 64)]⟩)∨((Utf8.encode (c:Int)).size=3∨(Utf8.encode (c:Int)).size=4):=by
 have hv2:Utf8.valid (c:Int)=true:=by
  simp only [Lib.validRune,decide_eq_true_eq] at hv
  simp only [Utf8.valid,Bool.or_eq_true,Bool.and_eq_true,decide_eq_true_eq]
  omega
 simp only [Utf8.encode,hv2,if_true,Int.toNat_natCast]
 rw [if_neg (by omega)]
 by_cases h1:c < 2048
 ·rw [if_pos h1]; exact .inl rfl
 ·rw [if_neg h1]
  by_cases h2:c < 65536
  ·rw [if_pos h2]; exact .inr (.inl rfl)
  ·rw [if_neg h2]; exact .inr (.inr rfl)
theorem E8 (c:Nat):(UInt8.ofNat (0x80+c % 64)).toNat≠91:=by
 rw [UInt8.toNat_ofNat']
 omega
theorem below_drewN' {B:Nat}{a w:World}(h:Below B a w)(n:Nat):Below B a (w.drewN n):=h.trans ⟨rfl,rfl,rfl,Nat.le_refl _,λ _ _=>rfl⟩
theorem D4 (c:Int)(w:World):Calls Tryz.prog 68 #[.string ByteArray.empty,.int .u8 c] w λ e w'=>e=.returned (.int .i64 (-1))∧w'=w:=Tryz.strings_IndexByte ByteArray.empty c w
set_option maxHeartbeats 1000000 in
set_option maxRecDepth 1000000 in
theorem D2 (s rs:ByteArray)(c:Nat)(h:128≤c)(hv:Lib.validRune c=true)(hne:c≠65533)(henc:Utf8.encode (c:Int)=rs)(hs:s.size=2)(hr:rs.size=2)
  (h1:(s[1]'(by omega))≠(rs[1]'(by omega))) (w:World) :
  Calls Tryz.prog 83 #[.string s,.int .i32 c] w λ e w'=>e=.returned (.int .i64 (-1))∧Below w.heap.size w w':=by
 have hlt:decide ((c:Int) < 128)=false:=decide_eq_false (by omega)
 have hne':((c:Int) == 65533)=false:=beq_eq_false_iff_ne.2 (by omega)
 have h0:decide ((0:Int)≤(c:Int))=true:=decide_eq_true (by omega)
 obtain ⟨x,hx⟩:∃ x,s[1]'(by omega)=x:=⟨_,rfl⟩
 obtain ⟨y,hy⟩:∃ y,rs[1]'(by omega)=y:=⟨_,rfl⟩
 rw [hx,hy] at h1
 have hsz:(s.size:Int)=2:=by omega
 have hrz:(rs.size:Int)=2:=by omega
 have hb:((x.toNat:Int) != (y.toNat:Int))=true:=by
  rw [bne_iff_ne]
  intro e
  exact h1 (UInt8.toNat_inj.1 (by omega))
 go_enter Tryz.func83,Tryz.ntmps83
 go_wp2_with (go_at_call 106; refine (Tryz.utf8_ValidRune _ _).mono ?_; rintro e w' ⟨rfl,hw⟩; rw [hw,hv])
 refine wp_scope_straight ?_
 go_wp2
 go_loopg [9] 0 (λ g v wx=>g=0∧v=.int .i64 1∧wx=w)
 case atStart=>exact ⟨rfl,by go_num,rfl⟩
 case round =>
  obtain ⟨rfl,rfl,rfl⟩:=hrel
  go_wp2
  refine wp_scope_straight ?_
  go_wp2
  go_big_quiet (fail)
  go_wp2
  go_big_quiet ((go_at_call 68; exact (D4 _ _).mono (λ _ _ h=>⟨h.1,_,h.2⟩)))
  go_wp2
  simp only [Exit.noGoto,Exit.inBlock,Exit.then]
  go_ret
  exact ⟨rfl,below_drewN' (Below.refl _ _) _⟩
set_option maxHeartbeats 1000000 in
set_option maxRecDepth 1000000 in
theorem Cq (s rs:ByteArray)(c:Nat)(h:128≤c)(hv:Lib.validRune c=true)(hne:c≠65533)(henc:Utf8.encode (c:Int)=rs)(hs:s.size=2)(hr:3≤rs.size)(hr4:rs.size≤4)(w:World) :
  Calls Tryz.prog 83 #[.string s,.int .i32 c] w λ e w'=>e=.returned (.int .i64 (-1))∧Below w.heap.size w w':=by
 have hlt:decide ((c:Int) < 128)=false:=decide_eq_false (by omega)
 have hne':((c:Int) == 65533)=false:=beq_eq_false_iff_ne.2 (by omega)
 have h0:decide ((0:Int)≤(c:Int))=true:=decide_eq_true (by omega)
 obtain ⟨i,hi⟩:∃ i:Nat,rs.size=i+1:=⟨rs.size - 1,by omega⟩
 have hsz:(s.size:Int)=2:=by omega
 have hrz:(rs.size:Int)=(i:Int)+1:=by omega
 have hlast:IntKind.i64.wrap ((i:Int)+1 - 1)=(i:Int):=by rw [wrap_small _ (by omega) (by omega)]; omega
 have hend:decide ((i:Int) < 2)=false:=decide_eq_false (by omega)
 go_enter Tryz.func83,Tryz.ntmps83
 go_wp2_with (go_at_call 106; refine (Tryz.utf8_ValidRune _ _).mono ?_; rintro e w' ⟨rfl,hw⟩; rw [hw,hv])
 refine wp_scope_straight ?_
 go_wp2
 go_loopg [9] 0 (λ g v wx=>g=0∧v=.int .i64 i∧wx=w)
 case atStart=>exact ⟨rfl,by first | rfl | (congr 1; omega),rfl⟩
 case round =>
  obtain ⟨rfl,rfl,rfl⟩:=hrel
  go_wp2
  simp only [Exit.noGoto,Exit.inBlock,Exit.then]
  go_ret
  exact ⟨rfl,Below.refl _ _⟩
set_option maxHeartbeats 1000000 in
set_option maxRecDepth 1000000 in
theorem D8 (w:World) :
  Calls Tryz.prog 83 #[.string rW,.int .i32 65533] w λ e w'=>e=.returned (.int .i64 (-1))∧Below w.heap.size w w':=by
 generalize hs:rW=s
 have hz:s.size=2:=by rw [← hs]; rfl
 have ha:∀ i (hi:i < s.size),(s[i]'hi).toNat < 128:=by
  subst hs
  intro i hi
  have:i=0∨i=1:=by have:i < 2:=hi; omega
  rcases this with rfl | rfl
  ·show (46:UInt8).toNat < 128; decide
  ·show (91:UInt8).toNat < 128; decide
 go_enter Tryz.func83,Tryz.ntmps83
 go_wp2
 go_loopg [5,6] 2 (λ g _ _ wx=>∃ i:Nat,i+g=2∧wx=w.iter s i)
 case atStart=>exact ⟨0,rfl,rfl⟩
 case round =>
  obtain ⟨i,hig,rfl⟩:=hrel
  cases gk with
  | zero =>
   obtain rfl:i=2:=by omega
   have hnx:=run_next_end (P:=Tryz.prog) w s 2
   rw [hz] at hnx
   go_wp2
   go_ret
   exact ⟨rfl,(Below.refl _ w).alloc (Nat.le_refl _) _⟩
  | succ g =>
   have hi:i < s.size:=by omega
   have hx128:=ha i hi
   have hnx:=λ ty=>run_next_ascii (P:=Tryz.prog) w s i ty hi hx128
   obtain ⟨x,hx⟩:∃ x:UInt8,s[i]'hi=x:=⟨_,rfl⟩
   rw [hx] at hnx hx128
   have hne:((x.toNat:Int) == 65533)=false:=beq_eq_false_iff_ne.2 (by omega)
   go_wp2
   go_roundg g
   case measure=>omega
   case rel=>exact ⟨i+1,by omega,rfl⟩
end Go.Ab
set_option linter.unusedVariables false
namespace Go.Ab
open Go.Proofs Go.RowKit Go
theorem Dg (c:Nat)(hv:c < 55296∨(57343 < c∧c≤1114111))(h:128≤c)(w:World) :
  Calls Tryz.prog 83 #[.string rW,.int .i32 c] w λ e w'=>e=.returned (.int .i64 (-1))∧Below w.heap.size w w':=by
 have hv1:Lib.validRune (c:Int)=true:=by
  simp only [Lib.validRune,decide_eq_true_eq]
  omega
 by_cases hne:c=65533
 ·subst hne; exact D8 w
 ·rcases zo c h hv1 with e | e
  ·refine D2 rW _ c h hv1 hne e rfl rfl ?_ w
   have h91:=E8 c
   intro q
   apply h91
   have q':(91:UInt8)=UInt8.ofNat (0x80+c % 64):=q
   rw [← q']
   rfl
  ·exact Cq rW _ c h hv1 hne rfl rfl (by omega) (by omega) w
theorem xB {s cs:List UInt8}{i k:Nat}(hcs:∀ b,cs.contains b=true→b.toNat < 128)(h:Lib.NoAny s cs i)(hk:∀ j b,i≤j→j < i+k→s[j]? = some b→128≤b.toNat):Lib.NoAny s cs (i+k):=λ j b hj hb=>by
 by_cases q:j < i
 ·exact h j b q hb
 ·cases hc:cs.contains b with
  | false=>rfl
  | true=>have:=hk j b (by omega) hj hb; have:=hcs b hc; omega
theorem zX {B:Nat}{a w:World}(h:Below B a w){b:Nat}(hb:B≤b)(o:Obj):Below B a { w with heap:=w.heap.setIfInBounds b o } :=
 h.trans ⟨rfl,rfl,rfl,by simp,λ k hk=>by
  show (w.heap.setIfInBounds b o)[k]? = _
  rw [Array.getElem?_setIfInBounds_ne (by omega)]⟩
set_option maxHeartbeats 8000000 in
set_option maxRecDepth 1000000 in
theorem s5 (s:ByteArray)(w:World)(h8:s.size≤8) :
  Calls Tryz.prog 63 #[.string s,.string rW] w λ e w'=>e=.returned (.int .i64 (Lib.indexAny s.data.toList [46,91]))∧Below w.heap.size w w':=by
 have hn1:((rW.size:Int) == 1)=false:=rfl
 have h8z:decide ((8:Int) < (s.size:Int))=false:=decide_eq_false (by omega)
 have hcs:∀ b,([46,91]:List UInt8).contains b=true→b.toNat < 128:=by
  intro b hb
  simp at hb
  rcases hb with rfl | rfl <;> decide
 have hemp:({ data:=#[46,91] }:ByteArray).toList.isEmpty=false:=by rw [Lib.toList_data]; rfl
 go_enter Tryz.func63,Tryz.ntmps63
 go_wp2_with (go_at_call 84; refine (Tryz.strings_shouldUseASCIISet _ _).mono ?_; rintro e w' ⟨rfl,hw⟩; rw [hw,h8z])
 go_loopg [9,10] s.size (λ g _ _ wx=>∃ i:Nat,i+g=s.size∧wx.heap[w.heap.size]? = some (.stringIter s i)∧Hid (Below w.heap.size w wx)∧Hid (Lib.NoAny s.data.toList [46,91] i))
 case atStart=>exact ⟨0,by omega,by simp [World.iter_heap],(Below.refl _ w).alloc (Nat.le_refl _) _,Lib.NoAny.zero _ _⟩
 case round =>
  obtain ⟨i,hig,hit,HB,HN⟩:=hrel
  cases gk with
  | zero =>
   obtain rfl:i=s.size:=by omega
   have hnx:=λ ty=>Aj (P:=Tryz.prog) wr w.heap.size s s.size ty (by omega) hit
   go_wp2
   go_ret
   exact ⟨by rw [Lib.indexAny_none (by rw [← Lib.size_eq]; exact HN.out)]; rfl,HB.out⟩
  | succ g =>
   have hi:i < s.size:=by omega
   obtain ⟨c,k,hd,hk1,hk2,hlow,hhigh,hval⟩:=Ad s i hi
   have hnx:=λ ty=>C1 (P:=Tryz.prog) wr w.heap.size s i ty hi hit
   rw [hd] at hnx
   have hlt:w.heap.size < wr.heap.size:=by
    rcases Nat.lt_or_ge w.heap.size wr.heap.size with h | h
    ·exact h
    ·rw [Array.getElem?_eq_none h] at hit; cases hit
   obtain ⟨W1,hW1⟩:∃ W1,({ wr with heap:=wr.heap.setIfInBounds w.heap.size (.stringIter s (i+k)) }:World)=W1:=⟨_,rfl⟩
   have HI:Hid (W1.heap[w.heap.size]? = some (.stringIter s (i+k))):=by
    rw [← hW1]
    show (wr.heap.setIfInBounds w.heap.size (.stringIter s (i+k)))[w.heap.size]? = _
    rw [Array.getElem?_setIfInBounds_self_of_lt hlt]
   have HL:Hid (w.heap.size < W1.heap.size):=by
    rw [← hW1]; show w.heap.size < (wr.heap.setIfInBounds _ _).size; simp; exact hlt
   have HB1:Hid (Below w.heap.size w W1):=by rw [← hW1]; exact zX HB.out (Nat.le_refl _) _
   have Hk:Hid (∃ g',i+k+g'=s.size∧g'≤g):=⟨s.size - (i+k),by omega,by omega⟩
   simp only [hW1] at hnx
   clear hW1 hit HB hd
   by_cases h128:c < 128
   ·obtain ⟨rfl,x,hx,rfl⟩:=hlow h128
    have Hx:Hid (s.data.toList[i]? = some x):=hx
    have HR:Hid _:=Tryz.strings_IndexRune_ascii rW (x.toNat:Int) W1 (by omega) (by omega)
    have hback:((x.toNat:Int)).toNat.toUInt8=x:=by simp
    rw [hback] at HR
    have hcon:=Lib.contains_iff_indexByte [46,91] x
    rw [show rW.data.toList=[46,91] from rfl] at HR
    clear hx hlow hhigh hval hback
    cases hin:([46,91]:List UInt8).contains x
    ·rw [hin] at hcon
     generalize Lib.indexByte [46,91] x=v at HR hcon
     have hlt:decide ((0:Int)≤v)=false:=hcon.symm
     clear hcon
     go_wp2_with (go_at_call 83; refine Calls.mono HR.out ?_; rintro e w' ⟨rfl,hw'⟩; rw [hw'])
     go_roundg g
     case measure=>omega
     case rel=>exact ⟨i+1,by omega,HI.out,HB1,HN.out.succ Hx.out hin⟩
    ·rw [hin] at hcon
     generalize Lib.indexByte [46,91] x=v at HR hcon
     have hge:decide ((0:Int)≤v)=true:=hcon.symm
     clear hcon
     go_wp2_with (go_at_call 83; refine Calls.mono HR.out ?_; rintro e w' ⟨rfl,hw'⟩; rw [hw'])
     go_ret
     exact ⟨by rw [Lib.indexAny_hit HN.out Hx.out hin]; rfl,HB1.out⟩
   ·have HR:Hid _:=Dg c hval (by omega) W1
    have HN2:Hid _:=xB hcs HN.out (hhigh (by omega))
    clear hlow hhigh hval
    go_wp2_with (go_at_call 83; refine Calls.mono HR.out ?_; rintro e w' ⟨rfl,hB'⟩)
    have h1:w'.heap[w.heap.size]? = some (.stringIter s (i+k)):=(hB'.block _ HL.out).trans HI.out
    obtain ⟨g',hg',hg''⟩:=Hk.out
    go_roundg g'
    case measure=>omega
    case rel=>exact ⟨i+k,hg',h1,HB1.out.trans (hB'.mono HB1.out.size),HN2⟩
theorem zF:Tryz.zeroCells123=Array.replicate 256 (.bool false):=by kernel_rfl
theorem Az (w:World):(zeroValue 123).run Tryz.prog w=.ok (.agg (Array.replicate 256 (.bool false))) w:=by
 rw [← zF]; exact Tryz.zeroValue123 w
theorem xg (j:Nat)(b:UInt8)(h:rW.data.toList[j]? = some b):b.toNat < 128:=by
 match j,h with
 | 0,h=>cases h; decide
 | 1,h=>cases h; decide
 | n+2,h=>cases h
def strings_IndexAny (s cs:Bytes):Option Int:=ck (cs=[46,91]∧s.length < 4294967281) <| some (Lib.indexAny s cs)
theorem oW (s_0 chars_1:Bytes)(r:Int)(h0:strings_IndexAny s_0 chars_1=some r):aB Tryz.prog 63 [eS s_0,eS chars_1] (·=.p (eI r)):=by
 obtain ⟨⟨rfl,hl⟩,h1⟩:=ke h0
 cases h1
 refine aB.of_calls (l:=[.string (str s_0),.string rW]) λ w st hok=>?_
 have hz:(str s_0).size=s_0.length:=gR _
 by_cases h8:(str s_0).size≤8
 ·refine (s5 (str s_0) w h8).mono ?_
  rintro e w' ⟨rfl,hB⟩
  rw [gA]
  exact ⟨_,rfl,hB,λ _=>.p (.val _)⟩
 ·refine (Tryz.strings_IndexAny_long Az (str s_0) rW w (by decide) (by omega) (by omega) (by decide) xg).mono ?_
  rintro e w' ⟨rfl,rfl⟩
  rw [gA]
  exact ⟨_,rfl,((Below.refl _ w).alloc (Nat.le_refl _) _).alloc (by show w.heap.size≤(w.heap.push _).size; simp) _,λ _=>.p (.val _)⟩
end Go.Ab
set_option linter.unusedVariables false
namespace Go.Ab
open Go.Proofs Go.Ab
attribute [local irreducible] awp gO aY aB cD iH AV.sub
set_option maxHeartbeats 4000000 in
theorem fR (l:List ae)(h:l.isEmpty=true):aB Tryz.prog 57 [eL aj l] (·=.p (eL aj [])):=by
 obtain rfl:l=[]:=by simpa using h
 refine aU good Tryz.func57 rfl rfl rfl λ w0=>?_
 refine d4 ?_
 refine eR ?_
 refine b9 rfl ?_
 refine cv rfl rfl rfl rfl ?_
 refine ec ?_
 (repeat (first | refine bh ?_ | refine bC ?_ | refine cC ?_ | refine bw rfl ?_ | refine cy ?_ | refine bc ?_ | refine bg ?_ | refine aP ?_ | refine aX ?_ | refine aT rfl ?_ | refine noGoto_ret ?_ | refine noGoto_exit ?_ | refine noGoto_normal ?_))
 refine d4 ?_
 refine d4 ?_
 refine eR ?_
 refine b9 rfl ?_
 refine bs rfl rfl rfl rfl ?_
 refine b9 rfl ?_
 refine nG rfl rfl rfl rfl rfl rfl rfl rfl (λ b hb=>?_)
 refine ec ?_
 (repeat (first | refine bh ?_ | refine bC ?_ | refine cC ?_ | refine bw rfl ?_ | refine cy ?_ | refine bc ?_ | refine bg ?_ | refine aP ?_ | refine aX ?_ | refine aT rfl ?_ | refine noGoto_ret ?_ | refine noGoto_exit ?_ | refine noGoto_normal ?_))
 refine wT rfl (λ hc=>?_) (λ hc=>?_)
 ·skip
  refine d4 ?_
  refine eR ?_
  refine b9 rfl ?_
  refine cv rfl rfl rfl rfl ?_
  refine ec ?_
  (repeat (first | refine bh ?_ | refine bC ?_ | refine cC ?_ | refine bw rfl ?_ | refine cy ?_ | refine bc ?_ | refine bg ?_ | refine aP ?_ | refine aX ?_ | refine aT rfl ?_ | refine noGoto_ret ?_ | refine noGoto_exit ?_ | refine noGoto_normal ?_))
  refine ko ?_
  (repeat (first | refine bh ?_ | refine bC ?_ | refine cC ?_ | refine bw rfl ?_ | refine cy ?_ | refine bc ?_ | refine bg ?_ | refine aP ?_ | refine aX ?_ | refine aT rfl ?_ | refine noGoto_ret ?_ | refine noGoto_exit ?_ | refine noGoto_normal ?_))
  refine mW rfl ?_
  exact tF _
 ·skip
  refine lV ?_
  (repeat (first | refine bh ?_ | refine bC ?_ | refine cC ?_ | refine bw rfl ?_ | refine cy ?_ | refine bc ?_ | refine bg ?_ | refine aP ?_ | refine aX ?_ | refine aT rfl ?_ | refine noGoto_ret ?_ | refine noGoto_exit ?_ | refine noGoto_normal ?_))
  refine d4 ?_
  refine eR ?_
  refine b9 rfl ?_
  refine tG rfl rfl rfl rfl rfl rfl rfl 5 4 ?_
  refine b9 rfl ?_
  refine bs rfl rfl rfl rfl ?_
  refine b9 rfl ?_
  refine fp aj [] [] rfl rfl rfl rfl rfl rfl rfl rfl rfl rfl rfl rfl rfl (λ x=>congrArg List.length (ae.cells_eq x)) rfl rfl rfl rfl (by decide) ?_
  refine b9 rfl ?_
  refine cv rfl rfl rfl rfl ?_
  refine ec ?_
  (repeat (first | refine bh ?_ | refine bC ?_ | refine cC ?_ | refine bw rfl ?_ | refine cy ?_ | refine bc ?_ | refine bg ?_ | refine aP ?_ | refine aX ?_ | refine aT rfl ?_ | refine noGoto_ret ?_ | refine noGoto_exit ?_ | refine noGoto_normal ?_))
  refine ko ?_
  (repeat (first | refine bh ?_ | refine bC ?_ | refine cC ?_ | refine bw rfl ?_ | refine cy ?_ | refine bc ?_ | refine bg ?_ | refine aP ?_ | refine aX ?_ | refine aT rfl ?_ | refine noGoto_ret ?_ | refine noGoto_exit ?_ | refine noGoto_normal ?_))
  refine mW rfl ?_
  exact AV.sub_vec _ _ _ _
set_option maxHeartbeats 4000000 in
theorem fS (l:List ae)(h:l.isEmpty=false)(hlen:l.length*48≤140737488355328):cD Tryz.prog 57 [.p (eL aj l)] [] (λ x y=>x=.arr 2000000 4 0 l.length∧y=[(2000000,ik aj l)]):=by
 refine jk good [800000] [800000] Tryz.func57 rfl rfl rfl rfl rfl λ w0 F=>?_
 refine d4 ?_
 refine eR ?_
 refine b9 rfl ?_
 refine cv rfl rfl rfl rfl ?_
 refine ec ?_
 (repeat (first | refine bh ?_ | refine bC ?_ | refine cC ?_ | refine bw rfl ?_ | refine cy ?_ | refine bc ?_ | refine bg ?_ | refine aP ?_ | refine aX ?_ | refine aT rfl ?_ | refine noGoto_ret ?_ | refine noGoto_exit ?_ | refine noGoto_normal ?_))
 refine d4 ?_
 refine d4 ?_
 refine eR ?_
 refine b9 rfl ?_
 refine bs rfl rfl rfl rfl ?_
 refine b9 rfl ?_
 refine nG rfl rfl rfl rfl rfl rfl rfl rfl (λ b hb=>?_)
 refine ec ?_
 (repeat (first | refine bh ?_ | refine bC ?_ | refine cC ?_ | refine bw rfl ?_ | refine cy ?_ | refine bc ?_ | refine bg ?_ | refine aP ?_ | refine aX ?_ | refine aT rfl ?_ | refine noGoto_ret ?_ | refine noGoto_exit ?_ | refine noGoto_normal ?_))
 refine wT rfl (λ hc=>?_) (λ hc=>?_)
 ·have he:l=[]:=by simpa using hb hc
  subst he
  cases h
 ·skip
  refine lV ?_
  (repeat (first | refine bh ?_ | refine bC ?_ | refine cC ?_ | refine bw rfl ?_ | refine cy ?_ | refine bc ?_ | refine bg ?_ | refine aP ?_ | refine aX ?_ | refine aT rfl ?_ | refine noGoto_ret ?_ | refine noGoto_exit ?_ | refine noGoto_normal ?_))
  refine d4 ?_
  refine eR ?_
  refine b9 rfl ?_
  refine uA rfl rfl rfl rfl rfl rfl 4 ?_
  refine b9 rfl ?_
  refine bs rfl rfl rfl rfl ?_
  refine b9 rfl ?_
  refine yi aj [] l rfl rfl rfl rfl rfl rfl rfl rfl rfl rfl rfl rfl rfl rfl rfl (λ x=>congrArg List.length (ae.cells_eq x)) rfl rfl rfl (by simpa using hlen) ?_
  refine b9 rfl ?_
  refine cv rfl rfl rfl rfl ?_
  refine ec ?_
  (repeat (first | refine bh ?_ | refine bC ?_ | refine cC ?_ | refine bw rfl ?_ | refine cy ?_ | refine bc ?_ | refine bg ?_ | refine aP ?_ | refine aX ?_ | refine aT rfl ?_ | refine noGoto_ret ?_ | refine noGoto_exit ?_ | refine noGoto_normal ?_))
  refine ko ?_
  (repeat (first | refine bh ?_ | refine bC ?_ | refine cC ?_ | refine bw rfl ?_ | refine cy ?_ | refine bc ?_ | refine bg ?_ | refine aP ?_ | refine aX ?_ | refine aT rfl ?_ | refine noGoto_ret ?_ | refine noGoto_exit ?_ | refine noGoto_normal ?_))
  exact vp (cn 7 800000 rfl rfl rfl rfl (ia rfl (hG _) rfl)) rfl rfl rfl (ia rfl (hG _) rfl) (AV.sub_of_eq (congrArg (AV.arr 2000000 4 0) (by simp))) ⟨⟨_,rfl,aG _⟩,trivial⟩
end Go.Ab
end
section
set_option linter.unusedSimpArgs false
set_option linter.unnecessarySimpa false
set_option linter.unusedVariables false
namespace Go.Ab
open Go.Proofs Go.RowKit
end Go.Ab
end
section
set_option linter.unusedSimpArgs false
set_option linter.unnecessarySimpa false
set_option linter.unusedVariables false
namespace Go.Ab
open Go.Proofs Go.Ab
attribute [local irreducible] awp gO aY aB cD iH AV.sub
set_option maxHeartbeats 4000000 in
theorem cE (l:List Bytes)(hlen:l.length*16≤140737488355328):aB Tryz.prog 32 [eL eS l] (·=.p (eL eS l)):=by
 refine aU good Tryz.func32 rfl rfl rfl λ w0=>?_
 refine d4 ?_
 refine eR ?_
 refine b9 rfl ?_
 refine cv rfl rfl rfl rfl ?_
 refine ec ?_
 (repeat (first | refine bh ?_ | refine bC ?_ | refine cC ?_ | refine bw rfl ?_ | refine cy ?_ | refine bc ?_ | refine bg ?_ | refine aP ?_ | refine aX ?_ | refine aT rfl ?_ | refine noGoto_ret ?_ | refine noGoto_exit ?_ | refine noGoto_normal ?_))
 refine d4 ?_
 refine d4 ?_
 refine eR ?_
 refine b9 rfl ?_
 refine bs rfl rfl rfl rfl ?_
 refine b9 rfl ?_
 refine nG rfl rfl rfl rfl rfl rfl rfl rfl (λ b hb=>?_)
 refine ec ?_
 (repeat (first | refine bh ?_ | refine bC ?_ | refine cC ?_ | refine bw rfl ?_ | refine cy ?_ | refine bc ?_ | refine bg ?_ | refine aP ?_ | refine aX ?_ | refine aT rfl ?_ | refine noGoto_ret ?_ | refine noGoto_exit ?_ | refine noGoto_normal ?_))
 refine wT rfl (λ hc=>?_) (λ hc=>?_)
 ·have he:l=[]:=by simpa using hb hc
  subst he
  refine d4 ?_
  refine eR ?_
  refine b9 rfl ?_
  refine cv rfl rfl rfl rfl ?_
  refine ec ?_
  (repeat (first | refine bh ?_ | refine bC ?_ | refine cC ?_ | refine bw rfl ?_ | refine cy ?_ | refine bc ?_ | refine bg ?_ | refine aP ?_ | refine aX ?_ | refine aT rfl ?_ | refine noGoto_ret ?_ | refine noGoto_exit ?_ | refine noGoto_normal ?_))
  refine ko ?_
  (repeat (first | refine bh ?_ | refine bC ?_ | refine cC ?_ | refine bw rfl ?_ | refine cy ?_ | refine bc ?_ | refine bg ?_ | refine aP ?_ | refine aX ?_ | refine aT rfl ?_ | refine noGoto_ret ?_ | refine noGoto_exit ?_ | refine noGoto_normal ?_))
  refine mW rfl ?_
  exact tF _
 ·skip
  refine lV ?_
  (repeat (first | refine bh ?_ | refine bC ?_ | refine cC ?_ | refine bw rfl ?_ | refine cy ?_ | refine bc ?_ | refine bg ?_ | refine aP ?_ | refine aX ?_ | refine aT rfl ?_ | refine noGoto_ret ?_ | refine noGoto_exit ?_ | refine noGoto_normal ?_))
  refine d4 ?_
  refine eR ?_
  refine b9 rfl ?_
  refine tG rfl rfl rfl rfl rfl rfl rfl 5 1 ?_
  refine b9 rfl ?_
  refine bs rfl rfl rfl rfl ?_
  refine b9 rfl ?_
  refine fp eS [] l rfl rfl rfl rfl rfl rfl rfl rfl rfl rfl rfl rfl rfl (λ _=>rfl) rfl rfl rfl rfl (by simpa using hlen) ?_
  refine b9 rfl ?_
  refine cv rfl rfl rfl rfl ?_
  refine ec ?_
  (repeat (first | refine bh ?_ | refine bC ?_ | refine cC ?_ | refine bw rfl ?_ | refine cy ?_ | refine bc ?_ | refine bg ?_ | refine aP ?_ | refine aX ?_ | refine aT rfl ?_ | refine noGoto_ret ?_ | refine noGoto_exit ?_ | refine noGoto_normal ?_))
  refine ko ?_
  (repeat (first | refine bh ?_ | refine bC ?_ | refine cC ?_ | refine bw rfl ?_ | refine cy ?_ | refine bc ?_ | refine bg ?_ | refine aP ?_ | refine aX ?_ | refine aT rfl ?_ | refine noGoto_ret ?_ | refine noGoto_exit ?_ | refine noGoto_normal ?_))
  refine mW rfl ?_
  exact AV.sub_vec _ _ _ _
set_option maxHeartbeats 4000000 in
theorem ij (l:List ah)(h:l.isEmpty=true):aB Tryz.prog 39 [eL aQ l] (·=.p (eL aQ [])):=by
 obtain rfl:l=[]:=by simpa using h
 refine aU good Tryz.func39 rfl rfl rfl λ w0=>?_
 refine d4 ?_
 refine eR ?_
 refine b9 rfl ?_
 refine cv rfl rfl rfl rfl ?_
 refine ec ?_
 (repeat (first | refine bh ?_ | refine bC ?_ | refine cC ?_ | refine bw rfl ?_ | refine cy ?_ | refine bc ?_ | refine bg ?_ | refine aP ?_ | refine aX ?_ | refine aT rfl ?_ | refine noGoto_ret ?_ | refine noGoto_exit ?_ | refine noGoto_normal ?_))
 refine d4 ?_
 refine d4 ?_
 refine eR ?_
 refine b9 rfl ?_
 refine bs rfl rfl rfl rfl ?_
 refine b9 rfl ?_
 refine nG rfl rfl rfl rfl rfl rfl rfl rfl (λ b hb=>?_)
 refine ec ?_
 (repeat (first | refine bh ?_ | refine bC ?_ | refine cC ?_ | refine bw rfl ?_ | refine cy ?_ | refine bc ?_ | refine bg ?_ | refine aP ?_ | refine aX ?_ | refine aT rfl ?_ | refine noGoto_ret ?_ | refine noGoto_exit ?_ | refine noGoto_normal ?_))
 refine wT rfl (λ hc=>?_) (λ hc=>?_)
 ·skip
  refine d4 ?_
  refine eR ?_
  refine b9 rfl ?_
  refine cv rfl rfl rfl rfl ?_
  refine ec ?_
  (repeat (first | refine bh ?_ | refine bC ?_ | refine cC ?_ | refine bw rfl ?_ | refine cy ?_ | refine bc ?_ | refine bg ?_ | refine aP ?_ | refine aX ?_ | refine aT rfl ?_ | refine noGoto_ret ?_ | refine noGoto_exit ?_ | refine noGoto_normal ?_))
  refine ko ?_
  (repeat (first | refine bh ?_ | refine bC ?_ | refine cC ?_ | refine bw rfl ?_ | refine cy ?_ | refine bc ?_ | refine bg ?_ | refine aP ?_ | refine aX ?_ | refine aT rfl ?_ | refine noGoto_ret ?_ | refine noGoto_exit ?_ | refine noGoto_normal ?_))
  refine mW rfl ?_
  exact tF _
 ·skip
  refine lV ?_
  (repeat (first | refine bh ?_ | refine bC ?_ | refine cC ?_ | refine bw rfl ?_ | refine cy ?_ | refine bc ?_ | refine bg ?_ | refine aP ?_ | refine aX ?_ | refine aT rfl ?_ | refine noGoto_ret ?_ | refine noGoto_exit ?_ | refine noGoto_normal ?_))
  refine d4 ?_
  refine eR ?_
  refine b9 rfl ?_
  refine tG rfl rfl rfl rfl rfl rfl rfl 5 5 ?_
  refine b9 rfl ?_
  refine bs rfl rfl rfl rfl ?_
  refine b9 rfl ?_
  refine fp aQ [] [] rfl rfl rfl rfl rfl rfl rfl rfl rfl rfl rfl rfl rfl (λ x=>congrArg List.length (ah.cells_eq x)) rfl rfl rfl rfl (by decide) ?_
  refine b9 rfl ?_
  refine cv rfl rfl rfl rfl ?_
  refine ec ?_
  (repeat (first | refine bh ?_ | refine bC ?_ | refine cC ?_ | refine bw rfl ?_ | refine cy ?_ | refine bc ?_ | refine bg ?_ | refine aP ?_ | refine aX ?_ | refine aT rfl ?_ | refine noGoto_ret ?_ | refine noGoto_exit ?_ | refine noGoto_normal ?_))
  refine ko ?_
  (repeat (first | refine bh ?_ | refine bC ?_ | refine cC ?_ | refine bw rfl ?_ | refine cy ?_ | refine bc ?_ | refine bg ?_ | refine aP ?_ | refine aX ?_ | refine aT rfl ?_ | refine noGoto_ret ?_ | refine noGoto_exit ?_ | refine noGoto_normal ?_))
  refine mW rfl ?_
  exact AV.sub_vec _ _ _ _
set_option maxHeartbeats 4000000 in
theorem ig (l:List ah)(h:l.isEmpty=false)(hlen:l.length*80≤140737488355328):cD Tryz.prog 39 [.p (eL aQ l)] [] (λ x y=>x=.arr 2000000 5 0 l.length∧y=[(2000000,ik aQ l)]):=by
 refine jk good [800000] [800000] Tryz.func39 rfl rfl rfl rfl rfl λ w0 F=>?_
 refine d4 ?_
 refine eR ?_
 refine b9 rfl ?_
 refine cv rfl rfl rfl rfl ?_
 refine ec ?_
 (repeat (first | refine bh ?_ | refine bC ?_ | refine cC ?_ | refine bw rfl ?_ | refine cy ?_ | refine bc ?_ | refine bg ?_ | refine aP ?_ | refine aX ?_ | refine aT rfl ?_ | refine noGoto_ret ?_ | refine noGoto_exit ?_ | refine noGoto_normal ?_))
 refine d4 ?_
 refine d4 ?_
 refine eR ?_
 refine b9 rfl ?_
 refine bs rfl rfl rfl rfl ?_
 refine b9 rfl ?_
 refine nG rfl rfl rfl rfl rfl rfl rfl rfl (λ b hb=>?_)
 refine ec ?_
 (repeat (first | refine bh ?_ | refine bC ?_ | refine cC ?_ | refine bw rfl ?_ | refine cy ?_ | refine bc ?_ | refine bg ?_ | refine aP ?_ | refine aX ?_ | refine aT rfl ?_ | refine noGoto_ret ?_ | refine noGoto_exit ?_ | refine noGoto_normal ?_))
 refine wT rfl (λ hc=>?_) (λ hc=>?_)
 ·have he:l=[]:=by simpa using hb hc
  subst he
  cases h
 ·skip
  refine lV ?_
  (repeat (first | refine bh ?_ | refine bC ?_ | refine cC ?_ | refine bw rfl ?_ | refine cy ?_ | refine bc ?_ | refine bg ?_ | refine aP ?_ | refine aX ?_ | refine aT rfl ?_ | refine noGoto_ret ?_ | refine noGoto_exit ?_ | refine noGoto_normal ?_))
  refine d4 ?_
  refine eR ?_
  refine b9 rfl ?_
  refine uA rfl rfl rfl rfl rfl rfl 5 ?_
  refine b9 rfl ?_
  refine bs rfl rfl rfl rfl ?_
  refine b9 rfl ?_
  refine yi aQ [] l rfl rfl rfl rfl rfl rfl rfl rfl rfl rfl rfl rfl rfl rfl rfl (λ x=>congrArg List.length (ah.cells_eq x)) rfl rfl rfl (by simpa using hlen) ?_
  refine b9 rfl ?_
  refine cv rfl rfl rfl rfl ?_
  refine ec ?_
  (repeat (first | refine bh ?_ | refine bC ?_ | refine cC ?_ | refine bw rfl ?_ | refine cy ?_ | refine bc ?_ | refine bg ?_ | refine aP ?_ | refine aX ?_ | refine aT rfl ?_ | refine noGoto_ret ?_ | refine noGoto_exit ?_ | refine noGoto_normal ?_))
  refine ko ?_
  (repeat (first | refine bh ?_ | refine bC ?_ | refine cC ?_ | refine bw rfl ?_ | refine cy ?_ | refine bc ?_ | refine bg ?_ | refine aP ?_ | refine aX ?_ | refine aT rfl ?_ | refine noGoto_ret ?_ | refine noGoto_exit ?_ | refine noGoto_normal ?_))
  exact vp (cn 7 800000 rfl rfl rfl rfl (ia rfl (hG _) rfl)) rfl rfl rfl (ia rfl (hG _) rfl) (AV.sub_of_eq (congrArg (AV.arr 2000000 5 0) (by simp))) ⟨⟨_,rfl,aG _⟩,trivial⟩
end Go.Ab
end
section
set_option linter.unusedVariables false
set_option linter.unusedSimpArgs false
set_option linter.unnecessarySimpa false
namespace Go.Ab
open Go.MapKept
section
variable {α:Type}
def dC:List (Bytes×α)→Bytes→Option α
 | [],_=>none
 | (j,v)::r,k=>if j=k then some v else dC r k
def mH:List (Bytes×α)→Bytes→α→List (Bytes×α)
 | [],k,v=>[(k,v)]
 | (j,u)::r,k,v=>if j=k then (k,v)::r else (j,u)::mH r k v
theorem tU:∀ {l:List (Bytes×α)} {i:Nat} {k:Bytes} {v:α},(l.map Prod.fst).Nodup→l[i]? = some (k,v)→dC l k=some v
 | [],i,k,v,_,h=>by simp at h
 | (j,u)::r,0,k,v,_,h=>by
  simp only [List.getElem?_cons_zero,Option.some.injEq,Prod.mk.injEq] at h
  obtain ⟨rfl,rfl⟩:=h
  simp [dC]
 | (j,u)::r,i+1,k,v,hd,h=>by
  simp only [List.map_cons,List.nodup_cons] at hd
  simp only [List.getElem?_cons_succ] at h
  have hne:j≠k:=λ e=>hd.1 (by rw [e]; exact List.mem_map.2 ⟨_,List.mem_of_getElem? h,rfl⟩)
  simp only [dC,if_neg hne]
  exact tU hd.2 h
theorem pz:∀ {l:List (Bytes×α)} {k:Bytes},(∀ p∈l,p.1≠k)→dC l k=none
 | [],_,_=>rfl
 | (j,u)::r,k,h=>by
  simp only [dC,if_neg (h (j,u) (by simp))]
  exact pz λ p hp=>h p (List.mem_cons_of_mem _ hp)
theorem og:∀ {l:List (Bytes×α)} {k:Bytes} {v:α},(∀ p∈l,p.1≠k)→mH l k v=l++[(k,v)]
 | [],_,_,_=>rfl
 | (j,u)::r,k,v,h=>by
  simp only [mH,if_neg (h (j,u) (by simp)),List.cons_append]
  rw [og λ p hp=>h p (List.mem_cons_of_mem _ hp)]
theorem qk:∀ {l:List (Bytes×α)} {i:Nat} {k:Bytes} {u v:α},(l.map Prod.fst).Nodup→l[i]? = some (k,u)→mH l k v=l.set i (k,v)
 | [],i,k,u,v,_,h=>by simp at h
 | (j,x)::r,0,k,u,v,_,h=>by
  simp only [List.getElem?_cons_zero,Option.some.injEq,Prod.mk.injEq] at h
  obtain ⟨rfl,rfl⟩:=h
  simp [mH]
 | (j,x)::r,i+1,k,u,v,hd,h=>by
  simp only [List.map_cons,List.nodup_cons] at hd
  simp only [List.getElem?_cons_succ] at h
  have hne:j≠k:=λ e=>hd.1 (by rw [e]; exact List.mem_map.2 ⟨_,List.mem_of_getElem? h,rfl⟩)
  simp only [mH,if_neg hne,List.set_cons_succ]
  rw [qk hd.2 h]
theorem xx {l:List (Bytes×α)}{k:Bytes}{v:α}(hd:(l.map Prod.fst).Nodup):((mH l k v).map Prod.fst).Nodup:=by
 by_cases h:∀ p∈l,p.1≠k
 ·rw [og h,List.map_append,List.nodup_append]
  refine ⟨hd,by simp,λ a ha b hb e=>?_⟩
  simp only [List.map_cons,List.map_nil,List.mem_singleton] at hb
  subst hb
  obtain ⟨p,hp,hq⟩:=List.mem_map.1 ha
  exact h p hp (hq.trans e)
 ·obtain ⟨p,hp,hk⟩:∃ p∈l,p.1=k:=by
   refine Classical.byContradiction λ q=>h λ p hp e=>q ⟨p,hp,e⟩
  obtain ⟨i,hi⟩:=List.mem_iff_getElem?.1 hp
  obtain ⟨j,u⟩:=p
  have hk:j=k:=hk
  subst hk
  rw [qk hd hi]
  have:(l.set i (j,v)).map Prod.fst=l.map Prod.fst:=by
   rw [List.map_set]
   apply List.ext_getElem?
   intro q
   rw [List.getElem?_set]
   by_cases e:i=q
   ·subst e
    have:i < l.length:=(List.getElem?_eq_some_iff.1 hi).1
    rw [if_pos rfl]
    simp only [List.length_map,this,if_true,List.getElem?_map,hi]
    rfl
   ·rw [if_neg e]
  rw [this]; exact hd
theorem qE {β:Type}(f:α→β):∀ (l:List (Bytes×α)) (k:Bytes),dC (l.map λ p=>(p.1,f p.2)) k=(dC l k).map f
 | [],_=>rfl
 | (j,v)::r,k=>by
  simp only [List.map_cons,dC]
  split
  ·rfl
  ·exact qE f r k
theorem wM {β:Type}(f:α→β):∀ (l:List (Bytes×α)) (k:Bytes) (v:α),mH (l.map λ p=>(p.1,f p.2)) k (f v)=(mH l k v).map λ p=>(p.1,f p.2)
 | [],_,_=>rfl
 | (j,u)::r,k,v=>by
  simp only [List.map_cons,mH]
  split
  ·rfl
  ·rw [wM f r k v]; rfl
end
theorem CQ {a b:Bytes}(h:(Value.string ⟨a.toArray⟩)=.string ⟨b.toArray⟩):a=b:=by
 simpa using h
theorem tS {u:TypeDesc}{k e:Nat}(h:kindOf u=.map k e):u=.map k e:=by
 cases u <;> simp [kindOf] at h
 obtain ⟨rfl,rfl⟩:=h; rfl
section
variable {C:Cx} {o:Oper} {K:AS→Prop} {sl:List (Nat×AV)} {ob:List (Nat×List AV)} {d:Nat}
theorem DZ {d:Nat}(hd:d < M1):∀ i,Nat.beq i d=true→i < M1:=λ i hi=>by have:=Nat.eq_of_beq_eq_true hi; omega
theorem wt {y:AV}{sl':List (Nat×AV)}{ob':List (Nat×List AV)}(hd:o.dst=some d)(hn:Nat.blt d C.n=true)
  (hrun:∀ g a w,St C.n C.w0 C.F g ⟨sl,ob⟩ a w→(execOp a.eval o).run C.P w=.ok (.value (.map (some w.heap.size))) (w.alloc (.map #[] 0)))
  (hy:∀ (w:World) (g:Gh) (b:Nat),g.ow d=some b→w.heap[b]? = some (.map #[] 0)→ARep w g y (.map (some b)))
  (h1:dmS (Nat.beq · d) sl=some sl') (h2:dmO (Nat.beq · d) ob=some ob') (hK:K ⟨(d,y)::sl',ob'⟩):aY C o K ⟨sl,ob⟩:=by
 intro g a w hs
 have hdl:d < M1:=by have h1:=Nat.le_of_ble_eq_true C.nl; have h2:d < C.n:=Nat.blt_eq ▸ hn; omega
 unfold Oper.wp
 rw [hrun g a w hs]
 have hev:Ev w g.st (w.alloc (.map #[] 0)) g.st:=λ b o h=>⟨h,World.cell?_alloc_lt w _ _ (hs.lt b o h)⟩
 obtain ⟨g',hg'⟩:∃ g':Gh,g'=⟨g.st,λ i=>if i=d then some w.heap.size else g.ow i⟩:=⟨_,rfl⟩
 have hsz:(w.alloc (.map #[] 0)).heap.size=w.heap.size+1:=by simp
 have hs':St C.n C.w0 C.F g' (cX (Nat.beq · d) ⟨sl,ob⟩) a (w.alloc (.map #[] 0)):=by
  subst hg'
  refine hs.evolve (Nat.beq · d) (DZ hdl) hev (λ id b hD h=>?_) (λ i j b hi hj=>?_) (λ i b hi=>?_) (λ b o h=>?_) (λ b hb=>?_) rfl rfl rfl (by omega) (λ b _ o=>Iff.rfl) (λ i hi=>?_)
  ·have hne:id≠d:=λ e=>by subst e; simp at hD
   exact ⟨by simp only [if_neg hne]; exact h,dj (hs.own id b h).1,λ o h=>h⟩
  ·dsimp only at hi hj
   by_cases e1:i=d <;> by_cases e2:j=d
   ·omega
   ·rw [if_pos e1] at hi; rw [if_neg e2] at hj; cases hi; have:=(hs.own j _ hj).1; omega
   ·rw [if_neg e1] at hi; rw [if_pos e2] at hj; cases hj; have:=(hs.own i _ hi).1; omega
   ·rw [if_neg e1] at hi; rw [if_neg e2] at hj; exact hs.inj i j b hi hj
  ·dsimp only at hi
   by_cases e1:i=d
   ·rw [if_pos e1] at hi; cases hi
    exact ⟨by omega,λ hF=>by have:=hs.fl _ hF; have:=hs.size; omega⟩
   ·rw [if_neg e1] at hi; have:=hs.own i b hi; exact ⟨by omega,this.2⟩
  ·have:=hs.lt b o h; omega
  ·exact dj (by have:=hs.fl b hb; have:=hs.size; omega)
  ·dsimp only
   rw [if_neg (by omega)]
 refine ⟨g',⟨(d,y)::sl',ob'⟩,?_,hK⟩
 have hp:=hs'.put (d:=o.dst) (λ t ht=>by rw [hd] at ht; cases ht; exact Nat.blt_eq ▸ hn) (x:=y) (v:=.map (some w.heap.size))
  (hy _ _ _ (by rw [hg']; simp) cr)
 rw [hd] at hp ⊢
 rw [qM h1,py h2]
 exact hp
end
end Go.Ab
end
section
set_option linter.unusedVariables false
set_option linter.unusedSimpArgs false
set_option linter.unnecessarySimpa false
namespace Go.Ab
open Go.MapKept
/- As 'dem',for identities of any size; what is known of maps of rows is given up. -/
mutual
def AV.dm2 (D:Nat→Bool):AV→AV
 | .undef=>.undef
 | .p x=>.p x
 | .agg cs=>.agg (wK D cs)
 | .vec tok sz ty es=>bif D tok then .p (.slice es) else .vec tok sz ty es
 | .arr id sz off n=>bif D id then .undef else .arr id sz off n
 | .ptr id off=>bif D id then .undef else .ptr id off
 | .bptr T sz id=>bif D id then .undef else .bptr T sz id
 | .rptr cs=>.rptr cs
 | .tuple cs=>.tuple (wK D cs)
 | .func f cs=>.func f (wK D cs)
 | .mp tok kvs=>bif D tok then .undef else .mp tok kvs
 | .mpr ..=>.undef
 | .stk tok sz es=>bif D tok then .undef else .stk tok sz es
def wK (D:Nat→Bool):List AV→List AV
 | []=>[]
 | x::r=>x.dm2 D::wK D r
end
theorem lr (D:Nat→Bool):∀ l,wK D l=l.map (AV.dm2 D)
 | []=>rfl
 | x::r=>by simp [wK,lr D r]
theorem ARep.dm2 {D:Nat→Bool}{w w':World}{g g':Gh}(ev:Ev w g.st w' g'.st)(ow:∀ id b,D id=false→g.ow id=some b→g'.ow id=some b)
  (shape:∀ id b c e,D id=false→g.ow id=some b→w.heap[b]? = some (.cells c e (0,0))→∃ c':Array Value,w'.heap[b]? = some (.cells c' e (0,0))∧c'.size=c.size)
  (tip:∀ id b o,D id=false→g.ow id=some b→g'.st b o→g.st b o)
  (mp:∀ id b es k,D id=false→g.ow id=some b→w.heap[b]? = some (.map es k)→w'.heap[b]? = some (.map es k))
  (stab:∀ id b o,D id=false→g.ow id=some b→g.st b o→w'.heap[b]? = w.heap[b]?) {x:AV} {v:Value} (h:ARep w g x v):ARep w' g' (x.dm2 D) v:=by
 induction h with
 | undef v=>simp only [AV.dm2]; exact .undef _
 | p h=>simp only [AV.dm2]; exact .p (h.mono ev)
 | agg hl h ih =>
  simp only [AV.dm2,lr]
  refine .agg (by simpa using hl) λ i c v h1 h2=>?_
  simp only [List.getElem?_map,Option.map_eq_some_iff] at h1
  obtain ⟨c0,h1,rfl⟩:=h1
  exact ih i c0 v h1 h2
 | vecn tok sz ty =>
  simp only [AV.dm2]
  cases D tok
  ·exact .vecn _ _ _
  ·exact .p .nils
 | vece tok sz a =>
  simp only [AV.dm2]
  cases D tok
  ·exact .vece _ _ _
  ·exact .p (.nile a)
 | vec how hb hcs hsz hst hr hty =>
  simp only [AV.dm2]
  cases hD:D _
  ·obtain ⟨c',hb',hs'⟩:=shape _ _ _ _ hD how hb
   exact .vec (ow _ _ hD how) hb' (hs'.trans hcs) hsz (λ o=>⟨λ h=>(hst o).1 (tip _ _ o hD how h),λ h=>(ev _ _ ((hst o).2 h)).1⟩) (hr.mono ev) hty
  ·exact .p (hr.mono ev)
 | arr how hb hcs hn =>
  simp only [AV.dm2]
  cases hD:D _
  ·obtain ⟨c',hb',hs'⟩:=shape _ _ _ _ hD how hb
   exact .arr (ow _ _ hD how) hb' (hs'.trans hcs) hn
  ·exact .undef _
 | ptr how =>
  simp only [AV.dm2]
  cases hD:D _
  ·exact .ptr (ow _ _ hD how)
  ·exact .undef _
 | bptrn how hb hcs =>
  simp only [AV.dm2]
  cases hD:D _
  ·obtain ⟨c',hb',hs'⟩:=shape _ _ _ _ hD how hb
   exact .bptrn (ow _ _ hD how) hb' (hs'.trans hcs)
  ·exact .undef _
 | bptr how hb hcs =>
  simp only [AV.dm2]
  cases hD:D _
  ·obtain ⟨c',hb',hs'⟩:=shape _ _ _ _ hD how hb
   exact .bptr (ow _ _ hD how) hb' (hs'.trans hcs)
  ·exact .undef _
 | rptr cf hc hr =>
  simp only [AV.dm2]
  exact .rptr cf (λ j c h=>⟨(ev _ _ (hc j c h).1).1,(ev _ _ (hc j c h).1).2.trans (hc j c h).2⟩) (λ j c h=>(hr j c h).mono ev)
 | tuple hl h ih =>
  simp only [AV.dm2,lr]
  refine .tuple (by simpa using hl) λ i c v h1 h2=>?_
  simp only [List.getElem?_map,Option.map_eq_some_iff] at h1
  obtain ⟨c0,h1,rfl⟩:=h1
  exact ih i c0 v h1 h2
 | func hl h ih =>
  simp only [AV.dm2,lr]
  refine .func (by simpa using hl) λ i c v h1 h2=>?_
  simp only [List.getElem?_map,Option.map_eq_some_iff] at h1
  obtain ⟨c0,h1,rfl⟩:=h1
  exact ih i c0 v h1 h2
 | mp how hb hn hd hk hv =>
  simp only [AV.dm2]
  cases hD:D _
  ·exact .mp (ow _ _ hD how) (mp _ _ _ _ hD how hb) hn hd hk (λ i e kv h1 h2=>(hv i e kv h1 h2).mono ev)
  ·exact .undef _
 | mpr=>simp only [AV.dm2]; exact .undef _
 | stkn tok sz =>
  simp only [AV.dm2]
  cases D tok
  ·exact .stkn _ _
  ·exact .undef _
 | stk how hb hcs hlen hsz hone hst hr =>
  simp only [AV.dm2]
  cases hD:D _
  ·exact .stk (ow _ _ hD how) ((stab _ _ _ hD how ((hst _).2 rfl)).trans hb) hcs hlen hsz hone (λ o=>⟨λ h=>(hst o).1 (tip _ _ o hD how h),λ h=>(ev _ _ ((hst o).2 h)).1⟩) (λ i x j p h1 h2=>by obtain ⟨v,h3,h4⟩:=hr i x j p h1 h2; exact ⟨v,h3,h4.mono ev⟩)
  ·exact .undef _
def nk (e t:Nat)(i:Nat):Bool:=Nat.beq i e||Nat.beq i t||Nat.ble MZ i
def tkA (tok e:Nat)(y x:AV):AV:=match x with
 | .mpr t _ _ _ _=>bif Nat.beq t tok then y else .undef
 | x=>x.dm2 (nk e tok)
def tkS (tok e:Nat)(y:AV):List (Nat×AV)→Option (List (Nat×AV))
 | []=>some []
 | (i,x)::r=>(match frc (tkA tok e y x) with
  | some z=>(match tkS tok e y r with | some l=>some ((i,z)::l) | none=>none)
  | none=>none)
theorem xC {tok e:Nat}{y:AV}:∀ {l l':List (Nat×AV)},tkS tok e y l=some l'→l'=l.map λ p=>(p.1,tkA tok e y p.2)
 | [],l',h=>by cases h; rfl
 | (i,x)::r,l',h=>by
  unfold tkS at h
  split at h
  ·rename_i z hz
   split at h
   ·rename_i m hm; cases h; rw [vF hz,xC hm]; rfl
   ·cases h
  ·cases h
def tkC (e t:Nat):List AV→Option (List AV)
 | []=>some []
 | x::r=>(match frc (x.dm2 (nk e t)) with
  | some y=>(match tkC e t r with | some l=>some (y::l) | none=>none)
  | none=>none)
theorem AZ {e t:Nat}:∀ {l l':List AV},tkC e t l=some l'→l'=wK (nk e t) l
 | [],l',h=>by cases h; rfl
 | x::r,l',h=>by
  unfold tkC at h
  split at h
  ·rename_i y hy
   split at h
   ·rename_i m hm; cases h; rw [vF hy,AZ hm]; rfl
   ·cases h
  ·cases h
def tkO (e t:Nat):List (Nat×List AV)→Option (List (Nat×List AV))
 | []=>some []
 | (i,cs)::r=>(match nk e t i with
  | true=>tkO e t r
  | false=>(match tkC e t cs with
   | some ds=>(match tkO e t r with | some l=>some ((i,ds)::l) | none=>none)
   | none=>none))
theorem qb {e t:Nat}:∀ {l l':List (Nat×List AV)},tkO e t l=some l'→∀ id cs,look l' id=some cs→nk e t id=false∧∃ ds,look l id=some ds∧cs=wK (nk e t) ds
 | [],l',h,id,cs,hc=>by cases h; cases hc
 | (i,xs)::r,l',h,id,cs,hc=>by
  unfold tkO at h
  split at h
  ·rename_i hb
   obtain ⟨h1,ds,h2,h3⟩:=qb h id cs hc
   refine ⟨h1,ds,?_,h3⟩
   rw [aV,if_neg (λ e'=>by subst e'; rw [hb] at h1; cases h1)]
   exact h2
  ·rename_i hb
   split at h
   ·rename_i ds hds
    split at h
    ·rename_i m hm
     cases h
     rw [aV] at hc ⊢
     by_cases e1:i=id
     ·subst e1
      rw [if_pos rfl] at hc ⊢
      cases hc
      exact ⟨hb,xs,rfl,AZ hds⟩
     ·rw [if_neg e1] at hc ⊢
      exact qb hm id cs hc
    ·cases h
   ·cases h
theorem nV {α:Type}{es:Array MapEntry}{kvs:List (Bytes×α)}(hn:es.size=kvs.length)(hk:∀ (i:Nat) e kv,es[i]? = some e→kvs[i]? = some kv→e.key=.string ⟨kv.1.toArray⟩)(k:Bytes) :
  (∀ x∈es.toList,IsKey .string x.key) ∧
  ((Instr.findNow .string (.string ⟨k.toArray⟩) es.toList 0=some none∧(∀ x∈es.toList,x.key≠.string ⟨k.toArray⟩)∧∀ p∈kvs,p.1≠k) ∨
  ∃ j e v,Instr.findNow .string (.string ⟨k.toArray⟩) es.toList 0=some (some (j,e.val))∧es[j]? = some e∧e.key=.string ⟨k.toArray⟩∧kvs[j]? = some (k,v)):=by
 have hks:∀ x∈es.toList,IsKey .string x.key:=by
  intro x hx
  obtain ⟨i,hi⟩:=List.mem_iff_getElem?.1 hx
  rw [Array.getElem?_toList] at hi
  have hil:=(Array.getElem?_eq_some_iff.1 hi).1
  have:=hk i x kvs[i] hi (List.getElem?_eq_getElem (by omega))
  rw [this]; trivial
 refine ⟨hks,?_⟩
 rcases findNow_spec (k:=.string ⟨k.toArray⟩) (d:=.string) trivial es.toList 0 hks with ⟨h1,h2⟩ | ⟨j,e,h1,h2,h3⟩
 ·refine .inl ⟨h1,h2,λ p hp e=>?_⟩
  obtain ⟨i,hi⟩:=List.mem_iff_getElem?.1 hp
  have hil:=(List.getElem?_eq_some_iff.1 hi).1
  have hes:es[i]? = some es[i]:=Array.getElem?_eq_getElem (by omega)
  have:=hk i es[i] p hes hi
  exact h2 es[i] (Array.getElem_mem_toList (by omega)) (by rw [this,e])
 ·rw [Array.getElem?_toList] at h2
  have hil:=(Array.getElem?_eq_some_iff.1 h2).1
  have hkv:kvs[j]? = some kvs[j]:=List.getElem?_eq_getElem (by omega)
  have:=hk j e kvs[j] h2 hkv
  have he:kvs[j].1=k:=CQ (this.symm.trans h3)
  refine .inr ⟨j,e,kvs[j].2,by rw [h1]; simp,h2,h3,?_⟩
  rw [hkv,← he]
theorem Ca {d t i:Nat}(h:d < MZ):t+MZ*(i+1)≠d:=by rw [Nat.mul_add,Nat.mul_one]; omega
theorem tL {w:World}{g:Gh}{tok sz ty:Nat}{tk:Option Bytes}{i:Nat}{kv:Bytes×List PV}{v:Value}(h:ARep w g (od tok sz ty tk i kv) v):PRep w g.st (.slice kv.2) v:=by
 unfold od at h
 split at h
 ·cases h with
  | p h=>exact h
 ·have:=AV.sub_vec _ _ _ _ _ _ _ h
  cases this with
  | p h=>exact h
section
variable {C:Cx} {o:Oper} {K:AS→Prop} {sl:List (Nat×AV)} {ob:List (Nat×List AV)} {d:Nat}
theorem ue {t:TypeId}(sz ty:Nat){sl':List (Nat×AV)}{ob':List (Nat×List AV)}(ho:o.op=.makeMap t none)(hd:o.dst=some d)(hn:Nat.blt d C.n=true)
  (h1:dmS (Nat.beq · d) sl=some sl') (h2:dmO (Nat.beq · d) ob=some ob') (hK:K ⟨(d,.mpr d sz ty none [])::sl',ob'⟩):aY C o K ⟨sl,ob⟩ :=
 wt hd hn (λ g a w hs=>by simp [execOp,ho,Instr.makeMap,newObj,Sem.run]) (λ w g b h1 h2=>.mpr h1 h2 rfl (by simp) (by simp) (by simp)) h1 h2 hK
theorem Bq {t kt et:TypeId}{x y:Operand}{i j:TI}{tok sz ty:Nat}{tk:Option Bytes}{kvs:List (Bytes×List PV)}{k:Bytes}{r:List PV}(ho:o.op=.lookup t x y false)(hd:o.dst=some d)(hn:Nat.blt d C.n=true)
  (hi:look C.tt t=some i) (hik:i.k=.map kt et) (hj:look C.tt kt=some j) (hjk:j.k=.string) (hz:(C.P.info? et).map (·.zero)=some (some (.slice none 0 0)))
  (hx:evo sl x=some (.mpr tok sz ty tk kvs)) (hy:evo sl y=some (.p (.val (.string ⟨k.toArray⟩)))) (hr:(dC kvs k).getD []=r) (hK:K ⟨(d,.p (.slice r))::sl,ob⟩):aY C o K ⟨sl,ob⟩:=by
 obtain ⟨u,h1,h2⟩:=aW C.good hi
 obtain rfl:=tS (h2.trans hik)
 obtain ⟨u2,h3,h4⟩:=aW C.good hj
 obtain rfl:=ey (h4.trans hjk)
 refine ok_one hd hn (λ g a w hs=>?_) hK
 have hm:=bp hs hx
 have hkv:=bu hs hy
 generalize hv:a.eval x=v at hm
 cases hm with
 | mpr how hb hN hD hkeys hvals =>
  rename_i b ck es
  obtain ⟨hks,hc⟩:=nV hN hkeys k
  have hz2:(zeroValue et).run C.P w=.ok (.slice none 0 0) w:=by
   obtain ⟨inf,hinf,hzz⟩:=Option.map_eq_some_iff.1 hz
   simp [zeroValue,typeInfo,hinf,hzz]
  rcases hc with ⟨f1,f2,f3⟩ | ⟨jj,e,v',f1,f2,f3,f4⟩
  ·refine ⟨.slice none 0 0,?_,?_⟩
   ·simp [execOp,ho,hv,hkv,Instr.lookup,run_underlying h1,Go.MapKept.run_getObj_map hb,run_checkKey (d:=.string) h3 (k:=.string ⟨k.toArray⟩) trivial,run_findKey h3 f1,hz2,Result.andThen]
   ·rw [← hr,pz f3]; exact .p .nils
  ·refine ⟨e.val,?_,?_⟩
   ·simp [execOp,ho,hv,hkv,Instr.lookup,run_underlying h1,Go.MapKept.run_getObj_map hb,run_checkKey (d:=.string) h3 (k:=.string ⟨k.toArray⟩) trivial,run_findKey h3 f1,Result.andThen]
   ·rw [← hr,tU hD f4]
    exact .p (tL (hvals jj e _ f2 f4))
theorem BB {t kt et:TypeId}{x y:Operand}{i j:TI}{tok sz ty:Nat}{kvs:List (Bytes×List PV)}{k:Bytes}{r:List PV}{sl':List (Nat×AV)}{ob':List (Nat×List AV)}(ho:o.op=.lookup t x y false)(hd:o.dst=some d)(hn:Nat.blt d C.n=true)
  (hi:look C.tt t=some i) (hik:i.k=.map kt et) (hj:look C.tt kt=some j) (hjk:j.k=.string) (hz:(C.P.info? et).map (·.zero)=some (some (.slice none 0 0)))
  (hx:evo sl x=some (.mpr tok sz ty none kvs)) (hy:evo sl y=some (.p (.val (.string ⟨k.toArray⟩)))) (hr:(dC kvs k).getD []=r) (htok:Nat.blt tok M1=true) (hdt:Nat.beq d tok=false)
  (h1:tkS tok d (.mpr tok sz ty (some k) kvs) sl=some sl') (h2:tkO d tok ob=some ob') (hK:K ⟨(d,.vec d sz ty r)::sl',ob'⟩):aY C o K ⟨sl,ob⟩:=by
 obtain ⟨u,hu1,hu2⟩:=aW C.good hi
 obtain rfl:=tS (hu2.trans hik)
 obtain ⟨u2,hu3,hu4⟩:=aW C.good hj
 obtain rfl:=ey (hu4.trans hjk)
 have htl:tok < M1:=Nat.blt_eq ▸ htok
 have hdl:d < M1:=by have h1:=Nat.le_of_ble_eq_true C.nl; have h2:d < C.n:=Nat.blt_eq ▸ hn; omega
 have hM:M1≤MZ:=by decide
 have hne:d≠tok:=λ e=>by subst e; simp at hdt
 intro g a w hs
 have hm:=bp hs hx
 have hkv:=bu hs hy
 generalize hvx:a.eval x=vx at hm
 cases hm with
 | mpr how hb hN hD hkeys hvals =>
  rename_i b ck es
  obtain ⟨hks,hc⟩:=nV hN hkeys k
  have hz2:(zeroValue et).run C.P w=.ok (.slice none 0 0) w:=by
   obtain ⟨inf,hinf,hzz⟩:=Option.map_eq_some_iff.1 hz
   simp [zeroValue,typeInfo,hinf,hzz]
  -- the place of the row,and its value
  obtain ⟨jj,v,hrun,hjj,hrow⟩:∃ (jj:Nat) (v:Value),(execOp a.eval o).run C.P w=.ok (.value v) w∧(∀ i kv,kvs[i]? = some kv→kv.1≠k→i≠jj)∧(ARep w g (.vec (tok+MZ*(jj+1)) sz ty r) v):=by
   rcases hc with ⟨f1,f2,f3⟩ | ⟨jj,e,v',f1,f2,f3,f4⟩
   ·refine ⟨kvs.length,.slice none 0 0,?_,λ i kv hi _ e=>?_,?_⟩
    ·simp [execOp,ho,hvx,hkv,Instr.lookup,run_underlying hu1,Go.MapKept.run_getObj_map hb,run_checkKey (d:=.string) hu3 (k:=.string ⟨k.toArray⟩) trivial,run_findKey hu3 f1,hz2,Result.andThen]
    ·have:=(List.getElem?_eq_some_iff.1 hi).1; omega
    ·rw [← hr,pz f3]; exact .vecn _ _ _
   ·refine ⟨jj,e.val,?_,λ i kv hi hne e=>?_,?_⟩
    ·simp [execOp,ho,hvx,hkv,Instr.lookup,run_underlying hu1,Go.MapKept.run_getObj_map hb,run_checkKey (d:=.string) hu3 (k:=.string ⟨k.toArray⟩) trivial,run_findKey hu3 f1,Result.andThen]
    ·subst e; rw [f4] at hi; cases hi; exact hne rfl
    ·rw [← hr,tU hD f4]
     have:=hvals jj e _ f2 f4
     unfold od at this
     rw [if_neg (by simp)] at this
     exact this
  unfold Oper.wp
  rw [hrun]
  obtain ⟨rid,hrid⟩:∃ rid,rid=tok+MZ*(jj+1):=⟨_,rfl⟩
  have hridZ:MZ≤rid:=by rw [hrid,Nat.mul_add,Nat.mul_one]; omega
  obtain ⟨g',hg'⟩:∃ g':Gh,g'=⟨g.st,λ i=>if i=d then g.ow rid else if i=rid then none else g.ow i⟩:=⟨_,rfl⟩
  have gst:g'.st=g.st:=by rw [hg']
  have god:g'.ow d=g.ow rid:=by rw [hg']; simp
  have goo:∀ i,i≠d→i≠rid→g'.ow i=g.ow i:=λ i h1 h2=>by rw [hg']; simp only [if_neg h1,if_neg h2]
  have gor:rid≠d→g'.ow rid=none:=λ h=>by rw [hg']; simp only [if_neg h,if_true]
  have hrd:rid≠d:=by omega
  have hbig:∀ id,nk d tok id=false→id≠d∧id≠tok∧id < MZ:=λ id h=>by
   unfold nk at h
   simp only [Bool.or_eq_false_iff] at h
   refine ⟨λ e=>by subst e; simp at h,λ e=>by subst e; simp at h,Nat.lt_of_not_le λ hle=>?_⟩
   rw [Nat.ble_eq_true_of_le hle] at h; exact absurd h.2 (by decide)
  have hdm:∀ {z:AV} {u:Value},ARep w g z u→ARep w g' (z.dm2 (nk d tok)) u:=λ h=>ARep.dm2 (by rw [gst]; exact Ev.refl _ _)
   (λ id b hq h=>by obtain ⟨q1,_,q2⟩:=hbig id hq; rw [goo id q1 (by omega)]; exact h) (λ id b c e _ _ h=>⟨c,h,rfl⟩) (λ id b o _ _ h=>by rwa [gst] at h) (λ id b es k _ _ h=>h) (λ _ _ _ _ _ _=>rfl) h
  have vecmove:∀ {q q':Nat} {es:List PV} {u:Value},g'.ow q'=g.ow q→ARep w g (.vec q sz ty es) u→ARep w g' (.vec q' sz ty es) u:=by
   intro q q' es u hq h
   cases h with
   | vecn=>exact .vecn _ _ _
   | vece=>exact .vece _ _ _
   | vec h1 h2 h3 h4 h5 h6 h7=>exact .vec (hq.trans h1) h2 h3 h4 (by rw [gst]; exact h5) (by rw [gst]; exact h6) h7
  have htk:∀ {z:AV} {u:Value},ARep w g z u→ARep w g' (tkA tok d (.mpr tok sz ty (some k) kvs) z) u∨∃ t s y q l,z=.mpr t s y q l:=by
   intro z u h
   unfold tkA
   split
   ·exact .inr ⟨_,_,_,_,_,rfl⟩
   ·exact .inl (hdm h)
  have hs0:St C.n C.w0 C.F g' ⟨sl',ob'⟩ a w:=by
   refine ⟨hs.nd,hs.sz,λ q=>?_,λ id cs hcs=>?_,λ i j b h1 h2=>?_,λ i b h=>?_,by rw [gst]; exact hs.lt,hs.fl,hs.fr,hs.os,hs.out,hs.tape,hs.size,by rw [gst]; exact hs.stf,λ i h1 h2=>?_,hs.shf,by rw [gst]; exact hs.nst,by rw [gst]; exact hs.ev0⟩
   ·rw [xC h1]
    have hq:=hs.sl q
    simp only [AS.get,jd] at hq ⊢
    cases hl:look sl q with
    | none=>simp only [Option.map_none,Option.getD_none]; exact .undef _
    | some z =>
     rw [hl] at hq
     simp only [Option.map_some,Option.getD_some] at hq ⊢
     rcases htk hq with h | ⟨t,s,y,q',l,rfl⟩
     ·exact h
     ·simp only [tkA]
      cases hbt:Nat.beq t tok
      ·simp only [cond_false]; exact .undef _
      ·simp only [cond_true]
       have:=Nat.eq_of_beq_eq_true hbt
       subst this
       generalize a.tmps.getD q Go.undef=vq at hq
       cases hq with
       | mpr how2 hb2 hN2 hD2 hk2 hv2 =>
        rw [how] at how2; cases how2
        refine .mpr (b:=b) (k:=ck) (es:=es) (by rw [goo t (λ e=>hne e.symm) (by omega)]; exact how) hb hN hD hkeys λ i e kv h3 h4=>?_
        have hrep:=hvals i e kv h3 h4
        unfold od
        by_cases hkk:some k=some kv.1
        ·rw [if_pos hkk]
         have:=tL hrep
         exact .p (by rw [gst]; exact this)
        ·rw [if_neg hkk]
         unfold od at hrep
         rw [if_neg (by simp)] at hrep
         have hij:i≠jj:=hjj i kv h4 (λ e=>hkk (by rw [e]))
         refine vecmove (goo _ (Ca (by omega)) ?_) hrep
         rw [hrid]
         intro e2
         have:MZ*(i+1)=MZ*(jj+1):=by omega
         have:=Nat.eq_of_mul_eq_mul_left (by decide:0 < MZ) this
         omega
   ·obtain ⟨hq,ds,hds,rfl⟩:=qb h2 id cs hcs
    obtain ⟨q1,_,q2⟩:=hbig id hq
    obtain ⟨b2,c2,e2,m1,m2,m3,m4,m5⟩:=hs.ob id ds hds
    refine ⟨b2,c2,e2,by rw [goo id q1 (by omega)]; exact m1,m2,by rw [lr,List.length_map]; exact m3,by rw [gst]; exact m4,λ i x hx=>?_⟩
    rw [lr,List.getElem?_map] at hx
    obtain ⟨z,hz,rfl⟩:=Option.map_eq_some_iff.1 hx
    obtain ⟨u,hu,hr⟩:=m5 i z hz
    exact ⟨u,hu,hdm hr⟩
   ·have key:∀ i,g'.ow i=some b→∃ i',g.ow i'=some b∧((i=d∧i'=rid)∨(i≠d∧i≠rid∧i'=i)):=by
     intro i hi
     by_cases e1:i=d
     ·subst e1; rw [god] at hi; exact ⟨rid,hi,.inl ⟨rfl,rfl⟩⟩
     ·by_cases e2:i=rid
      ·subst e2; rw [gor hrd] at hi; cases hi
      ·rw [goo i e1 e2] at hi; exact ⟨i,hi,.inr ⟨e1,e2,rfl⟩⟩
    obtain ⟨i',hi',q1⟩:=key i h1
    obtain ⟨j',hj',q2⟩:=key j h2
    have:=hs.inj i' j' b hi' hj'
    rcases q1 with ⟨q1,q3⟩ | ⟨q1,q3,q5⟩ <;> rcases q2 with ⟨q2,q4⟩ | ⟨q2,q4,q6⟩ <;> omega
   ·by_cases e1:i=d
    ·subst e1; rw [god] at h; exact hs.own rid b h
    ·by_cases e2:i=rid
     ·subst e2; rw [gor hrd] at h; cases h
     ·rw [goo i e1 e2] at h; exact hs.own i b h
   ·rw [goo i (by omega) (by omega)]; exact hs.owf i h1 h2
  refine ⟨g',⟨(d,.vec d sz ty r)::sl',ob'⟩,?_,hK⟩
  have hp:=hs0.put (d:=o.dst) (λ t ht=>by rw [hd] at ht; cases ht; exact Nat.blt_eq ▸ hn) (x:=.vec d sz ty r) (v:=v) (vecmove (by rw [god,hrid]) hrow)
  rw [hd] at hp ⊢
  exact hp
theorem Dp {t kt et:TypeId}{x y v:Operand}{i j:TI}{tok sz ty e:Nat}{kvs kvs':List (Bytes×List PV)}{k:Bytes}{r:List PV}{sl':List (Nat×AV)}{ob':List (Nat×List AV)}(ho:o.op=.mapUpdate t x y v)(hd:o.dst=none)
  (hi:look C.tt t=some i) (hik:i.k=.map kt et) (hj:look C.tt kt=some j) (hjk:j.k=.string)
  (hx:evo sl x=some (.mpr tok sz ty (some k) kvs)) (hy:evo sl y=some (.p (.val (.string ⟨k.toArray⟩)))) (hv:evo sl v=some (.vec e sz ty r)) (htok:Nat.blt tok M1=true) (hel:Nat.blt e M1=true) (het:Nat.beq e tok=false)
  (hk:mH kvs k r=kvs') (h1:tkS tok e (.mpr tok sz ty none kvs') sl=some sl') (h2:tkO e tok ob=some ob') (hK:K ⟨sl',ob'⟩):aY C o K ⟨sl,ob⟩:=by
 obtain ⟨u,hu1,hu2⟩:=aW C.good hi
 obtain rfl:=tS (hu2.trans hik)
 obtain ⟨u2,hu3,hu4⟩:=aW C.good hj
 obtain rfl:=ey (hu4.trans hjk)
 have htl:tok < M1:=Nat.blt_eq ▸ htok
 have hdl:e < M1:=Nat.blt_eq ▸ hel
 have hM:M1≤MZ:=by decide
 have hne:e≠tok:=λ h=>by subst h; simp at het
 intro g a w hs
 have hm:=bp hs hx
 have hkv:=bu hs hy
 have hrep:=bp hs hv
 generalize hvx:a.eval x=vx at hm
 generalize hvv:a.eval v=vv at hrep
 cases hm with
 | mpr how hb hN hD hkeys hvals =>
  rename_i b ck es
  obtain ⟨hks,hc⟩:=nV hN hkeys k
  have hbl:b < w.heap.size:=(hs.own tok b how).1
  obtain ⟨jj,es',ck',hrun,hN',hkeys',hrows⟩:∃ (jj:Nat) (es':Array MapEntry) (ck':Nat),(execOp a.eval o).run C.P w=.ok .skip { w with heap:=w.heap.setIfInBounds b (.map es' ck') }∧es'.size=kvs'.length ∧
    (∀ (i:Nat) e kv,es'[i]? = some e→kvs'[i]? = some kv→e.key=.string ⟨kv.1.toArray⟩) ∧
    (∀ (i:Nat) e kv,es'[i]? = some e→kvs'[i]? = some kv→(i=jj∧kv.2=r∧e.val=vv)∨(i≠jj∧kv.1≠k∧es[i]? = some e∧kvs[i]? = some kv)):=by
   rcases hc with ⟨f1,f2,f3⟩ | ⟨jj,e0,v',f1,f2,f3,f4⟩
   ·refine ⟨kvs.length,es.push { key:=.string ⟨k.toArray⟩,val:=vv,born:=ck },ck+1,?_,?_,?_,?_⟩
    ·simp [execOp,ho,hvx,hkv,hvv,Instr.mapUpdate,run_underlying hu1,Go.MapKept.run_getObj_map hb,run_checkKey (d:=.string) hu3 (k:=.string ⟨k.toArray⟩) trivial,run_findKey hu3 f1,run_setObj_map _ hb,Result.andThen]
    ·rw [← hk,og f3]; simp [hN]
    ·intro i e kv h3 h4
     rw [← hk,og f3] at h4
     rw [Array.getElem?_push] at h3
     split at h3
     ·rename_i hi2
      cases h3
      rw [hi2,List.getElem?_append_right (by omega),hN] at h4
      simp at h4
      rw [← h4]
     ·have hil:i < es.size:=(Array.getElem?_eq_some_iff.1 h3).1
      rw [List.getElem?_append_left (by omega)] at h4
      exact hkeys i e kv h3 h4
    ·intro i e kv h3 h4
     rw [← hk,og f3] at h4
     rw [Array.getElem?_push] at h3
     split at h3
     ·rename_i hi2
      cases h3
      rw [hi2,List.getElem?_append_right (by omega),hN] at h4
      simp at h4
      exact .inl ⟨by omega,by rw [← h4],rfl⟩
     ·have hil:i < es.size:=(Array.getElem?_eq_some_iff.1 h3).1
      rw [List.getElem?_append_left (by omega)] at h4
      exact .inr ⟨by omega,f3 kv (List.mem_of_getElem? h4),h3,h4⟩
   ·have hjl:jj < es.size:=(Array.getElem?_eq_some_iff.1 f2).1
    refine ⟨jj,es.modify jj λ e=>{ e with key:=.string ⟨k.toArray⟩,val:=vv },ck,?_,?_,?_,?_⟩
    ·have hkey:=run_keyThatStays (P:=C.P) (w:=w) (d:=.string) (k:=.string ⟨k.toArray⟩) trivial
     simp [execOp,ho,hvx,hkv,hvv,Instr.mapUpdate,run_underlying hu1,Go.MapKept.run_getObj_map hb,run_checkKey (d:=.string) hu3 (k:=.string ⟨k.toArray⟩) trivial,run_findKey hu3 f1,f2,f3,hkey,run_setObj_map _ hb,Result.andThen]
    ·rw [← hk,qk hD f4]; simp [hN]
    ·intro i e2 kv h3 h4
     rw [← hk,qk hD f4] at h4
     rw [Array.getElem?_modify] at h3
     rw [List.getElem?_set] at h4
     split at h3
     ·rename_i hji
      subst hji
      rw [f2] at h3
      cases h3
      rw [if_pos rfl,if_pos (by omega)] at h4
      cases h4
      rfl
     ·rename_i hji
      rw [if_neg hji] at h4
      exact hkeys i e2 kv h3 h4
    ·intro i e2 kv h3 h4
     rw [← hk,qk hD f4] at h4
     rw [Array.getElem?_modify] at h3
     rw [List.getElem?_set] at h4
     split at h3
     ·rename_i hji
      subst hji
      rw [f2] at h3
      cases h3
      rw [if_pos rfl,if_pos (by omega)] at h4
      cases h4
      exact .inl ⟨rfl,rfl,rfl⟩
     ·rename_i hji
      rw [if_neg hji] at h4
      refine .inr ⟨λ h=>hji h.symm,λ h=>?_,h3,h4⟩
      -- one key,one place
      have e1:(kvs.map Prod.fst)[i]? = some k:=by rw [List.getElem?_map,h4]; exact congrArg some h
      have e2:(kvs.map Prod.fst)[jj]? = some k:=by rw [List.getElem?_map,f4]; rfl
      have hil:i < (kvs.map Prod.fst).length:=(List.getElem?_eq_some_iff.1 e1).1
      exact hji ((List.getElem?_inj hil hD).1 (e1.trans e2.symm)).symm
  unfold Oper.wp
  rw [hrun]
  simp only [Oper.upon,hd,Act.put]
  obtain ⟨w',hw'⟩:∃ w':World,w'={ w with heap:=w.heap.setIfInBounds b (.map es' ck') }:=⟨_,rfl⟩
  rw [← hw']
  have hat:w'.heap[b]? = some (.map es' ck'):=by rw [hw']; exact (heap_set hb).1
  have hother:∀ b2,b2≠b→w'.heap[b2]? = w.heap[b2]?:=λ b2 h=>by rw [hw']; exact (heap_set hb).2 b2 h
  have hsz:w'.heap.size=w.heap.size:=by rw [hw']; simp
  obtain ⟨rid,hrid⟩:∃ rid,rid=tok+MZ*(jj+1):=⟨_,rfl⟩
  have hridZ:MZ≤rid:=by rw [hrid,Nat.mul_add,Nat.mul_one]; omega
  obtain ⟨g',hg'⟩:∃ g':Gh,g'=⟨g.st,λ i=>if i=rid then g.ow e else if i=e then none else g.ow i⟩:=⟨_,rfl⟩
  have gst:g'.st=g.st:=by rw [hg']
  have gor:g'.ow rid=g.ow e:=by rw [hg']; simp
  have goo:∀ i,i≠e→i≠rid→g'.ow i=g.ow i:=λ i h1 h2=>by rw [hg']; simp only [if_neg h1,if_neg h2]
  have hre:rid≠e:=by omega
  have goe:g'.ow e=none:=by rw [hg']; simp only [if_neg (λ h:e=rid=>hre h.symm),if_true]
  have hev:Ev w g.st w' g'.st:=by
   rw [gst]
   intro b2 o2 h
   refine ⟨h,?_⟩
   by_cases e1:b2=b
   ·subst e1; simp [World.cell?,hat,hb]
   ·simp only [World.cell?,hother b2 e1]
  have hcell:∀ {b2:Nat} {c:Array Value} {t:TypeId} {f:Nat×Nat},w.heap[b2]? = some (.cells c t f)→w'.heap[b2]? = some (.cells c t f):=λ {b2 c t f} h=>by
   rw [hother b2 (λ e1=>by subst e1; rw [hb] at h; cases h)]; exact h
  have hbig:∀ id,nk e tok id=false→id≠e∧id≠tok∧id < MZ:=λ id h=>by
   unfold nk at h
   simp only [Bool.or_eq_false_iff] at h
   refine ⟨λ e1=>by subst e1; simp at h,λ e1=>by subst e1; simp at h,Nat.lt_of_not_le λ hle=>?_⟩
   rw [Nat.ble_eq_true_of_le hle] at h; exact absurd h.2 (by decide)
  have hdm:∀ {z:AV} {u:Value},ARep w g z u→ARep w' g' (z.dm2 (nk e tok)) u:=λ h=>ARep.dm2 hev
   (λ id b hq h=>by obtain ⟨q1,_,q2⟩:=hbig id hq; rw [goo id q1 (by omega)]; exact h) (λ id b c e _ _ h=>⟨c,hcell h,rfl⟩) (λ id b o _ _ h=>by rwa [gst] at h)
   (λ id b2 es2 k2 hq h0 h=>by
    obtain ⟨_,q3,_⟩:=hbig id hq
    rw [hother b2 (λ e1=>by subst e1; exact q3 (hs.inj id tok b2 h0 how))]; exact h)
   (λ id b2 o hq h0 _=>by obtain ⟨_,q3,_⟩:=hbig id hq; exact hother b2 (λ e1=>by subst e1; exact q3 (hs.inj id tok b2 h0 how))) h
  have vecmove:∀ {q q':Nat} {es:List PV} {u:Value},g'.ow q'=g.ow q→ARep w g (.vec q sz ty es) u→ARep w' g' (.vec q' sz ty es) u:=by
   intro q q' es u hq h
   cases h with
   | vecn=>exact .vecn _ _ _
   | vece=>exact .vece _ _ _
   | vec h1 h2 h3 h4 h5 h6 h7=>exact .vec (hq.trans h1) (hcell h2) h3 h4 (by rw [gst]; exact h5) (h6.mono hev) h7
  have hnew:ARep w' g' (.mpr tok sz ty none kvs') (.map (some b)):=by
   refine .mpr (b:=b) (k:=ck') (es:=es') (by rw [goo tok (λ h=>hne h.symm) (by omega)]; exact how) hat hN' (by rw [← hk]; exact xx hD) hkeys' λ i e2 kv h3 h4=>?_
   unfold od
   rw [if_neg (by simp)]
   rcases hrows i e2 kv h3 h4 with ⟨rfl,h5,h6⟩ | ⟨h5,h6,h7,h8⟩
   ·rw [h5,h6,← hrid]
    exact vecmove gor hrep
   ·have hr:=hvals i e2 kv h7 h8
    unfold od at hr
    rw [if_neg (λ q=>h6 (Option.some.inj q).symm)] at hr
    refine vecmove (goo _ (Ca (by omega)) ?_) hr
    rw [hrid]
    intro e2
    have:MZ*(i+1)=MZ*(jj+1):=by omega
    have:=Nat.eq_of_mul_eq_mul_left (by decide:0 < MZ) this
    omega
  refine ⟨g',⟨sl',ob'⟩,?_,hK⟩
  refine ⟨hs.nd,hs.sz,λ q=>?_,λ id cs hcs=>?_,λ i j b h1 h2=>?_,λ i b2 h=>?_,λ b2 o2 h=>by rw [gst] at h; rw [hsz]; exact hs.lt b2 o2 h,hs.fl,λ b2 h=>?_,by rw [hw']; exact hs.os,by rw [hw']; exact hs.out,by rw [hw']; exact hs.tape,by rw [hsz]; exact hs.size,by rw [gst]; exact hs.stf,λ i h1 h2=>?_,hs.shf.next (λ i b2 c t _ _ h=>⟨c,hcell h,rfl⟩),by rw [gst]; exact hs.nst,hs.ev0.trans hev⟩
  ·rw [xC h1]
   have hq:=hs.sl q
   simp only [AS.get,jd] at hq ⊢
   cases hl:look sl q with
   | none=>simp only [Option.map_none,Option.getD_none]; exact .undef _
   | some z =>
    rw [hl] at hq
    simp only [Option.map_some,Option.getD_some] at hq ⊢
    unfold tkA
    split
    ·rename_i t s y q' l
     cases hbt:Nat.beq t tok
     ·simp only [cond_false]; exact .undef _
     ·simp only [cond_true]
      have:=Nat.eq_of_beq_eq_true hbt
      subst this
      generalize a.tmps.getD q Go.undef=vq at hq
      cases hq with
      | mpr how2 hb2 hN2 hD2 hk2 hv2=>rw [how] at how2; cases how2; exact hnew
    ·exact hdm hq
  ·obtain ⟨hq,ds,hds,rfl⟩:=qb h2 id cs hcs
   obtain ⟨q1,_,q2⟩:=hbig id hq
   obtain ⟨b2,c2,e2,m1,m2,m3,m4,m5⟩:=hs.ob id ds hds
   refine ⟨b2,c2,e2,by rw [goo id q1 (by omega)]; exact m1,hcell m2,by rw [lr,List.length_map]; exact m3,by rw [gst]; exact m4,λ i x hx=>?_⟩
   rw [lr,List.getElem?_map] at hx
   obtain ⟨z,hz,rfl⟩:=Option.map_eq_some_iff.1 hx
   obtain ⟨u,hu,hr⟩:=m5 i z hz
   exact ⟨u,hu,hdm hr⟩
  ·have key:∀ i,g'.ow i=some b→∃ i',g.ow i'=some b∧((i=rid∧i'=e)∨(i≠e∧i≠rid∧i'=i)):=by
    intro i hi
    by_cases e1:i=rid
    ·subst e1; rw [gor] at hi; exact ⟨e,hi,.inl ⟨rfl,rfl⟩⟩
    ·by_cases e2:i=e
     ·subst e2; rw [goe] at hi; cases hi
     ·rw [goo i e2 e1] at hi; exact ⟨i,hi,.inr ⟨e2,e1,rfl⟩⟩
   obtain ⟨i',hi',q1⟩:=key i h1
   obtain ⟨j',hj',q2⟩:=key j h2
   have:=hs.inj i' j' b hi' hj'
   rcases q1 with ⟨q1,q3⟩ | ⟨q1,q3,q5⟩ <;> rcases q2 with ⟨q2,q4⟩ | ⟨q2,q4,q6⟩ <;> omega
  ·rw [hsz]
   by_cases e1:i=rid
   ·subst e1; rw [gor] at h; exact hs.own e b2 h
   ·by_cases e2:i=e
    ·subst e2; rw [goe] at h; cases h
    ·rw [goo i e2 e1] at h; exact hs.own i b2 h
  ·have hne2:b2≠b:=λ e1=>(hs.own tok b how).2 (e1 ▸ h)
   rw [hother b2 hne2]; exact hs.fr b2 h
  ·rw [goo i (by omega) (by omega)]; exact hs.owf i h1 h2
end
end Go.Ab
end
section
set_option linter.unusedVariables false
set_option linter.unusedSimpArgs false
set_option linter.unnecessarySimpa false
namespace Go.Ab
section
variable {C:Cx} {o:Oper} {K:AS→Prop} {sl:List (Nat×AV)} {ob:List (Nat×List AV)} {d:Nat}
theorem yn {es ys:List PV}{t tx e e':TypeId}{i ie j:TI}{y:Operand}{Y:AV}{k:Nat}(D:Nat→Bool)(hDl:∀ i,D i=true→i < M1)(hDk:D k=true)
  (hi:look C.tt t=some i) (hik:i.k=.slice e) (hie:look C.tt e=some ie) (hj:look C.tt tx=some j) (hjk:j.k=.slice e')
  (hy:evo sl y=some Y) (hY:Y.elems? = some ys) (hsz:∀ y∈es++ys,y.cells=[y]∧y.one=true) (h1s:ie.size=1) (hzl:ie.zero.length=ie.size)
  (hlen:(es.length+ys.length)*ie.bytes≤140737488355328) (hlen':es.length+ys.length≤9223372036854775807)
  {g:Gh} {a:Act} {w:World} (hs:St C.n C.w0 C.F g ⟨sl,ob⟩ a w) (base:Option Addr) (cap:Nat) (olds:List Value)
  (hold:(Builtin.firstCells ie.size es.length (.slice base es.length cap)).run C.P w.drew=.ok olds.toArray w.drew) (hol:olds.length=es.length)
  (hoc:∀ (i:Nat) x,es[i]? = some x→∃ u,olds[i]? = some u∧PRep w g.st x u)
  (hg:cap < es.length+ys.length) (ty:TypeId) (hn:Nat.blt d C.n=true) :
  ∃ v w' g',(Builtin.append_ #[t,tx] ty #[.slice base es.length cap,a.eval y]).run C.P w=.ok v w' ∧
   St C.n C.w0 C.F g' ⟨(d,.stk k 1 (es++ys))::(cX D ⟨sl,ob⟩).sl,(cX D ⟨sl,ob⟩).ob⟩ (a.put (some d) v) w':=by
 obtain ⟨u,h1,h2⟩:=aW C.good hi
 have h3:=a6 (h2.trans hik)
 subst h3
 obtain ⟨u',h1',h2'⟩:=aW C.good hj
 have h3':=a6 (h2'.trans hjk)
 subst h3'
 obtain ⟨info,hf1,hf2,hf3,z,hf4,hf5⟩:=fX C.good hie
 have hyv:=fU hY (bp hs hy)
 have hszy:∀ y∈ys,y.cells=[y]:=λ y hy=>(hsz y (List.mem_append_right _ hy)).1
 obtain ⟨news,hsrc,hnews⟩:=tv (P:=C.P) (sz:=ie.size) h1' hyv (λ y hy=>by rw [hszy y hy,h1s]; rfl) (by omega)
 have hfit:=growslice_fits (bytes:=ie.bytes) hg hlen
 have hrun:=run_append_grow_src w t tx ty e info z h1 hf1 hf4 base es.length cap olds (by rw [hf2]; exact hold) (a.eval y) ys.length news (by rw [hf2]; exact hsrc) hg (by omega) (by rw [hf3]; exact hfit)
 obtain ⟨q,hq⟩:∃ q,q=grownCap w (es.length+ys.length) cap e:=⟨_,rfl⟩
 rw [← hq] at hrun
 have hqn:es.length+ys.length≤q:=by
  rw [hq]; unfold grownCap; simp only [Question.cut]; omega
 have hzs:z.cells.size=1:=by rw [← h1s,← hzl,← hf5,Array.length_toList]
 have hnl:news.length=ys.length:=by rw [hsrc.newsLen,h1s,Nat.mul_one]
 obtain ⟨c,hc⟩:∃ c,c=(olds++news).toArray++Builtin.zeroCells z.cells (q - (es.length+ys.length)):=⟨_,rfl⟩
 rw [← hc] at hrun
 have hcs:c.size=q:=by
  rw [hc]
  simp only [Array.size_append,List.size_toArray,List.length_append,hol,hnl,size_zeroCells,hzs]
  omega
 have hf:=hs.drew.fresh D hDl k hDk (λ o=>o=q*1) c e
 have hev:=jX (w:=w.drew) (T:=λ o=>o=q*1) (ob:=.cells c e) hs.drew.lt
 have hlenA:(es++ys).length=es.length+ys.length:=List.length_append
 have hrep:ARep (w.drew.alloc (.cells c e)) ⟨λ b o=>g.st b o∨(b=w.drew.heap.size∧o=q*1),λ i=>if i=k then some w.drew.heap.size else if D i then none else g.ow i⟩ (.stk k 1 (es++ys)) (.slice (some ⟨w.drew.heap.size,0,none⟩) (es++ys).length q):=by
  refine .stk (by simp) cr (by omega) (by omega) (λ x hx=>by rw [(hsz x hx).1]; rfl) (λ x hx c hc=>by rw [(hsz x hx).1] at hc; obtain rfl:=List.mem_singleton.1 hc; exact (hsz c hx).2) (λ o=>?_) (λ i x j p hx hp=>?_)
  ·constructor
   ·rintro (h | ⟨_,h⟩)
    ·exact absurd (hs.lt _ _ h) (Nat.lt_irrefl _)
    ·exact h
   ·intro h; exact .inr ⟨rfl,h⟩
  ·rw [(hsz x (List.mem_of_getElem? hx)).1] at hp
   have hj:j=0:=by
    have:=(List.getElem?_eq_some_iff.1 hp).1
    simpa using this
   subst hj
   simp only [List.getElem?_cons_zero,Option.some.injEq] at hp
   subst hp
   have hil:i < (es++ys).length:=(List.getElem?_eq_some_iff.1 hx).1
   have hget:c[i]? = if i < es.length then olds[i]? else news[i - es.length]?:=by
    rw [hc,Array.getElem?_append]
    simp only [List.size_toArray,List.length_append,hol,hnl]
    rw [if_pos (by omega),List.getElem?_toArray,List.getElem?_append,hol]
   rw [Nat.mul_one,Nat.add_zero]
   rw [List.getElem?_append] at hx
   split at hx
   ·rename_i hlt
    obtain ⟨u,hu,hr⟩:=hoc i x hx
    exact ⟨u,by rw [hget,if_pos hlt]; exact hu,(PRep.mono (w:=w) (w':=w.drew) (st:=g.st) (st':=g.st) (λ b o h=>⟨h,rfl⟩) hr).mono hev⟩
   ·rename_i hge
    obtain ⟨k1,u,hu,hr⟩:=hnews (i - es.length) x 0 x hx (by rw [hszy x (List.mem_of_getElem? hx)]; rfl)
    rw [h1s,Nat.mul_one,Nat.add_zero] at hu
    exact ⟨u,by rw [hget,if_neg hge]; exact hu,(PRep.mono (w:=w) (w':=w.drew) (st:=g.st) (st':=g.st) (λ b o h=>⟨h,rfl⟩) hr).mono hev⟩
 rw [hlenA] at hrep
 have hp:=hf.put (d:=some d) (λ t ht=>by cases ht; exact Nat.blt_eq ▸ hn) hrep
 exact ⟨_,_,_,hrun,hp⟩
theorem vN {t tx e e':TypeId}{x y:Operand}{k:Nat}{es:List PV}{Y:AV}{ys:List PV}{i ie j:TI}(ho:o.op=.call { callee:=.builtin .append,args:=#[x,y],argTypes:=#[t,tx] })(hd:o.dst=some d)(hn:Nat.blt d C.n=true)
  (hi:look C.tt t=some i) (hik:i.k=.slice e) (hie:look C.tt e=some ie) (hj:look C.tt tx=some j) (hjk:j.k=.slice e') (hx:evo sl x=some (.stk k 1 es)) (hk:Nat.blt k M1=true)
  (hy:evo sl y=some Y) (hY:Y.elems? = some ys) (hsz:∀ y∈es++ys,y.cells=[y]∧y.one=true) (hys:0 < ys.length) (h1s:ie.size=1) (hzl:Nat.beq ie.zero.length ie.size=true)
  (hlen:(es.length+ys.length)*ie.bytes≤140737488355328) (hlen':es.length+ys.length≤9223372036854775807)
  (hK:K ⟨(d,.stk k 1 (es++ys))::(cX (λ i=>Nat.beq i k) ⟨sl,ob⟩).sl,(cX (λ i=>Nat.beq i k) ⟨sl,ob⟩).ob⟩):aY C o K ⟨sl,ob⟩:=by
 have hzl':=Nat.eq_of_beq_eq_true hzl
 have hk':k < M1:=Nat.blt_eq ▸ hk
 have hDl:∀ i,(Nat.beq i k)=true→i < M1:=by
  intro i hi
  have:=Nat.eq_of_beq_eq_true hi; omega
 intro g a w hs
 have hxr:=bp hs hx
 generalize hxv:a.eval x=xv at hxr
 have hrun0:∀ v w',(Builtin.append_ #[t,tx] o.type #[xv,a.eval y]).run C.P w=.ok v w'→(execOp a.eval o).run C.P w=.ok (.value v) w':=by
  intro v w' h
  rw [eg ho]
  simp [builtin,hxv,h]
 cases hxr with
 | stkn =>
  obtain ⟨v,w',g',hr',hst'⟩:=yn (es:=[]) (k:=k) (λ i=>Nat.beq i k) hDl (by simp) hi hik hie hj hjk hy hY hsz h1s hzl' hlen hlen' hs none 0 [] (run_firstCells_none w.drew ie.size 0 0 0) rfl (λ i x hx=>by simp at hx) (by simpa using hys) o.type hn
  unfold Oper.wp
  rw [hrun0 _ _ hr']
  simp only [Oper.upon,hd]
  exact ⟨g',_,hst',hK⟩
 | stk how hb hcs hlenc hszc hone hst hr =>
  rename_i b cap c e0
  rw [Nat.mul_one] at hcs
  have hcell:∀ (i:Nat) x,es[i]? = some x→∃ u,c[i]? = some u∧PRep w g.st x u:=by
   intro i x hx
   obtain ⟨v,h1,h2⟩:=hr i x 0 x hx (by rw [(hsz x (List.mem_append_left _ (List.mem_of_getElem? hx))).1]; rfl)
   exact ⟨v,by rw [Nat.mul_one,Nat.add_zero] at h1; exact h1,h2⟩
  by_cases hroom:es.length+ys.length≤cap
  ·obtain ⟨u,h1,h2⟩:=aW C.good hi
   have h3:=a6 (h2.trans hik)
   subst h3
   obtain ⟨u',h1',h2'⟩:=aW C.good hj
   have h3':=a6 (h2'.trans hjk)
   subst h3'
   obtain ⟨info,hf1,hf2,hf3,z,hf4,hf5⟩:=fX C.good hie
   have hyv:=fU hY (bp hs hy)
   have hszy:∀ y∈ys,y.cells=[y]:=λ y hy=>(hsz y (List.mem_append_right _ hy)).1
   obtain ⟨news,hsrc,hnews⟩:=tv (P:=C.P) (sz:=ie.size) h1' hyv (λ y hy=>by rw [hszy y hy,h1s]; rfl) (by omega)
   have hnl:news.length=ys.length:=by rw [hsrc.newsLen,h1s,Nat.mul_one]
   have hstc:=run_storeCells_at C.P b (es.length*ie.size) e0 news 0 c w hb (by rw [h1s]; simp; omega) hsrc.one
   simp only [Nat.add_zero] at hstc
   rw [h1s,Nat.mul_one] at hstc
   obtain ⟨c',hc'⟩:∃ c',c'=(c.toList.take es.length++news++c.toList.drop (es.length+news.length)).toArray:=⟨_,rfl⟩
   rw [← hc'] at hstc
   have hrr:=mu t tx o.type e info h1 hf1 b es.length cap (a.eval y) ys.length news (by rw [hf2]; exact hsrc) hroom (by rw [hf2,h1s,Nat.mul_one]; exact hstc)
   have hcell':∀ j,c'[j]? = if es.length≤j∧j < es.length+news.length then news[j - es.length]? else c[j]?:=by
    intro j
    rw [hc']
    have:=jJ c.toList news es.length (by simp; omega) j
    simpa using this
   have hcs':c'.size=cap:=by rw [← hcs,hc']; simp; omega
   have hin:=hs.inplace (λ i=>Nat.beq i k) hDl (k:=k) (d:=k) how (by simp) (by simp) hb (c':=c') (hcs'.trans hcs.symm) (λ o h=>by
    have:=(hst o).1 h
    rw [Array.getElem?_eq_none (by omega),Array.getElem?_eq_none (by omega)]) (λ o=>o=cap*1) (λ o h=>(hst o).1 h)
   have hEv:Ev w g.st (w.setRow b c') (λ b' o=>(b'=b∧o=cap*1)∨(b'≠b∧g.st b' o)):=by
    intro b' o h
    by_cases e1:b'=b
    ·subst e1
     have ho:=(hst o).1 h
     refine ⟨.inl ⟨rfl,ho⟩,?_⟩
     simp only [World.cell?,setRow_heap w b' c c' e0 (0,0) hb,hb]
     rw [Array.getElem?_eq_none (by omega),Array.getElem?_eq_none (by omega)]
    ·exact ⟨.inr ⟨e1,h⟩,by simp only [World.cell?,setRow_other w b b' c' e1]⟩
   have hlenA:(es++ys).length=es.length+ys.length:=List.length_append
   have hrep:ARep (w.setRow b c') ⟨λ b' o=>(b'=b∧o=cap*1)∨(b'≠b∧g.st b' o),λ i=>if i=k then some b else if (Nat.beq i k) then none else g.ow i⟩ (.stk k 1 (es++ys)) (.slice (some ⟨b,0,none⟩) (es++ys).length cap):=by
    refine .stk (by simp) (setRow_heap w b c c' e0 (0,0) hb) (by omega) (by omega) (λ x hx=>by rw [(hsz x hx).1]; rfl) (λ x hx c hc=>by rw [(hsz x hx).1] at hc; obtain rfl:=List.mem_singleton.1 hc; exact (hsz c hx).2) (λ o=>?_) (λ i x j p hx hp=>?_)
    ·constructor
     ·rintro (⟨_,h⟩ | ⟨h,_⟩)
      ·exact h
      ·exact absurd rfl h
     ·intro h; exact .inl ⟨rfl,h⟩
    ·rw [(hsz x (List.mem_of_getElem? hx)).1] at hp
     have hj:j=0:=by
      have:=(List.getElem?_eq_some_iff.1 hp).1
      simpa using this
     subst hj
     simp only [List.getElem?_cons_zero,Option.some.injEq] at hp
     subst hp
     rw [Nat.mul_one,Nat.add_zero]
     rw [List.getElem?_append] at hx
     split at hx
     ·rename_i hlt
      obtain ⟨u,hu,hr⟩:=hcell i x hx
      exact ⟨u,by rw [hcell',if_neg (by omega)]; exact hu,hr.mono hEv⟩
     ·rename_i hge
      have hi2:i - es.length < ys.length:=(List.getElem?_eq_some_iff.1 hx).1
      obtain ⟨_,u,hu,hr⟩:=hnews (i - es.length) x 0 x hx (by rw [hszy x (List.mem_of_getElem? hx)]; rfl)
      rw [h1s,Nat.mul_one,Nat.add_zero] at hu
      exact ⟨u,by rw [hcell',if_pos (by omega)]; exact hu,hr.mono hEv⟩
   rw [hlenA] at hrep
   have hp:=hin.put (d:=some d) (λ t ht=>by cases ht; exact Nat.blt_eq ▸ hn) hrep
   unfold Oper.wp
   rw [hrun0 _ _ hrr]
   simp only [Oper.upon,hd]
   exact ⟨_,_,hp,hK⟩
  ·have hlenT:(c.toList.take es.length).length=es.length:=by
    rw [List.length_take,show c.toList.length=cap from Array.length_toList.trans hcs]; omega
   have hold:(Builtin.firstCells ie.size es.length (.slice (some ⟨b,0,none⟩) es.length cap)).run C.P w.drew=.ok (c.toList.take es.length).toArray w.drew:=by
    refine run_firstCells_some w.drew ie.size es.length ⟨b,0,none⟩ es.length cap _ (by rw [hlenT,h1s,Nat.mul_one]) (λ j v hv=>?_)
    rw [List.getElem?_take] at hv
    split at hv
    ·rw [add_lit,Nat.zero_add,World.cell?_drew]
     simp only [World.cell?,hb]
     simpa using hv
    ·cases hv
   obtain ⟨v,w',g',hr',hst'⟩:=yn (es:=es) (k:=k) (λ i=>Nat.beq i k) hDl (by simp) hi hik hie hj hjk hy hY hsz h1s hzl' hlen hlen' hs (some ⟨b,0,none⟩) cap (c.toList.take es.length)
    hold hlenT (λ i x hx=>by
     obtain ⟨u,hu,hr⟩:=hcell i x hx
     exact ⟨u,by rw [List.getElem?_take,if_pos (List.getElem?_eq_some_iff.1 hx).1]; simpa using hu,hr⟩) (by omega) o.type hn
   unfold Oper.wp
   rw [hrun0 _ _ hr']
   simp only [Oper.upon,hd]
   exact ⟨g',_,hst',hK⟩
theorem B6 {t e:TypeId}{x:Operand}{i:TI}{k sz:Nat}{es:List PV}(ho:o.op=.call { callee:=.builtin .len,args:=#[x],argTypes:=#[t] })(hd:o.dst=some d)(hn:Nat.blt d C.n=true)
  (hi:look C.tt t=some i) (hik:i.k=.slice e) (hx:evo sl x=some (.stk k sz es))
  (hK:K ⟨(d,.p (.val (.int .i64 (es.length:Int))))::sl,ob⟩):aY C o K ⟨sl,ob⟩:=by
 obtain ⟨u,h1,h2⟩:=aW C.good hi
 have h3:=a6 (h2.trans hik)
 subst h3
 refine ok_one hd hn (λ g a w hs=>?_) hK
 have h5:=bp hs hx
 generalize hv:a.eval x=v at h5
 cases h5 with
 | stkn=>exact ⟨.int .i64 0,by rw [eg ho]; simp [builtin,hv,Builtin.len_,run_underlying h1,goInt],.p (.val _)⟩
 | stk how hb hcs hlenc hszc hone hst hr=>exact ⟨.int .i64 (es.length:Int),by rw [eg ho]; simp [builtin,hv,Builtin.len_,run_underlying h1,goInt],.p (.val _)⟩
theorem td {t e:TypeId}{x y:Operand}{i ie:TI}{k:IntKind}{n:Int}{id:Nat}{es:List PV}(ho:o.op=.indexAddr t x y)(hd:o.dst=some d)(hn:Nat.blt d C.n=true)
  (hi:look C.tt t=some i) (hik:i.k=.slice e) (hie:look C.tt e=some ie) (hx:evo sl x=some (.stk id 1 es))
  (hy:evo sl y=some (.p (.val (.int k n)))) (hsz:ie.size=1) (hb:0≤n∧n < (es.length:Int))
  (hK:K ⟨(d,.ptr id n.toNat)::sl,ob⟩):aY C o K ⟨sl,ob⟩:=by
 obtain ⟨u,h1,h2⟩:=aW C.good hi
 have h3:=a6 (h2.trans hik)
 subst h3
 refine ok_one hd hn (λ g a w hs=>?_) hK
 have h5:=bp hs hx
 generalize hv:a.eval x=v at h5
 cases h5 with
 | stkn=>simp at hb; omega
 | stk how hb' hcs hlenc hszc hone hst hr =>
  rename_i b cap c e'
  exact ⟨.pointer (some ⟨b,n.toNat,none⟩),by simp [execOp,ho,hv,bu hs hy,Instr.indexAt,asIntOf,run_underlying h1,hb.1,hb.2,run_sizeOf C.good hie,hsz,add_lit],.ptr how⟩
theorem zq {t:TypeId}{x:Operand}{i:TI}{id n q:Nat}{es:List PV}{y:PV}(ho:o.op=.load t x)(hd:o.dst=some d)(hn:Nat.blt d C.n=true)
  (hi:look C.tt t=some i) (hia:i.k.isAgg=false) (hx:evo sl x=some (.ptr id n)) (hq:look sl q=some (.stk id 1 es)) (hy:es[n]? = some y) (hyc:y.cells=[y])
  (hK:K ⟨(d,.p y)::sl,ob⟩):aY C o K ⟨sl,ob⟩:=by
 refine ok_one hd hn (λ g a w hs=>?_) hK
 have h5:=bp hs hx
 generalize hv:a.eval x=v at h5
 cases h5 with
 | ptr how =>
  rename_i b
  have h6:=hs.sl q
  simp only [AS.get,hq,Option.getD_some] at h6
  generalize a.tmps.getD q Go.undef=vq at h6
  cases h6 with
  | stkn=>simp at hy
  | stk how2 hb hcs hlen hsz hone hst hr =>
   rw [how] at how2; cases how2
   obtain ⟨u,hu,hr2⟩:=hr n y 0 y hy (by rw [hyc]; rfl)
   rw [Nat.mul_one,Nat.add_zero] at hu
   have hc:=(kR hs hb n).trans hu
   exact ⟨u,by simp [execOp,ho,hv,Instr.loadAt,Instr.sureAddr,lF C.good hi hia hc],.p hr2⟩
theorem xZ {t e:TypeId}{x:Operand}{hi:Option Operand}{id:Nat}{es:List PV}{h:Int}{i ie:TI}(ho:o.op=.slice t x none hi none)(hd:o.dst=some d)(hn:Nat.blt d C.n=true)
  (hi':look C.tt t=some i) (hik:i.k=.slice e) (hie:look C.tt e=some ie) (hx:evo sl x=some (.stk id 1 es)) (hhi:hiI sl (es.length:Int) hi=some h)
  (hb:0≤h∧h≤es.length) (hsz1:ie.size=1) (hK:K ⟨(d,.stk id 1 (es.take h.toNat))::sl,ob⟩):aY C o K ⟨sl,ob⟩:=by
 obtain ⟨u,h1,h2⟩:=aW C.good hi'
 have h3:=a6 (h2.trans hik)
 subst h3
 refine ok_one hd hn (λ g a w hs=>?_) hK
 have hv:=bp hs hx
 generalize hq:a.eval x=v at hv
 cases hv with
 | stkn =>
  simp only [List.length_nil] at hb hhi
  have e2:h=0:=by omega
  subst e2
  have e:=fc (P:=C.P) hs true 0 0 none hi (l:=0) rfl hhi (by omega) (Nat.le_refl _)
  refine ⟨.slice none 0 0,?_,by simpa using ARep.stkn _ _⟩
  simp at e
  simp [execOp,ho,hq,Instr.sliceAt,Instr.slice,run_underlying h1,e,run_sizeOf C.good hie]
 | stk how hb2 hcs hlen hszc hone hst hr =>
  rename_i b cap c e0
  have e:=fc (P:=C.P) hs true es.length cap none hi (l:=0) rfl hhi ⟨by omega,hb.1,by omega⟩ hlen
  have hlt:(es.take h.toNat).length=h.toNat:=by rw [List.length_take]; omega
  refine ⟨.slice (some ⟨b,0,none⟩) (es.take h.toNat).length cap,?_,.stk how hb2 hcs (by omega) (λ x hx=>hszc x (List.mem_of_mem_take hx)) (λ x hx=>hone x (List.mem_of_mem_take hx)) hst (λ i x j p hx hp=>?_)⟩
  ·simp at e
   simp [execOp,ho,hq,Instr.sliceAt,Instr.slice,run_underlying h1,e,run_sizeOf C.good hie,add_lit,hlt]
   try omega
  ·rw [List.getElem?_take] at hx
   split at hx
   ·exact hr i x j p hx hp
   ·cases hx
end
theorem DF (D:Nat→Bool):∀ (l:List PV),dmC D (l.map .p)=some (l.map .p)
 | []=>rfl
 | x::r=>by
  have h:=DF D r
  simp only [List.map_cons,dmC,AV.dem,h]
  first | rfl | (simp [frc])
theorem yA {D:Nat→Bool}{i:Nat}{l:List PV}{r r':List (Nat×List AV)}(h:D i=false)(hr:dmO D r=some r'):dmO D ((i,l.map .p)::r)=some ((i,l.map .p)::r'):=by
 simp only [dmO,h,DF,hr]
theorem AV.sub_nilstk (tok sz:Nat):(AV.p (.val (.slice none 0 0))).sub (.stk tok sz []):=by
 intro w g v h
 cases h with
 | p h=>cases h; exact .stkn _ _
section
variable {C:Cx} {o:Oper} {K:AS→Prop} {sl:List (Nat×AV)} {ob:List (Nat×List AV)} {d:Nat}
theorem zM {α:Type}(f:α→PV)(L:List (Bytes×List α)){t kt et:TypeId}{x y:Operand}{i j:TI}{tok sz ty:Nat}{tk:Option Bytes}{k:Bytes}(ho:o.op=.lookup t x y false)(hd:o.dst=some d)(hn:Nat.blt d C.n=true)
  (hi:look C.tt t=some i) (hik:i.k=.map kt et) (hj:look C.tt kt=some j) (hjk:j.k=.string) (hz:(C.P.info? et).map (·.zero)=some (some (.slice none 0 0)))
  (hx:evo sl x=some (.mpr tok sz ty tk (L.map λ p=>(p.1,p.2.map f)))) (hy:evo sl y=some (.p (eS k))) (hK:K ⟨(d,.p (.slice (((dC L k).getD []).map f)))::sl,ob⟩):aY C o K ⟨sl,ob⟩:=by
 refine Bq ho hd hn hi hik hj hjk hz hx hy ?_ hK
 rw [qE (λ l:List α=>l.map f)]
 cases dC L k with
 | none=>rfl
 | some v=>rfl
theorem zm {α:Type}(f:α→PV)(L:List (Bytes×List α)){t kt et:TypeId}{x y:Operand}{i j:TI}{tok sz ty:Nat}{k:Bytes}{sl':List (Nat×AV)}{ob':List (Nat×List AV)}(ho:o.op=.lookup t x y false)(hd:o.dst=some d)(hn:Nat.blt d C.n=true)
  (hi:look C.tt t=some i) (hik:i.k=.map kt et) (hj:look C.tt kt=some j) (hjk:j.k=.string) (hz:(C.P.info? et).map (·.zero)=some (some (.slice none 0 0)))
  (hx:evo sl x=some (.mpr tok sz ty none (L.map λ p=>(p.1,p.2.map f)))) (hy:evo sl y=some (.p (eS k))) (htok:Nat.blt tok M1=true) (hdt:Nat.beq d tok=false)
  (h1:tkS tok d (.mpr tok sz ty (some k) (L.map λ p=>(p.1,p.2.map f))) sl=some sl') (h2:tkO d tok ob=some ob') (hK:K ⟨(d,.vec d sz ty (((dC L k).getD []).map f))::sl',ob'⟩):aY C o K ⟨sl,ob⟩:=by
 refine BB ho hd hn hi hik hj hjk hz hx hy ?_ htok hdt h1 h2 hK
 rw [qE (λ l:List α=>l.map f)]
 cases dC L k with
 | none=>rfl
 | some v=>rfl
theorem A7 {α:Type}(f:α→PV)(L:List (Bytes×List α))(u:List α){t kt et:TypeId}{x y v:Operand}{i j:TI}{tok sz ty e:Nat}{k:Bytes}{sl':List (Nat×AV)}{ob':List (Nat×List AV)}(ho:o.op=.mapUpdate t x y v)(hd:o.dst=none)
  (hi:look C.tt t=some i) (hik:i.k=.map kt et) (hj:look C.tt kt=some j) (hjk:j.k=.string)
  (hx:evo sl x=some (.mpr tok sz ty (some k) (L.map λ p=>(p.1,p.2.map f)))) (hy:evo sl y=some (.p (eS k))) (hv:evo sl v=some (.vec e sz ty (u.map f))) (htok:Nat.blt tok M1=true) (hel:Nat.blt e M1=true) (het:Nat.beq e tok=false)
  (h1:tkS tok e (.mpr tok sz ty none ((mH L k u).map λ p=>(p.1,p.2.map f))) sl=some sl') (h2:tkO e tok ob=some ob') (hK:K ⟨sl',ob'⟩):aY C o K ⟨sl,ob⟩ :=
 Dp ho hd hi hik hj hjk hx hy hv htok hel het (wM (λ l:List α=>l.map f) L k u) h1 h2 hK
theorem wc {α:Type}(f:α→PV)(hf:∀ x,(f x).cells=[f x]∧(f x).one=true)(l0 l:List α){t tx e e':TypeId}{x y:Operand}{k:Nat}{Y:AV}{i ie j:TI}{sl':List (Nat×AV)}{ob':List (Nat×List AV)}(ho:o.op=.call { callee:=.builtin .append,args:=#[x,y],argTypes:=#[t,tx] })(hd:o.dst=some d)(hn:Nat.blt d C.n=true)
  (hi:look C.tt t=some i) (hik:i.k=.slice e) (hie:look C.tt e=some ie) (hj:look C.tt tx=some j) (hjk:j.k=.slice e') (hx:evo sl x=some (.stk k 1 (l0.map f))) (hk:Nat.blt k M1=true)
  (hy:evo sl y=some Y) (hY:Y.elems? = some (l.map f)) (hys:0 < l.length) (h1s:ie.size=1) (hzl:Nat.beq ie.zero.length ie.size=true) (hby:Nat.blt 0 ie.bytes=true)
  (hlen:(l0.length+l.length)*ie.bytes≤140737488355328) (h1:dmS (λ i=>Nat.beq i k) sl=some sl') (h2:dmO (λ i=>Nat.beq i k) ob=some ob')
  (hK:K ⟨(d,.stk k 1 ((l0++l).map f))::sl',ob'⟩):aY C o K ⟨sl,ob⟩:=by
 have hby':1≤ie.bytes:=Nat.succ_le_of_lt (by simpa using hby)
 have h3:(l0.length+l.length)*1≤(l0.length+l.length)*ie.bytes:=Nat.mul_le_mul_left _ hby'
 refine vN ho hd hn hi hik hie hj hjk hx hk hy hY (λ y hy=>?_) (by simpa using hys) h1s hzl (by rw [List.length_map,List.length_map]; exact hlen) (by rw [List.length_map,List.length_map]; omega) ?_
 ·rw [← List.map_append] at hy
  obtain ⟨x,_,rfl⟩:=List.mem_map.1 hy
  exact hf x
 ·rw [← List.map_append]
  simp only [cX]
  rw [← qM h1,← py h2]
  exact hK
theorem sX {α:Type}(f:α→PV)(l:List α){t e:TypeId}{x:Operand}{i:TI}{k sz:Nat}(ho:o.op=.call { callee:=.builtin .len,args:=#[x],argTypes:=#[t] })(hd:o.dst=some d)(hn:Nat.blt d C.n=true)
  (hi:look C.tt t=some i) (hik:i.k=.slice e) (hx:evo sl x=some (.stk k sz (l.map f))) (hK:K ⟨(d,.p (eI (l.length:Int)))::sl,ob⟩):aY C o K ⟨sl,ob⟩ :=
 B6 ho hd hn hi hik hx (by rw [List.length_map]; exact hK)
theorem tW {α:Type}(f:α→PV)(l:List α){t e:TypeId}{x y:Operand}{i ie:TI}{k:IntKind}{n:Int}{id:Nat}(ho:o.op=.indexAddr t x y)(hd:o.dst=some d)(hn:Nat.blt d C.n=true)
  (hi:look C.tt t=some i) (hik:i.k=.slice e) (hie:look C.tt e=some ie) (hx:evo sl x=some (.stk id 1 (l.map f)))
  (hy:evo sl y=some (.p (.val (.int k n)))) (hsz:ie.size=1) (hb:0≤n∧n < (l.length:Int)) (hK:K ⟨(d,.ptr id n.toNat)::sl,ob⟩):aY C o K ⟨sl,ob⟩ :=
 td ho hd hn hi hik hie hx hy hsz (by rw [List.length_map]; exact hb) hK
theorem zv {α:Type} [Inhabited α] (f:α→PV)(hf:∀ x,(f x).cells=[f x]∧(f x).one=true)(l:List α)(q:Nat){t:TypeId}{x:Operand}{i:TI}{id:Nat}{n:Int}(ho:o.op=.load t x)(hd:o.dst=some d)(hn:Nat.blt d C.n=true)
  (hi:look C.tt t=some i) (hia:i.k.isAgg=false) (hx:evo sl x=some (.ptr id n.toNat)) (hq:look sl q=some (.stk id 1 (l.map f))) (hb:0≤n∧n < (l.length:Int))
  (hK:K ⟨(d,.p (f (lat l n)))::sl,ob⟩):aY C o K ⟨sl,ob⟩:=by
 refine zq ho hd hn hi hia hx hq ?_ (hf _).1 hK
 obtain ⟨m,rfl⟩:∃ m:Nat,n=m:=⟨n.toNat,by omega⟩
 have hm:m < l.length:=by omega
 rw [Int.toNat_natCast,List.getElem?_map,List.getElem?_eq_getElem hm,d7 l m hm]
 rfl
theorem w7 {α:Type}(f:α→PV)(l:List α){t e:TypeId}{x:Operand}{hi:Option Operand}{id:Nat}{h:Int}{i ie:TI}(ho:o.op=.slice t x none hi none)(hd:o.dst=some d)(hn:Nat.blt d C.n=true)
  (hi':look C.tt t=some i) (hik:i.k=.slice e) (hie:look C.tt e=some ie) (hx:evo sl x=some (.stk id 1 (l.map f))) (hhi:hiI sl (l.length:Int) hi=some h)
  (hb:0≤h∧h≤(l.length:Int)) (hsz1:ie.size=1) (hK:K ⟨(d,.stk id 1 ((l.take h.toNat).map f))::sl,ob⟩):aY C o K ⟨sl,ob⟩ :=
 xZ ho hd hn hi' hik hie hx (by rw [List.length_map]; exact hhi) (by rw [List.length_map]; exact hb) hsz1 (by rw [← List.map_take]; exact hK)
end
end Go.Ab
end
section
set_option linter.unusedVariables false
set_option linter.unusedSimpArgs false
set_option linter.unnecessarySimpa false
namespace Go.Ab
section
variable {C:Cx} {o:Oper} {K:AS→Prop} {sl:List (Nat×AV)} {ob:List (Nat×List AV)} {d:Nat}
theorem uG {t e:TypeId}{x:Operand}{i:TI}(ho:o.op=.call { callee:=.builtin .len,args:=#[x],argTypes:=#[t] })(hd:o.dst=some d)(hn:Nat.blt d C.n=true)
  (hi:look C.tt t=some i) (hik:i.k=.slice e) (hx:evo sl x=some (.p (.val (.slice none 0 0))))
  (hK:K ⟨(d,.p (.val (.int .i64 0)))::sl,ob⟩):aY C o K ⟨sl,ob⟩:=by
 obtain ⟨u,h1,h2⟩:=aW C.good hi
 have h3:=a6 (h2.trans hik)
 subst h3
 exact ok_one hd hn (λ g a w hs=>⟨.int .i64 0,by rw [eg ho]; simp [builtin,bu hs hx,Builtin.len_,run_underlying h1,goInt],.p (.val _)⟩) hK
theorem uL {t e:TypeId}{x:Operand}{i:TI}(ho:o.op=.call { callee:=.builtin .cap,args:=#[x],argTypes:=#[t] })(hd:o.dst=some d)(hn:Nat.blt d C.n=true)
  (hi:look C.tt t=some i) (hik:i.k=.slice e) (hx:evo sl x=some (.p (.val (.slice none 0 0))))
  (hK:K ⟨(d,.p (.val (.int .i64 0)))::sl,ob⟩):aY C o K ⟨sl,ob⟩:=by
 obtain ⟨u,h1,h2⟩:=aW C.good hi
 have h3:=a6 (h2.trans hik)
 subst h3
 exact ok_one hd hn (λ g a w hs=>⟨.int .i64 0,by rw [eg ho]; simp [builtin,bu hs hx,Builtin.cap_,run_underlying h1,goInt],.p (.val _)⟩) hK
theorem vK {t e:TypeId}{x:Operand}{hi:Option Operand}{h:Int}{i ie:TI}(ho:o.op=.slice t x none hi none)(hd:o.dst=some d)(hn:Nat.blt d C.n=true)
  (hi':look C.tt t=some i) (hik:i.k=.slice e) (hie:look C.tt e=some ie) (hx:evo sl x=some (.p (.val (.slice none 0 0)))) (hhi:hiI sl 0 hi=some h) (hb:0≤h∧h≤0)
  (hK:K ⟨(d,.p (.val (.slice none 0 0)))::sl,ob⟩):aY C o K ⟨sl,ob⟩:=by
 obtain ⟨u,h1,h2⟩:=aW C.good hi'
 have h3:=a6 (h2.trans hik)
 subst h3
 refine ok_one hd hn (λ g a w hs=>?_) hK
 have e2:h=0:=by omega
 subst e2
 have e:=fc (P:=C.P) hs true 0 0 none hi (l:=0) rfl hhi (by omega) (Nat.le_refl _)
 refine ⟨.slice none 0 0,?_,.p (.val _)⟩
 simp at e
 simp [execOp,ho,bu hs hx,Instr.sliceAt,Instr.slice,run_underlying h1,e,run_sizeOf C.good hie]
theorem xA {t tx e:TypeId}{x y:Operand}{k k':IntKind}{n:Int}{i ie j:TI}(ho:o.op=.call { callee:=.builtin .append,args:=#[x,y],argTypes:=#[t,tx] })(hd:o.dst=some d)(hn:Nat.blt d C.n=true)
  (hi:look C.tt t=some i) (hik:i.k=.slice e) (hie:look C.tt e=some ie) (hj:look C.tt tx=some j) (hjk:j.k=.int k') (hx:evo sl x=some (.p (.val (.slice none 0 0)))) (hy:evo sl y=some (.p (.val (.int k n))))
  (h0:Nat.blt 0 ie.size=true) (hzl:Nat.beq ie.zero.length ie.size=true) (hby:Nat.blt 0 ie.bytes=true) {sz:Nat} (hsz:ie.size=sz)
  (hb:0 < n∧n*(ie.bytes:Int)≤140737488355328) {sl':List (Nat×AV)} {ob':List (Nat×List AV)} (h1':dmS (λ i=>Nat.beq i d) sl=some sl') (h2':dmO (λ i=>Nat.beq i d) ob=some ob')
  (hK:K ⟨(d,.arr d sz 0 n.toNat)::sl',(d,[])::ob'⟩):aY C o K ⟨sl,ob⟩:=by
 subst hsz
 obtain ⟨u,h1,h2⟩:=aW C.good hi
 have h3:=a6 (h2.trans hik)
 subst h3
 obtain ⟨u',h1j,h2j⟩:=aW C.good hj
 have h3':=jc (h2j.trans hjk)
 subst h3'
 obtain ⟨info,hf1,hf2,hf3,z,hf4,hf5⟩:=fX C.good hie
 have h0':0 < ie.size:=by simpa using h0
 have hby':1≤ie.bytes:=Nat.succ_le_of_lt (by simpa using hby)
 have hzl':=Nat.eq_of_beq_eq_true hzl
 obtain ⟨m,rfl⟩:∃ m:Nat,n=m:=⟨n.toNat,by omega⟩
 have hm0:0 < m:=by omega
 have hb2:m*ie.bytes≤140737488355328:=by have:=hb.2; rw [← Int.natCast_mul] at this; omega
 have hmm:m*1≤m*ie.bytes:=Nat.mul_le_mul_left _ hby'
 have hdl:d < M1:=by have h1:=Nat.le_of_ble_eq_true C.nl; have h2:d < C.n:=Nat.blt_eq ▸ hn; omega
 intro g a w hs
 have hrun:=Go.Lib.run_append_nil_zeros (P:=C.P) w t tx o.type e info z k k' h1 h1j hf1 hf4 m hm0 (by rw [hf2]; exact h0') (by omega) (by rw [hf3]; omega)
 obtain ⟨q,hq⟩:∃ q,q=grownCap w m 0 e:=⟨_,rfl⟩
 rw [← hq] at hrun
 have hqn:m≤q:=by rw [hq]; unfold grownCap; simp only [Question.cut]; omega
 have hzs:z.cells.size=ie.size:=by rw [← hzl',← hf5,Array.length_toList]
 obtain ⟨c,hc⟩:∃ c,c=Builtin.zeroCells z.cells m++Builtin.zeroCells z.cells (q - m):=⟨_,rfl⟩
 rw [← hc] at hrun
 have hcs:c.size=0+q*ie.size:=by
  rw [hc,Array.size_append,size_zeroCells,size_zeroCells,hzs,← Nat.add_mul]
  congr 1
  first | omega | (rw [Nat.zero_add]; congr 1; omega)
 have hf:=hs.drew.fresh (λ i=>Nat.beq i d) (λ i hi=>by have:=Nat.eq_of_beq_eq_true hi; omega) d (by simp) (λ _=>False) c e
 have hp:=hf.put (d:=some d) (λ t ht=>by cases ht; exact Nat.blt_eq ▸ hn) (x:=.arr d ie.size 0 m) (v:=.slice (some ⟨w.drew.heap.size,0,none⟩) m q) (.arr (by simp) cr hcs hqn)
 have hob:=hp.addOb (d:=d) (cs:=[]) (by
  refine ⟨w.drew.heap.size,c,e,by simp,cr,by simp,λ o ho=>?_,λ i x hx=>by simp at hx⟩
  rcases ho with ho | ⟨_,ho⟩
  ·exact absurd (hs.lt _ _ ho) (Nat.lt_irrefl _)
  ·exact ho)
 have hrun':(execOp a.eval o).run C.P w=.ok (.value (.slice (some ⟨w.heap.size,0,none⟩) m q)) (w.drew.alloc (.cells c e)):=by
  rw [eg ho]
  simp [builtin,bu hs hx,bu hs hy,hrun]
 unfold Oper.wp
 rw [hrun']
 simp only [Oper.upon,hd]
 refine ⟨_,_,hob,?_⟩
 simp only [cX]
 rw [← qM h1',← py h2']
 exact hK
theorem wj {t e:TypeId}{x:Operand}{hi:Option Operand}{id sz n:Nat}{h:Int}{i ie:TI}(ho:o.op=.slice t x none hi none)(hd:o.dst=some d)(hn:Nat.blt d C.n=true)
  (hi':look C.tt t=some i) (hik:i.k=.slice e) (hie:look C.tt e=some ie) (hx:evo sl x=some (.arr id sz 0 n)) (hhi:hiI sl (n:Int) hi=some h) (hb:0≤h∧h≤(n:Int))
  (hK:K ⟨(d,.arr id sz 0 h.toNat)::sl,ob⟩):aY C o K ⟨sl,ob⟩:=by
 obtain ⟨u,h1,h2⟩:=aW C.good hi'
 have h3:=a6 (h2.trans hik)
 subst h3
 refine ok_one hd hn (λ g a w hs=>?_) hK
 have hv:=bp hs hx
 generalize hq:a.eval x=v at hv
 cases hv with
 | arr how hb2 hcs hnc =>
  rename_i b cap c e0
  have e:=fc (P:=C.P) hs true n cap none hi (l:=0) rfl hhi ⟨by omega,hb.1,by omega⟩ hnc
  refine ⟨.slice (some ⟨b,0,none⟩) h.toNat cap,?_,.arr how hb2 hcs (by omega)⟩
  simp at e
  simp [execOp,ho,hq,Instr.sliceAt,Instr.slice,run_underlying h1,e,run_sizeOf C.good hie,add_lit]
  try omega
theorem xy {α:Type}(f:α→PV)(l:List α){t e len:Nat}{parts:Array (Nat×Operand)}{i ie:TI}{es:List PV}{sz:Nat}(ho:o.op=.buildSlice t len parts)(hd:o.dst=some d)(hn:Nat.blt d C.n=true)
  (hi:look C.tt t=some i) (hik:i.k=.slice e) (hie:look C.tt e=some ie) (hes:kU sl 0 parts.toList=some es) (hlen:Nat.beq es.length len=true) (hpos:Nat.blt 0 len=true)
  (hk:Nat.blt 0 ie.size=true) (hsm:Nat.ble (len*ie.size) 16777216=true) (hsz:pC ie.size es=true) (hzl:Nat.beq ie.zero.length ie.size=true) (he:es=l.map f) (hsz1:ie.size=sz)
  {sl':List (Nat×AV)} {ob':List (Nat×List AV)} (h1':dmS (λ i=>Nat.beq i d) sl=some sl') (h2':dmO (λ i=>Nat.beq i d) ob=some ob')
  (hK:K ⟨(d,.vec d sz 0 (l.map f))::sl',ob'⟩):aY C o K ⟨sl,ob⟩:=by
 subst hsz1
 rw [← he] at hK
 clear he
 obtain ⟨u,h1,h2⟩:=aW C.good hi
 have h3:=a6 (h2.trans hik)
 subst h3
 have hlen':es.length=len:=Nat.eq_of_beq_eq_true hlen
 have hpos':0 < len:=by simpa using hpos
 have hk':0 < ie.size:=by simpa using hk
 have hsm':=Nat.le_of_ble_eq_true hsm
 have hzl':=Nat.eq_of_beq_eq_true hzl
 have hdl:d < M1:=by have h1:=Nat.le_of_ble_eq_true C.nl; have h2:d < C.n:=Nat.blt_eq ▸ hn; omega
 obtain ⟨j,hj,hj1,hj2,z,hz1,hz2⟩:=fX C.good hie
 intro g a w hs
 obtain ⟨q1,q2,q3⟩:=nK hs _ 0 es hes
 obtain ⟨vs,hvs⟩:∃ vs,vs=parts.toList.map λ p=>a.eval p.2:=⟨_,rfl⟩
 rw [← hvs] at q1 q3
 have hvl:es.length=vs.length:=by rw [hvs,List.length_map]; exact q2
 have hzs:z.cells.size=ie.size:=by rw [← hzl',← hz2,Array.length_toList]
 have hvsz:∀ v∈vs,v.cells.size=ie.size:=by
  intro v hv
  obtain ⟨m,hm,rfl⟩:=List.getElem_of_mem hv
  have hp:=q3 m (es[m]'(by omega)) _ (List.getElem?_eq_getElem (by omega)) (List.getElem?_eq_getElem hm)
  obtain ⟨m1,m2⟩:=gT hsz (es[m]'(by omega)) (List.getElem_mem _)
  rw [(pH hp m2).1,m1]
 obtain ⟨r,f1,f2,f3⟩:=Great.fill_dense hk' vs 0 ((Array.range (len*ie.size)).map (z.cells[· % z.cells.size]!)) hvsz (by simp; rw [← hvl,hlen']; exact Nat.le_refl _)
 have f1':Instr.fill (λ i=>some (i*ie.size,ie.size)) ((Array.range (len*ie.size)).map (z.cells[· % z.cells.size]!)) (parts.map λ (i,x)=>(i,a.eval x)).toList=some r:=by
  rw [Array.toList_map]; rw [← f1]; congr 1
 have hrun:=run_buildSlice (P:=C.P) w t e len (parts.map λ (i,x)=>(i,a.eval x)) r j z h1 hj hz1 (by rw [hj1]; omega) (by rw [hj1]; have:=Nat.mul_pos hpos' hk'; omega) (by rw [hj1]; exact f1')
 unfold Oper.wp
 have hrun':(execOp a.eval o).run C.P w=.ok (.value (.slice (some ⟨w.heap.size,0,none⟩) len len)) (w.alloc (.cells r e)):=by
  simp only [execOp,ho,Sem.run_bind,hrun,Result.andThen_ok,Sem.run_pure]
 rw [hrun']
 have hrs:r.size=len*ie.size:=by rw [f2]; simp
 have hprep:=ws (e:=e) hk' hvl hs.lt q3 hsz (r:=r) (by rw [f2]; simp; rw [hlen']) (λ m hm=>by rw [f3 m,if_pos (by simp; rw [← hvl]; exact hm)]; simp) len (by omega)
 have hf:=hs.fresh (λ i=>Nat.beq i d) (λ i hi=>by have:=Nat.eq_of_beq_eq_true hi; omega) d (by simp) (λ o=>o < es.length*ie.size) r e
 have hv:ARep (w.alloc (.cells r e)) ⟨λ b o=>g.st b o∨(b=w.heap.size∧o < es.length*ie.size),λ i=>if i=d then some w.heap.size else if Nat.beq i d then none else g.ow i⟩ (.vec d ie.size 0 es) (.slice (some ⟨w.heap.size,0,none⟩) es.length len):=by
  refine .vec (by simp) cr (by rw [hrs,Nat.zero_add]) (λ x hx=>(gT hsz x hx).1) (λ o=>?_) hprep (.inl rfl)
  rw [Nat.zero_add]
  constructor
  ·rintro (h | ⟨_,h⟩)
   ·exact absurd (hs.lt _ _ h) (Nat.lt_irrefl _)
   ·exact h
  ·intro h; exact .inr ⟨rfl,h⟩
 have hst:=hf.put (d:=o.dst) (λ t ht=>by rw [hd] at ht; cases ht; exact Nat.blt_eq ▸ hn) hv
 rw [hlen'] at hst
 simp only [Oper.upon]
 rw [hd] at hst ⊢
 refine ⟨_,_,hst,?_⟩
 simp only [AS.put,cX]
 rw [← qM h1',← py h2']
 exact hK
theorem vS {α:Type}(f:α→PV)(l:List α){t e:TypeId}{x:Operand}{lo:Option Operand}{id sz:Nat}{h:Int}{i ie:TI}(ho:o.op=.slice t x lo none none)(hd:o.dst=some d)(hn:Nat.blt d C.n=true)
  (hi':look C.tt t=some i) (hik:i.k=.slice e) (hie:look C.tt e=some ie) (hx:evo sl x=some (.vec id sz 0 (l.map f))) (hlo:loI sl lo=some h) (hb:0≤h∧h≤(l.length:Int)) (hsz1:ie.size=sz)
  (hK:K ⟨(d,.vec id sz 0 ((l.drop h.toNat).map f))::sl,ob⟩):aY C o K ⟨sl,ob⟩:=by
 subst hsz1
 obtain ⟨u,h1,h2⟩:=aW C.good hi'
 have h3:=a6 (h2.trans hik)
 subst h3
 refine ok_one hd hn (λ g a w hs=>?_) hK
 have hv:=bp hs hx
 obtain ⟨m,rfl⟩:∃ m:Nat,h=m:=⟨h.toNat,by omega⟩
 rw [Int.toNat_natCast,List.map_drop]
 have hbl:m≤(l.map f).length:=by rw [List.length_map]; omega
 clear hb hx hK
 generalize l.map f=es at hv hbl ⊢
 generalize hq:a.eval x=v at hv
 cases hv with
 | vecn =>
  have e1:m=0:=by simpa using hbl
  subst e1
  have e:=fc (P:=C.P) hs true 0 0 lo none (h:=0) hlo rfl (by omega) (Nat.le_refl _)
  refine ⟨.slice none 0 0,?_,by simpa using ARep.vecn _ _ _⟩
  simp at e
  simp [execOp,ho,hq,Instr.sliceAt,Instr.slice,run_underlying h1,e,run_sizeOf C.good hie]
 | vece =>
  rename_i a0
  have e1:m=0:=by simpa using hbl
  subst e1
  have e:=fc (P:=C.P) hs true 0 0 lo none (h:=0) hlo rfl (by omega) (Nat.le_refl _)
  refine ⟨.slice (some a0) 0 0,?_,by simpa using ARep.vece _ _ _⟩
  simp at e
  simp [execOp,ho,hq,Instr.sliceAt,Instr.slice,run_underlying h1,e,run_sizeOf C.good hie]
 | vec how hb2 hcs hsz hst hr hty =>
  rename_i b off cap c e0
  have hcap:es.length≤cap:=by cases hr with | nile _=>exact Nat.le_refl _ | slice _ _ hcap=>exact hcap
  have e:=fc (P:=C.P) hs true es.length cap lo none (h:=(es.length:Int)) hlo rfl ⟨by omega,by omega,by omega⟩ hcap
  have hdl:(es.drop m).length=es.length - m:=List.length_drop
  have hrun:(execOp a.eval o).run C.P w=.ok (.value (.slice (if cap=m then some ⟨b,off,none⟩ else some ⟨b,off+m*ie.size,none⟩) (es.length - m) (cap - m))) w:=by
   simp at e
   simp [execOp,ho,hq,Instr.sliceAt,Instr.slice,run_underlying h1,e,run_sizeOf C.good hie,add_lit]
  refine ⟨_,hrun,?_⟩
  by_cases hc:cap=m
  ·rw [if_pos hc]
   have e3:es.drop m=[]:=List.drop_eq_nil_of_le (by omega)
   rw [e3,show es.length - m=0 by omega,show cap - m=0 by omega]
   exact .vece _ _ _
  ·rw [if_neg hc,← hdl]
   refine .vec how hb2 ?_ (λ x hx=>hsz x (List.mem_of_mem_drop hx)) (λ o=>(hst o).trans ?_) ?_ (.inl rfl)
   ·rw [hcs,Nat.sub_mul,Nat.add_assoc]
    have:=Nat.mul_le_mul_right ie.size (show m≤cap by omega)
    omega
   ·rw [hdl,Nat.sub_mul,Nat.add_assoc]
    have:=Nat.mul_le_mul_right ie.size hbl
    rw [show off+(m*ie.size+(es.length*ie.size - m*ie.size))=off+es.length*ie.size by omega]
   ·cases hr with
    | nile _=>exact absurd (by simp at hbl; omega) hc
    | slice sz' cf hcap' hsz' hone hcc hrr =>
     by_cases hne:es.drop m=[]
     ·rw [hne]
      exact .slice sz' cf (Nat.zero_le _) (λ e he=>by cases he) (λ e he=>by cases he) (λ i e j c h=>by simp at h) (λ i e j c h=>by simp at h)
     ·obtain ⟨y,hy⟩:=List.exists_mem_of_ne_nil _ hne
      have e1:sz'=ie.size:=(hsz' y (List.mem_of_mem_drop hy)).symm.trans (hsz y (List.mem_of_mem_drop hy))
      subst e1
      refine .slice ie.size (λ i j=>cf (m+i) j) (by omega) (λ x hx=>hsz x (List.mem_of_mem_drop hx)) (λ x hx=>hone x (List.mem_of_mem_drop hx)) (λ i e j c h1 h2=>?_) (λ i e j c h1 h2=>?_)
      ·rw [List.getElem?_drop] at h1
       have:=hcc (m+i) e j c h1 h2
       rw [Nat.add_mul,show off+(m*ie.size+i*ie.size)+j=off+m*ie.size+i*ie.size+j by omega] at this
       exact this
      ·rw [List.getElem?_drop] at h1
       exact hrr (m+i) e j c h1 h2
theorem vg {j k sz n:Nat}{cs:List AV}(hj:look sl j=some (.arr k sz 0 n))(hn:n=0)(hob:look ob k=some cs):dh C ⟨sl,ob⟩ ⟨(j,.vec k sz 0 [])::sl,ob⟩:=by
 subst hn
 intro g a w hs
 refine ⟨g,{ hs with sl:=λ i=>?_ }⟩
 simp only [AS.get,aV]
 by_cases e:j=i
 ·subst e
  rw [if_pos rfl]
  have h6:=hs.sl j
  simp only [AS.get,hj,Option.getD_some] at h6
  generalize a.tmps.getD j Go.undef=vq at h6 ⊢
  simp only [Option.getD_some]
  cases h6 with
  | arr how hb hcs hnc =>
   rename_i b cap c e0
   obtain ⟨b',c',e',h1,h2,h3,h4,h5⟩:=hs.ob k cs hob
   rw [how] at h1; cases h1
   exact .vec (es:=[]) (off:=0) how hb (by omega) (λ e he=>by cases he) (λ o=>⟨λ h=>absurd h (h4 o),λ h=>by simp at h⟩) (.slice sz (λ _ _=>Go.undef) (Nat.zero_le _) (λ e he=>by cases he) (λ e he=>by cases he) (λ i e j c h=>by simp at h) (λ i e j c h=>by simp at h)) (.inl rfl)
 ·rw [if_neg e]; exact hs.sl i
end
end Go.Ab
end
section
set_option linter.unusedVariables false
set_option linter.unusedSimpArgs false
set_option linter.unnecessarySimpa false
namespace Go.Ab.R06
open Go.Proofs Go.Ab Go.Ab.RB
attribute [local irreducible] awp gO aY aB cD AV.sub M dh
def bL (s7:Bytes):Nat→Int→Option (Unit⊕Bool)
 | 0,_=>none
 | m+1,t16 =>
 if t16 < (s7.length:Int) then
  (
    ck ((0:Int)≤t16∧t16 < (s7.length:Int)) <|
    if byt s7 t16 < 48 then
     some true
    else
     ck ((0:Int)≤t16∧t16 < (s7.length:Int)) <|
     some (decide (57 < byt s7 t16))
   : Option Bool).bind λ t21 =>
  if t21=true then
   some (.inr false)
  else
   ck (inR (t16+1)) <|
   bL s7 m (t16+1)
 else
  some (.inl ())
def dQ (n:Nat)(s_0:Bytes):Option Bool :=
 jn (
   (
     if 0 < (s_0.length:Int) then
      ck ((0:Int)≤0∧0 < (s_0.length:Int)) <|
      some (decide (byt s_0 0=45))
     else
      some false
    : Option Bool).bind λ t3 =>
   if t3=true then
    ck ((0:Int)≤1∧1≤(s_0.length:Int)∧(s_0.length:Int)≤(s_0.length:Int)) <|
    if sub s_0 1 (s_0.length:Int)=([48]:Bytes) then
     some (.inr false)
    else
     some (.inl (sub s_0 1 (s_0.length:Int)))
   else
    some (.inl s_0)
  : Option (Bytes⊕Bool)) λ s7 =>
 jn (bL s7 n 0) λ q31 =>
 (
   if s7=([]:Bytes) then
    some false
   else
    ck ((0:Int)≤0∧0 < (s7.length:Int)) <|
    if byt s7 0=48 then
     some (decide ((s7.length:Int)=1))
    else
     some true
  : Option Bool).bind λ t28 =>
 some t28
set_option maxHeartbeats 4000000 in
theorem oU (n:Nat)(s_0:Bytes)(r:Bool)(h0:dQ n s_0=some r):aB Tryz.prog 95 [eS s_0] (·=.p (eB r)):=by
 unfold dQ at h0
 refine aU good Tryz.func95 rfl rfl rfl λ w0=>mP (λ v:Bool=>.p (eB v)) ?_
 refine nx 5 rfl ?_
 obtain ⟨o34,h1,hL0,hR0⟩:=cU h0
 refine kX (λ v35:Bytes=>o34=.inl v35) (λ v35=>⟨[(0,.p (eS v35))],[]⟩) (λ v35 hv=>?_) ?_
 ·have h0:=hL0 _ hv
  refine nx 5 rfl (oLs rfl ?_)
  refine nx 3 rfl ?_
  obtain ⟨o36,h1,hL0,hR0⟩:=cU h0
  refine kEx 0 (λ v37:Unit=>o36=.inl v37) (λ v37=>⟨[(0,.p (eS v35))],[]⟩) (λ v37 hv=>?_) ?_
  ·have h0:=hL0 _ hv
   refine nx 2 rfl (bd h0 λ o38 h1 h0=>?_)
   refine kN o38 (λ v39=>⟨[(2,.p (eB v39))],[]⟩) ?_ ?_
   ·exact nx 2 rfl (mQ (oi h0) rfl (sr))
   refine nx 2 rfl (oS rfl rfl ?_)
   refine nx 1 rfl (fN [33,34] h1 rfl (λ c25 h1=>?_) λ c25 h1=>?_)
   ·exact nx 11 rfl (eX _ (oi h1).symm (gE rfl rfl))
   refine nx 1 rfl (oI h1 rfl λ hk26 h1=>?_)
   refine nx 2 rfl (fN [37,38] h1 rfl (λ c27 h1=>?_) λ c27 h1=>?_)
   ·refine nx 1 rfl (oLs rfl ?_)
    exact nx 5 rfl (eX _ (oi h1).symm (gE rfl rfl))
   exact nx 7 rfl (eX _ (oi h1).symm (gE rfl rfl))
  refine lG (λ (q40:Int)=>⟨[(0,.p (eS v35)),(17,.p (eI (v35.length:Int))),(18,.p (eI q40))],[]⟩) (λ m (q40:Int)=>bL v35 m q40) (λ _=>rfl) 0 h1 (gE rfl rfl) ?_
  rintro m t16 h1
  replace h1:bL v35 (m+1) t16=some o36:=h1
  rw [bL] at h1
  refine nx 5 rfl (fD [19] h1 rfl (λ c17 h1=>?_) λ c17 h1=>?_)
  ·refine nx 10 rfl (bd h1 λ o41 h2 h1=>?_)
   refine kN o41 (λ v42=>⟨[(0,.p (eS v35)),(17,.p (eI (v35.length:Int))),(18,.p (eI t16)),(30,.p (eB v42))],[]⟩) ?_ ?_
   ·refine nx 1 rfl (fB [30] h1 rfl (λ c22 h1=>?_) λ c22 h1=>?_)
    ·exact nx 6 rfl (mQ (hR0 _ (oi h1).symm) rfl (sr))
    refine nx 3 rfl (oA h1 rfl rfl λ hk23 h1=>?_)
    exact nx 2 rfl (eX (t16+1) h1 (gE rfl rfl))
   refine nx 3 rfl (oI h2 rfl λ hk18 h2=>?_)
   refine nx 2 rfl (fD [24,25] h2 rfl (λ c19 h2=>?_) λ c19 h2=>?_)
   ·exact nx 6 rfl (eX _ (oi h2).symm (gE rfl rfl))
   refine nx 2 rfl (oI h2 rfl λ hk20 h2=>?_)
   exact nx 3 rfl (eX _ (oi h2).symm (gE rfl rfl))
  exact nx 2 rfl (eXi _ (oi h1).symm (gE rfl rfl))
 refine nx 1 rfl (bd h1 λ o43 h2 h1=>?_)
 refine kN o43 (λ v44=>⟨[(0,.p (eS s_0)),(11,.p (eB v44))],[]⟩) ?_ ?_
 ·refine nx 1 rfl (fB [11] h1 rfl (λ c4 h1=>?_) λ c4 h1=>?_)
  ·refine nx 4 rfl (oP h1 rfl rfl rfl λ hk5 h1=>?_)
   refine nx 5 rfl (oS rfl rfl ?_)
   refine nx 1 rfl (fD [15] h1 rfl (λ c6 h1=>?_) λ c6 h1=>?_)
   ·exact nx 6 rfl (mQ (hR0 _ (oi h1).symm) rfl (sr))
   exact nx 2 rfl (eX _ (oi h1).symm (gE rfl rfl))
  exact nx 2 rfl (eX _ (oi h1).symm (gE rfl rfl))
 refine nx 2 rfl (oLs rfl ?_)
 refine nx 2 rfl (fD [6,7] h2 rfl (λ c1 h2=>?_) λ c1 h2=>?_)
 ·refine nx 1 rfl (oI h2 rfl λ hk2 h2=>?_)
  exact nx 3 rfl (eX _ (oi h2).symm (gE rfl rfl))
 exact nx 5 rfl (eX _ (oi h2).symm (gE rfl rfl))
def jt (n_0:Int):Option Bool :=
 (
   if (-9007199254740992)≤n_0 then
    some (decide (n_0≤9007199254740992))
   else
    some false
  : Option Bool).bind λ t2 =>
 some t2
set_option maxHeartbeats 4000000 in
theorem rM (n_0:Int)(r:Bool)(h0:jt n_0=some r):aB Tryz.prog 97 [eI n_0] (·=.p (eB r)):=by
 unfold jt at h0
 refine aU good Tryz.func97 rfl rfl rfl λ w0=>mP (λ v:Bool=>.p (eB v)) ?_
 refine nx 5 rfl (bd h0 λ o4 h1 h0=>?_)
 refine kN o4 (λ v5=>⟨[(2,.p (eB v5))],[]⟩) ?_ ?_
 ·exact nx 2 rfl (mQ (oi h0) rfl (sr))
 refine nx 4 rfl (fD [4,5] h1 rfl (λ c1 h1=>?_) λ c1 h1=>?_)
 ·exact nx 5 rfl (eX _ (oi h1).symm (gE rfl rfl))
 exact nx 5 rfl (eX _ (oi h1).symm (gE rfl rfl))
def fE (n:Nat)(s_0:Bytes):Option (Int×Int) :=
 (dQ n s_0).bind λ r1 =>
 if (!r1)=true then
  some (0,2)
 else
  (hZ s_0 10 64).bind λ r4 =>
  (
    if r4.2=true then
     some true
    else
     (jt r4.1).bind λ r7 =>
     some (!r7)
   : Option Bool).bind λ t9 =>
  if t9=true then
   some (0,5)
  else
   some (r4.1,0)
set_option maxHeartbeats 4000000 in
theorem rU (n:Nat)(s_0:Bytes)(r:Int×Int)(h0:fE n s_0=some r):aB Tryz.prog 69 [eS s_0] (·=.tuple [.p (eI r.1),.p (eI r.2)]):=by
 unfold fE at h0
 refine aU good Tryz.func69 rfl rfl rfl λ w0=>mP (λ v:Int×Int=>.tuple [.p (eI v.1),.p (eI v.2)]) ?_
 refine nx 9 rfl (bd h0 λ r1 e2 h0=>?_)
 refine oK (oU _ s_0 _ e2) rfl ⟨sr,trivial⟩ Tryz.call95 rfl (nx 2 rfl ?_)
 refine fB [8] h0 rfl (λ c3 h0=>?_) λ c3 h0=>?_
 ·exact nx 7 rfl (mQ (oi h0) rfl (az ⟨sr,sr,trivial⟩))
 refine nx 5 rfl (bd h0 λ r4 e5 h0=>?_)
 refine oK (oZ s_0 10 64 _ e5) rfl ⟨sr,sr,sr,trivial⟩ Tryz.call96 (y5 (rx rfl (rx (Er _) xd))) (nx 8 rfl ?_)
 refine bd h0 λ o12 h1 h0=>kN o12 (λ v13=>⟨[(4,.p (eI r4.1)),(20,.p (eB v13))],[]⟩) ?_ ?_
 ·refine nx 1 rfl (fB [20] h0 rfl (λ c10 h0=>?_) λ c10 h0=>?_)
  ·exact nx 7 rfl (mQ (oi h0) rfl (az ⟨sr,sr,trivial⟩))
  exact nx 9 rfl (mQ (oi h0) rfl (az ⟨sr,sr,trivial⟩))
 refine nx 2 rfl (mO rfl (D5 rfl rfl rfl rfl rfl rfl (.inr ⟨rfl,rfl⟩) ?_))
 refine nx 1 rfl (fB [15,16] h1 rfl (λ c6 h1=>?_) λ c6 h1=>?_)
 ·exact nx 5 rfl (eX _ (oi h1).symm (gE rfl rfl))
 refine nx 1 rfl (bd h1 λ r7 e8 h1=>?_)
 refine oK (rM r4.1 _ e8) rfl ⟨sr,trivial⟩ Tryz.call97 rfl (nx 3 rfl ?_)
 exact eX _ (oi h1).symm (gE rfl rfl)
def cN (s_0:Bytes):Nat→Int→(List UInt8)→Option (List UInt8)
 | 0,_,_=>none
 | m+1,t37,f38 =>
 if t37 < (s_0.length:Int) then
  ck ((0:Int)≤t37∧t37 < (s_0.length:Int)) <|
  (
    if byt s_0 t37=10 then
     (aZ (aE.mk f38) ([92,110]:Bytes)).bind λ r42 =>
     some r42.2.2.fbuf
    else
     if byt s_0 t37=13 then
      (aZ (aE.mk f38) ([92,114]:Bytes)).bind λ r45 =>
      some r45.2.2.fbuf
     else
      if byt s_0 t37=9 then
       (aZ (aE.mk f38) ([92,116]:Bytes)).bind λ r48 =>
       some r48.2.2.fbuf
      else
       (
         if byt s_0 t37=34 then
          some true
         else
          some (decide (byt s_0 t37=92))
        : Option Bool).bind λ t51 =>
       if t51=true then
        (bD (aE.mk f38) 92).bind λ r53 =>
        (bD (aE.mk r53.2.fbuf) (byt s_0 t37)).bind λ r55 =>
        some r55.2.fbuf
       else
        (
          if byt s_0 t37 < 32 then
           some true
          else
           some (decide (byt s_0 t37=127))
         : Option Bool).bind λ t58 =>
        if t58=true then
         ck (inR (byt s_0 t37)) <|
         (gM (byt s_0 t37) 16).bind λ r61 =>
         ck (([92,117,123]:Bytes).length+r61.length≤9223372036854775807) <|
         ck ((([92,117,123]:Bytes)++r61).length+([125]:Bytes).length≤9223372036854775807) <|
         (aZ (aE.mk f38) ((([92,117,123]:Bytes)++r61)++([125]:Bytes))).bind λ r65 =>
         some r65.2.2.fbuf
        else
         (bD (aE.mk f38) (byt s_0 t37)).bind λ r67 =>
         some r67.2.fbuf
   : Option (List UInt8)).bind λ f69 =>
  ck (inR (t37+1)) <|
  cN s_0 m (t37+1) f69
 else
  some f38
def eQ (n:Nat)(s_0:Bytes):Option Bytes :=
 (bD (aE.mk []) 34).bind λ r1 =>
 (cN s_0 n 0 r1.2.fbuf).bind λ f73 =>
 (bD (aE.mk f73) 34).bind λ r74 =>
 (dl (aE.mk r74.2.fbuf)).bind λ r76 =>
 some r76.1
set_option maxHeartbeats 4000000 in
theorem nr (n:Nat)(s_0:Bytes)(r:Bytes)(h0:eQ n s_0=some r):aB Tryz.prog 67 [eS s_0] (·=.p (eS r)):=by
 unfold eQ at h0
 refine aU good Tryz.func67 rfl rfl rfl λ w0=>mP (λ v:Bytes=>.p (eS v)) ?_
 refine nx 6 rfl (mO rfl (qU rfl rfl rfl rfl rfl rfl rfl ?_))
 refine nx 3 rfl (bd h0 λ r1 e2 h0=>?_)
 refine mO rfl (bF [3] [890000] 101000 101001 (cM (aE.mk []) 34 _ e2) rfl rfl rfl rfl rfl ⟨sr,sr,trivial⟩ rfl rfl ⟨⟨_,rfl,⟨sr,AV.sub_nilvec _ _ _,trivial⟩⟩,trivial⟩ rfl rfl rfl rfl rfl rfl rfl rfl Tryz.call92 rfl rfl ?_)
 refine nx 5 rfl (oLs rfl ?_)
 refine nx 3 rfl (bd h0 λ o82 h1 h0=>?_)
 refine kE 0 o82 (λ v83=>⟨[(3,.ptr 3 0)],[(3,[.bptr 90 2 3,.vec 108000 1 (5+1) (v83.map eU)])]⟩) ?_ ?_
 ·refine nx 3 rfl (bd h0 λ r74 e75 h0=>?_)
  refine mO rfl (bF [3] [108000] 116000 116001 (cM (aE.mk o82) 34 _ e75) rfl rfl rfl rfl rfl ⟨sr,sr,trivial⟩ rfl rfl ⟨⟨_,rfl,⟨sr,sr,trivial⟩⟩,trivial⟩ rfl rfl rfl rfl rfl rfl rfl rfl Tryz.call92 rfl rfl ?_)
  refine nx 3 rfl (bd h0 λ r76 e77 h0=>?_)
  refine mO rfl (bF [3] [116000] 117000 117000 (fx (aE.mk r74.2.fbuf) _ e77) rfl rfl rfl rfl rfl ⟨sr,trivial⟩ rfl rfl ⟨⟨_,rfl,⟨sr,sr,trivial⟩⟩,trivial⟩ rfl rfl rfl rfl rfl rfl rfl rfl Tryz.call56 rfl rfl ?_)
  exact nx 3 rfl (mQ (oi h0) rfl (sr))
 refine lG (λ (q84:Int×(List UInt8))=>⟨[(0,.p (eS s_0)),(3,.ptr 3 0),(8,.p (eI (s_0.length:Int))),(9,.p (eI q84.1))],[(3,[.bptr 90 2 3,.vec 108000 1 (5+1) (q84.2.map eU)])]⟩) (λ m (q84:Int×(List UInt8))=>cN s_0 m q84.1 q84.2) (λ _=>rfl) (0,r1.2.fbuf) h1 (br (cn 101000 108000 rfl rfl rfl rfl rfl) (gE rfl rfl)) ?_
 rintro m ⟨t37,f38⟩ h1
 replace h1:cN s_0 (m+1) t37 f38=some o82:=h1
 rw [cN] at h1
 refine nx 5 rfl (fD [10] h1 rfl (λ c39 h1=>?_) λ c39 h1=>?_)
 ·refine nx 13 rfl (oI h1 rfl λ hk40 h1=>?_)
  refine nx 2 rfl (bd h1 λ o85 h2 h1=>?_)
  refine kN o85 (λ v86=>⟨[(0,.p (eS s_0)),(3,.ptr 3 0),(8,.p (eI (s_0.length:Int))),(9,.p (eI t37))],[(3,[.bptr 90 2 3,.vec 115000 1 (5+1) (v86.map eU)])]⟩) ?_ ?_
  ·refine nx 2 rfl (oA h1 rfl rfl λ hk70 h1=>?_)
   exact nx 2 rfl (eX (t37+1,o85) h1 (br (cn 115000 108000 rfl rfl rfl rfl rfl) (gE rfl rfl)))
  refine nx 7 rfl (fD [17,19] h2 rfl (λ c41 h2=>?_) λ c41 h2=>?_)
  ·refine nx 2 rfl (bd h2 λ r42 e43 h2=>?_)
   refine mO rfl (bF [3] [108000] 109000 109001 (bJ (aE.mk f38) ([92,110]:Bytes) _ e43) rfl rfl rfl rfl rfl ⟨sr,sr,trivial⟩ rfl rfl ⟨⟨_,rfl,⟨sr,sr,trivial⟩⟩,trivial⟩ rfl rfl rfl rfl rfl rfl rfl rfl Tryz.call54 rfl rfl ?_)
   exact nx 1 rfl (eX _ (oi h2).symm (br (cn 109000 115000 rfl rfl rfl rfl rfl) (gE rfl rfl)))
  refine nx 7 rfl (fD [21,23] h2 rfl (λ c44 h2=>?_) λ c44 h2=>?_)
  ·refine nx 2 rfl (bd h2 λ r45 e46 h2=>?_)
   refine mO rfl (bF [3] [108000] 110000 110001 (bJ (aE.mk f38) ([92,114]:Bytes) _ e46) rfl rfl rfl rfl rfl ⟨sr,sr,trivial⟩ rfl rfl ⟨⟨_,rfl,⟨sr,sr,trivial⟩⟩,trivial⟩ rfl rfl rfl rfl rfl rfl rfl rfl Tryz.call54 rfl rfl ?_)
   exact nx 1 rfl (eX _ (oi h2).symm (br (cn 110000 115000 rfl rfl rfl rfl rfl) (gE rfl rfl)))
  refine nx 7 rfl (fD [25,27] h2 rfl (λ c47 h2=>?_) λ c47 h2=>?_)
  ·refine nx 2 rfl (bd h2 λ r48 e49 h2=>?_)
   refine mO rfl (bF [3] [108000] 111000 111001 (bJ (aE.mk f38) ([92,116]:Bytes) _ e49) rfl rfl rfl rfl rfl ⟨sr,sr,trivial⟩ rfl rfl ⟨⟨_,rfl,⟨sr,sr,trivial⟩⟩,trivial⟩ rfl rfl rfl rfl rfl rfl rfl rfl Tryz.call54 rfl rfl ?_)
   exact nx 1 rfl (eX _ (oi h2).symm (br (cn 111000 115000 rfl rfl rfl rfl rfl) (gE rfl rfl)))
  refine nx 2 rfl (bd h2 λ o87 h3 h2=>?_)
  refine kN o87 (λ v88=>⟨[(0,.p (eS s_0)),(3,.ptr 3 0),(5,.p (eK .u8 (byt s_0 t37))),(8,.p (eI (s_0.length:Int))),(9,.p (eI t37)),(29,.p (eB v88))],[(3,[.bptr 90 2 3,.vec 108000 1 (5+1) (f38.map eU)])]⟩) ?_ ?_
  ·refine nx 1 rfl (fB [29] h2 rfl (λ c52 h2=>?_) λ c52 h2=>?_)
   ·refine nx 3 rfl (bd h2 λ r53 e54 h2=>?_)
    refine mO rfl (bF [3] [108000] 112000 112001 (cM (aE.mk f38) 92 _ e54) rfl rfl rfl rfl rfl ⟨sr,sr,trivial⟩ rfl rfl ⟨⟨_,rfl,⟨sr,sr,trivial⟩⟩,trivial⟩ rfl rfl rfl rfl rfl rfl rfl rfl Tryz.call92 rfl rfl ?_)
    refine nx 3 rfl (bd h2 λ r55 e56 h2=>?_)
    refine mO rfl (bF [3] [112000] 113000 113001 (cM (aE.mk r53.2.fbuf) (byt s_0 t37) _ e56) rfl rfl rfl rfl rfl ⟨sr,sr,trivial⟩ rfl rfl ⟨⟨_,rfl,⟨sr,sr,trivial⟩⟩,trivial⟩ rfl rfl rfl rfl rfl rfl rfl rfl Tryz.call92 rfl rfl ?_)
    exact nx 1 rfl (eX _ (oi h2).symm (br (cn 113000 115000 rfl rfl rfl rfl rfl) (gE rfl rfl)))
   refine nx 2 rfl (bd h2 λ o89 h3 h2=>?_)
   refine kN o89 (λ v90=>⟨[(0,.p (eS s_0)),(3,.ptr 3 0),(5,.p (eK .u8 (byt s_0 t37))),(8,.p (eI (s_0.length:Int))),(9,.p (eI t37)),(39,.p (eB v90))],[(3,[.bptr 90 2 3,.vec 108000 1 (5+1) (f38.map eU)])]⟩) ?_ ?_
   ·refine nx 1 rfl (fB [39] h2 rfl (λ c59 h2=>?_) λ c59 h2=>?_)
    ·refine nx 3 rfl (cc' h2 λ hk60 h2=>?_)
     refine mO rfl (dy rfl rfl rfl rfl rfl rfl rfl rfl (fY hk60) ?_)
     refine bd h2 λ r61 e62 h2=>oK (n0 (byt s_0 t37) 16 _ e62) rfl ⟨sr,sr,trivial⟩ Tryz.call93 rfl (oC h2 rfl λ hk63 h2=>?_)
     refine oC h2 rfl λ hk64 h2=>bd h2 λ r65 e66 h2=>mO rfl (bF [3] [108000] 114000 114001 (bJ (aE.mk f38) ((([92,117,123]:Bytes)++r61)++([125]:Bytes)) _ e66) rfl rfl rfl rfl rfl ⟨sr,sr,trivial⟩ rfl rfl ⟨⟨_,rfl,⟨sr,sr,trivial⟩⟩,trivial⟩ rfl rfl rfl rfl rfl rfl rfl rfl Tryz.call54 rfl rfl ?_)
     exact nx 1 rfl (eX _ (oi h2).symm (br (cn 114000 115000 rfl rfl rfl rfl rfl) (gE rfl rfl)))
    refine nx 3 rfl (bd h2 λ r67 e68 h2=>?_)
    refine mO rfl (bF [3] [108000] 115000 115001 (cM (aE.mk f38) (byt s_0 t37) _ e68) rfl rfl rfl rfl rfl ⟨sr,sr,trivial⟩ rfl rfl ⟨⟨_,rfl,⟨sr,sr,trivial⟩⟩,trivial⟩ rfl rfl rfl rfl rfl rfl rfl rfl Tryz.call92 rfl rfl ?_)
    exact nx 1 rfl (eX _ (oi h2).symm (gE rfl rfl))
   refine nx 4 rfl (fD [41,42] h3 rfl (λ c57 h3=>?_) λ c57 h3=>?_)
   ·exact nx 5 rfl (eX _ (oi h3).symm (gE rfl rfl))
   exact nx 5 rfl (eX _ (oi h3).symm (gE rfl rfl))
  refine nx 4 rfl (fD [31,32] h3 rfl (λ c50 h3=>?_) λ c50 h3=>?_)
  ·exact nx 5 rfl (eX _ (oi h3).symm (gE rfl rfl))
  exact nx 5 rfl (eX _ (oi h3).symm (gE rfl rfl))
 exact nx 2 rfl (eXi _ (oi h1).symm (gE rfl rfl))
def bG (s_0:Bytes):Nat→Int→Int→Option (Int×Int)
 | 0,_,_=>none
 | m+1,n11,i12 =>
 (
   if i12 < (s_0.length:Int) then
    some (decide (i12 < 6))
   else
    some false
  : Option Bool).bind λ t14 =>
 if t14=true then
  ck ((0:Int)≤i12∧i12 < (s_0.length:Int)) <|
  (strings_IndexByte ([48,49,50,51,52,53,54,55,56,57,97,98,99,100,101,102]:Bytes) (byt s_0 i12)).bind λ r17 =>
  if r17 < 0 then
   some (n11,i12)
  else
   ck (inR (i12+1)) <|
   bG s_0 m (IntKind.wrap .i32 ((IntKind.wrap .i32 (16*n11))+(IntKind.wrap .i32 (r17)))) (i12+1)
 else
  some (n11,i12)
def cJ (n:Nat)(s_0:Bytes):Option (Int×Int×Int) :=
 (bG s_0 n 0 0).bind λ q39 =>
 if q39.2=(s_0.length:Int) then
  some (0,0,40)
 else
  (
    ck ((0:Int)≤q39.2∧q39.2 < (s_0.length:Int)) <|
    if byt s_0 q39.2=125 then
     if q39.2=0 then
      some true
     else
      if 1 < q39.2 then
       ck ((0:Int)≤0∧0 < (s_0.length:Int)) <|
       if byt s_0 0=48 then
        some true
       else
        (dp q39.1).bind λ r32 =>
        some (!r32)
      else
       (dp q39.1).bind λ r34 =>
       some (!r34)
    else
     some true
   : Option Bool).bind λ t36 =>
  if t36=true then
   some (0,0,2)
  else
   ck (inR (q39.2+1)) <|
   some (q39.1,q39.2+1,0)
set_option maxHeartbeats 4000000 in
theorem ns (n:Nat)(s_0:Bytes)(r:Int×Int×Int)(h0:cJ n s_0=some r):aB Tryz.prog 110 [eS s_0] (·=.tuple [.p (eK .i32 r.1),.p (eI r.2.1),.p (eI r.2.2)]):=by
 unfold cJ at h0
 refine aU good Tryz.func110 rfl rfl rfl λ w0=>mP (λ v:Int×Int×Int=>.tuple [.p (eK .i32 v.1),.p (eI v.2.1),.p (eI v.2.2)]) ?_
 refine nx 13 rfl (bd h0 λ o42 h1 h0=>?_)
 refine kE 0 o42 (λ v43=>⟨[(0,.p (eS s_0)),(5,.p (eK .i32 v43.1)),(6,.p (eI v43.2))],[]⟩) ?_ ?_
 ·refine nx 6 rfl (oLs rfl ?_)
  refine nx 2 rfl (fD [32] h0 rfl (λ c25 h0=>?_) λ c25 h0=>?_)
  ·exact nx 8 rfl (mQ (oi h0) rfl (az ⟨sr,sr,sr,trivial⟩))
  refine nx 4 rfl (bd h0 λ o44 h1 h0=>?_)
  refine kN o44 (λ v45=>⟨[(5,.p (eK .i32 o42.1)),(6,.p (eI o42.2)),(54,.p (eB v45))],[]⟩) ?_ ?_
  ·refine nx 1 rfl (fB [54] h0 rfl (λ c37 h0=>?_) λ c37 h0=>?_)
   ·exact nx 8 rfl (mQ (oi h0) rfl (az ⟨sr,sr,sr,trivial⟩))
   refine nx 6 rfl (oA h0 rfl rfl λ hk38 h0=>?_)
   exact nx 5 rfl (mQ (oi h0) rfl (az ⟨sr,sr,sr,trivial⟩))
  refine nx 3 rfl (oI h1 rfl λ hk26 h1=>?_)
  refine nx 2 rfl (fN [36,37] h1 rfl (λ c27 h1=>?_) λ c27 h1=>?_)
  ·refine nx 4 rfl (fD [39,40,41] h1 rfl (λ c28 h1=>?_) λ c28 h1=>?_)
   ·exact nx 14 rfl (eX _ (oi h1).symm (gE rfl rfl))
   refine nx 3 rfl (fD [43,44] h1 rfl (λ c29 h1=>?_) λ c29 h1=>?_)
   ·refine nx 1 rfl (oI h1 rfl λ hk30 h1=>?_)
    refine nx 4 rfl (fD [47,48,49,50] h1 rfl (λ c31 h1=>?_) λ c31 h1=>?_)
    ·exact nx 5 rfl (eX _ (oi h1).symm (gE rfl rfl))
    refine nx 1 rfl (bd h1 λ r32 e33 h1=>?_)
    refine oK (ib o42.1 _ e33) rfl ⟨sr,trivial⟩ Tryz.call106 rfl (nx 3 rfl ?_)
    exact eX _ (oi h1).symm (gE rfl rfl)
   refine nx 7 rfl (bd h1 λ r34 e35 h1=>?_)
   refine oK (ib o42.1 _ e35) rfl ⟨sr,trivial⟩ Tryz.call106 rfl (nx 3 rfl ?_)
   exact eX _ (oi h1).symm (gE rfl rfl)
  exact nx 18 rfl (eX _ (oi h1).symm (gE rfl rfl))
 refine lG (λ (q46:Int×Int)=>⟨[(0,.p (eS s_0)),(5,.p (eK .i32 q46.1)),(6,.p (eI q46.2))],[]⟩) (λ m (q46:Int×Int)=>bG s_0 m q46.1 q46.2) (λ _=>rfl) (0,0) h1 (gE rfl rfl) ?_
 rintro m ⟨n11,i12⟩ h1
 replace h1:bG s_0 (m+1) n11 i12=some o42:=h1
 rw [bG] at h1
 refine nx 2 rfl (bd h1 λ o47 h2 h1=>?_)
 refine kN o47 (λ v48=>⟨[(0,.p (eS s_0)),(5,.p (eK .i32 n11)),(6,.p (eI i12)),(15,.p (eB v48))],[]⟩) ?_ ?_
 ·refine nx 1 rfl (fB [15] h1 rfl (λ c15 h1=>?_) λ c15 h1=>?_)
  ·refine nx 8 rfl (oI h1 rfl λ hk16 h1=>?_)
   refine bd h1 λ r17 e18 h1=>oK (jT ([48,49,50,51,52,53,54,55,56,57,97,98,99,100,101,102]:Bytes) (byt s_0 i12) _ e18) rfl ⟨sr,sr,trivial⟩ Tryz.call68 rfl (nx 8 rfl ?_)
   refine fD [23] h1 rfl (λ c19 h1=>?_) λ c19 h1=>?_
   ·exact nx 2 rfl (eXi _ (oi h1).symm (gE rfl rfl))
   refine nx 12 rfl (oA h1 rfl rfl λ hk20 h1=>?_)
   exact nx 2 rfl (eX (IntKind.wrap .i32 ((IntKind.wrap .i32 (16*n11))+(IntKind.wrap .i32 (r17))),i12+1) h1 (gE rfl rfl))
  exact nx 2 rfl (eXi _ (oi h1).symm (gE rfl rfl))
 refine nx 3 rfl (oLs rfl ?_)
 refine nx 2 rfl (fD [11,12] h2 rfl (λ c13 h2=>?_) λ c13 h2=>?_)
 ·exact nx 4 rfl (eX _ (oi h2).symm (gE rfl rfl))
 exact nx 4 rfl (eX _ (oi h2).symm (gE rfl rfl))
def eV (n:Nat)(s_0:Bytes):Option (Int×Int×Int) :=
 if s_0=([]:Bytes) then
  some (0,0,40)
 else
  ck ((0:Int)≤0∧0 < (s_0.length:Int)) <|
  if byt s_0 0=110 then
   some (10,1,0)
  else
   if byt s_0 0=114 then
    some (13,1,0)
   else
    if byt s_0 0=116 then
     some (9,1,0)
    else
     (
       if byt s_0 0=34 then
        some true
       else
        some (decide (byt s_0 0=92))
      : Option Bool).bind λ t7 =>
     if t7=true then
      ck ((0:Int)≤0∧0 < (s_0.length:Int)) <|
      some (IntKind.wrap .i32 (byt s_0 0),1,0)
     else
      if byt s_0 0=117 then
       if (s_0.length:Int)=1 then
        some (0,0,40)
       else
        ck ((0:Int)≤1∧1 < (s_0.length:Int)) <|
        if byt s_0 1=123 then
         ck ((0:Int)≤2∧2≤(s_0.length:Int)∧(s_0.length:Int)≤(s_0.length:Int)) <|
         (cJ n (sub s_0 2 (s_0.length:Int))).bind λ r15 =>
         ck (inR (r15.2.1+2)) <|
         some (r15.1,r15.2.1+2,r15.2.2)
        else
         some (0,0,2)
      else
       some (0,0,2)
set_option maxHeartbeats 4000000 in
theorem qH (n:Nat)(s_0:Bytes)(r:Int×Int×Int)(h0:eV n s_0=some r):aB Tryz.prog 89 [eS s_0] (·=.tuple [.p (eK .i32 r.1),.p (eI r.2.1),.p (eI r.2.2)]):=by
 unfold eV at h0
 refine aU good Tryz.func89 rfl rfl rfl λ w0=>mP (λ v:Int×Int×Int=>.tuple [.p (eK .i32 v.1),.p (eI v.2.1),.p (eI v.2.2)]) ?_
 refine nx 10 rfl (oS rfl rfl ?_)
 refine nx 1 rfl (fD [9] h0 rfl (λ c1 h0=>?_) λ c1 h0=>?_)
 ·exact nx 8 rfl (mQ (oi h0) rfl (az ⟨sr,sr,sr,trivial⟩))
 refine nx 6 rfl (oI h0 rfl λ hk2 h0=>?_)
 refine nx 7 rfl (fD [12,13] h0 rfl (λ c3 h0=>?_) λ c3 h0=>?_)
 ·exact nx 8 rfl (mQ (oi h0) rfl (az ⟨sr,sr,sr,trivial⟩))
 refine nx 6 rfl (fD [14,15] h0 rfl (λ c4 h0=>?_) λ c4 h0=>?_)
 ·exact nx 8 rfl (mQ (oi h0) rfl (az ⟨sr,sr,sr,trivial⟩))
 refine nx 6 rfl (fD [16,17] h0 rfl (λ c5 h0=>?_) λ c5 h0=>?_)
 ·exact nx 8 rfl (mQ (oi h0) rfl (az ⟨sr,sr,sr,trivial⟩))
 refine nx 2 rfl (bd h0 λ o19 h1 h0=>?_)
 refine kN o19 (λ v20=>⟨[(0,.p (eS s_0)),(11,.p (eK .u8 (byt s_0 0))),(18,.p (eB v20))],[]⟩) ?_ ?_
 ·refine nx 1 rfl (fB [18] h0 rfl (λ c8 h0=>?_) λ c8 h0=>?_)
  ·refine nx 4 rfl (oI h0 rfl λ hk9 h0=>?_)
   exact nx 6 rfl (mQ (oi h0) rfl (az ⟨sr,sr,sr,trivial⟩))
  refine nx 6 rfl (fD [24,25] h0 rfl (λ c10 h0=>?_) λ c10 h0=>?_)
  ·refine nx 5 rfl (oLs rfl ?_)
   refine nx 2 rfl (fD [28] h0 rfl (λ c11 h0=>?_) λ c11 h0=>?_)
   ·exact nx 8 rfl (mQ (oi h0) rfl (az ⟨sr,sr,sr,trivial⟩))
   refine nx 6 rfl (oI h0 rfl λ hk12 h0=>?_)
   refine nx 2 rfl (fN [31] h0 rfl (λ c13 h0=>?_) λ c13 h0=>?_)
   ·refine nx 5 rfl (oP h0 rfl rfl rfl λ hk14 h0=>?_)
    refine bd h0 λ r15 e16 h0=>oK (ns _ (sub s_0 2 (s_0.length:Int)) _ e16) rfl ⟨sr,trivial⟩ Tryz.call110 rfl (nx 12 rfl ?_)
    refine oA h0 rfl rfl λ hk17 h0=>nx 5 rfl (mG (gE (t:=⟨[(2,.p (eK .i32 r15.1)),(3,.p (eI (r15.2.1+2))),(4,.p (eI r15.2.2))],[]⟩) rfl rfl) ?_)
    exact nx 1 rfl (mQ (oi h0) rfl (az ⟨sr,sr,sr,trivial⟩))
   exact nx 8 rfl (mQ (oi h0) rfl (az ⟨sr,sr,sr,trivial⟩))
  exact nx 9 rfl (mQ (oi h0) rfl (az ⟨sr,sr,sr,trivial⟩))
 refine nx 5 rfl (fD [18,19] h1 rfl (λ c6 h1=>?_) λ c6 h1=>?_)
 ·exact nx 2 rfl (eX _ (oi h1).symm (gE rfl rfl))
 exact nx 5 rfl (eX _ (oi h1).symm (gE rfl rfl))
def cB (n:Nat)(s_0:Bytes):Nat→Int→(List UInt8)→Option ((Int×(List UInt8))⊕(Bytes×Int×Int))
 | 0,_,_=>none
 | m+1,at31,f32 =>
 (
   if at31 < (s_0.length:Int) then
    ck ((0:Int)≤at31∧at31 < (s_0.length:Int)) <|
    some (!decide (byt s_0 at31=34))
   else
    some false
  : Option Bool).bind λ t35 =>
 if t35=true then
  ck ((0:Int)≤at31∧at31≤(s_0.length:Int)∧(s_0.length:Int)≤(s_0.length:Int)) <|
  (db (sub s_0 at31 (s_0.length:Int))).bind λ r38 =>
  jn (
    if r38.1=92 then
     ck (inR (at31+1)) <|
     ck ((0:Int)≤at31+1∧at31+1≤(s_0.length:Int)∧(s_0.length:Int)≤(s_0.length:Int)) <|
     (eV n (sub s_0 (at31+1) (s_0.length:Int))).bind λ r43 =>
     if r43.2.2=0 then
      ck (inR (r43.2.1+1)) <|
      some (.inl (r43.1,r43.2.1+1))
     else
      some (.inr (.inr (([]:Bytes),0,r43.2.2)))
    else
     (
       if r38.1=65533 then
        if r38.2=1 then
         some true
        else
         if r38.1 < 32 then
          some true
         else
          some (decide (r38.1=127))
       else
        if r38.1 < 32 then
         some true
        else
         some (decide (r38.1=127))
      : Option Bool).bind λ t51 =>
     if t51=true then
      some (.inr (.inr (([]:Bytes),0,2)))
     else
      some (.inl (r38.1,r38.2))
   : Option ((Int×Int)⊕((Int×(List UInt8))⊕(Bytes×Int×Int)))) λ q71 =>
  (du (aE.mk f32) q71.1).bind λ r55 =>
  ck (inR (at31+q71.2)) <|
  cB n s_0 m (at31+q71.2) r55.2.2.fbuf
 else
  some (.inl (at31,f32))
def eC (n:Nat)(s_0:Bytes):Option (Bytes×Int×Int) :=
 if s_0=([]:Bytes) then
  some (([]:Bytes),0,40)
 else
  ck ((0:Int)≤0∧0 < (s_0.length:Int)) <|
  if byt s_0 0=34 then
   jn (cB n s_0 n 1 []) λ q69 =>
   if q69.1=(s_0.length:Int) then
    some (([]:Bytes),0,40)
   else
    (im (aE.mk q69.2)).bind λ r63 =>
    if 4096 < r63.1 then
     some (([]:Bytes),0,3)
    else
     (dl (aE.mk r63.2.fbuf)).bind λ r66 =>
     ck (inR (q69.1+1)) <|
     some (r66.1,q69.1+1,0)
  else
   some (([]:Bytes),0,2)
set_option maxHeartbeats 4000000 in
theorem qc (n:Nat)(s_0:Bytes)(r:Bytes×Int×Int)(h0:eC n s_0=some r):aB Tryz.prog 66 [eS s_0] (·=.tuple [.p (eS r.1),.p (eI r.2.1),.p (eI r.2.2)]):=by
 unfold eC at h0
 refine aU good Tryz.func66 rfl rfl rfl λ w0=>mP (λ v:Bytes×Int×Int=>.tuple [.p (eS v.1),.p (eI v.2.1),.p (eI v.2.2)]) ?_
 refine nx 10 rfl (oS rfl rfl ?_)
 refine nx 1 rfl (fD [13] h0 rfl (λ c1 h0=>?_) λ c1 h0=>?_)
 ·exact nx 8 rfl (mQ (oi h0) rfl (az ⟨sr,sr,sr,trivial⟩))
 refine nx 6 rfl (oI h0 rfl λ hk2 h0=>?_)
 refine nx 2 rfl (fN [16] h0 rfl (λ c3 h0=>?_) λ c3 h0=>?_)
 ·refine nx 4 rfl (mO rfl (qU rfl rfl rfl rfl rfl rfl rfl ?_))
  refine nx 7 rfl ?_
  obtain ⟨o73,h1,hL0,hR0⟩:=cU h0
  refine kEx 0 (λ v74:Int×(List UInt8)=>o73=.inl v74) (λ v74=>⟨[(0,.p (eS s_0)),(5,.ptr 5 0),(6,.p (eI v74.1))],[(5,[.bptr 90 2 5,.vec 101000 1 (5+1) (v74.2.map eU)])]⟩) (λ v74 hv=>?_) ?_
  ·have h0:=hL0 _ hv
   refine nx 6 rfl (oLs rfl ?_)
   refine nx 2 rfl (fD [73] h0 rfl (λ c62 h0=>?_) λ c62 h0=>?_)
   ·exact nx 8 rfl (mQ (oi h0) rfl (az ⟨sr,sr,sr,trivial⟩))
   refine nx 5 rfl (bd h0 λ r63 e64 h0=>?_)
   refine mO rfl (bF [5] [101000] 103000 103001 (mU (aE.mk v74.2) _ e64) rfl rfl rfl rfl rfl ⟨sr,trivial⟩ rfl rfl ⟨⟨_,rfl,⟨sr,sr,trivial⟩⟩,trivial⟩ rfl rfl rfl rfl rfl rfl rfl rfl Tryz.call91 rfl rfl ?_)
   refine nx 2 rfl (fD [75] h0 rfl (λ c65 h0=>?_) λ c65 h0=>?_)
   ·exact nx 8 rfl (mQ (oi h0) rfl (az ⟨sr,sr,sr,trivial⟩))
   refine nx 4 rfl (bd h0 λ r66 e67 h0=>?_)
   refine mO rfl (bF [5] [103000] 104000 104000 (fx (aE.mk r63.2.fbuf) _ e67) rfl rfl rfl rfl rfl ⟨sr,trivial⟩ rfl rfl ⟨⟨_,rfl,⟨sr,sr,trivial⟩⟩,trivial⟩ rfl rfl rfl rfl rfl rfl rfl rfl Tryz.call56 rfl rfl ?_)
   refine nx 1 rfl (oA h0 rfl rfl λ hk68 h0=>?_)
   exact nx 5 rfl (mQ (oi h0) rfl (az ⟨sr,sr,sr,trivial⟩))
  refine lG (λ (q75:Int×(List UInt8))=>⟨[(0,.p (eS s_0)),(5,.ptr 5 0),(6,.p (eI q75.1))],[(5,[.bptr 90 2 5,.vec 101000 1 (5+1) (q75.2.map eU)])]⟩) (λ m (q75:Int×(List UInt8))=>cB n s_0 m q75.1 q75.2) (λ _=>rfl) (1,[]) h1 (aI (cb ⟨er rfl,er rfl,er rfl,trivial⟩ ⟨⟨_,rfl,⟨sr,AV.sub_nilvec _ _ _,trivial⟩⟩,trivial⟩)) ?_
  rintro m ⟨at31,f32⟩ h1
  replace h1:cB n s_0 (m+1) at31 f32=some o73:=h1
  rw [cB] at h1
  refine nx 2 rfl (bd h1 λ o76 h2 h1=>?_)
  refine kN o76 (λ v77=>⟨[(0,.p (eS s_0)),(5,.ptr 5 0),(6,.p (eI at31)),(26,.p (eB v77))],[(5,[.bptr 90 2 5,.vec 101000 1 (5+1) (f32.map eU)])]⟩) ?_ ?_
  ·refine nx 1 rfl (fB [26] h1 rfl (λ c36 h1=>?_) λ c36 h1=>?_)
   ·refine nx 7 rfl (oP h1 rfl rfl rfl λ hk37 h1=>?_)
    refine bd h1 λ r38 e39 h1=>oK (iF (sub s_0 at31 (s_0.length:Int)) _ e39) rfl ⟨sr,trivial⟩ Tryz.call88 rfl (nx 7 rfl ?_)
    obtain ⟨o78,h2,hL1,hR1⟩:=cU h1
    refine kX (λ v79:Int×Int=>o78=.inl v79) (λ v79=>⟨[(0,.p (eS s_0)),(5,.ptr 5 0),(6,.p (eI at31)),(7,.p (eK .i32 v79.1)),(8,.p (eI v79.2))],[(5,[.bptr 90 2 5,.vec 101000 1 (5+1) (f32.map eU)])]⟩) (λ v79 hv=>?_) ?_
    ·have h1:=hL1 _ hv
     refine nx 4 rfl (bd h1 λ r55 e56 h1=>?_)
     refine mO rfl (bF [5] [101000] 102000 102001 (ki (aE.mk f32) v79.1 _ e56) rfl rfl rfl rfl rfl ⟨sr,sr,trivial⟩ rfl rfl ⟨⟨_,rfl,⟨sr,sr,trivial⟩⟩,trivial⟩ rfl rfl rfl rfl rfl rfl rfl rfl Tryz.call90 rfl rfl ?_)
     refine nx 4 rfl (oA h1 rfl rfl λ hk57 h1=>?_)
     exact nx 2 rfl (eX (at31+v79.2,r55.2.2.fbuf) h1 (br (cn 102000 101000 rfl rfl rfl rfl rfl) (gE rfl rfl)))
    refine nx 5 rfl (fD [35] h2 rfl (λ c40 h2=>?_) λ c40 h2=>?_)
    ·refine nx 5 rfl (oA h2 rfl rfl λ hk41 h2=>?_)
     refine oP h2 rfl rfl rfl λ hk42 h2=>bd h2 λ r43 e44 h2=>oK (qH _ (sub s_0 (at31+1) (s_0.length:Int)) _ e44) rfl ⟨sr,trivial⟩ Tryz.call89 rfl (nx 14 rfl ?_)
     refine fN [46] h2 rfl (λ c45 h2=>?_) λ c45 h2=>?_
     ·refine nx 5 rfl (oA h2 rfl rfl λ hk46 h2=>?_)
      exact nx 3 rfl (eX _ (oi h2).symm (gE rfl rfl))
     refine nx 8 rfl (mG (gE (t:=⟨[(2,.p (eS ([]:Bytes))),(3,.p (eI 0)),(4,.p (eI r43.2.2))],[]⟩) rfl rfl) ?_)
     exact nx 1 rfl (mQ (hR0 _ (hR1 _ (oi h2).symm).symm) rfl (az ⟨sr,sr,sr,trivial⟩))
    refine nx 2 rfl (bd h2 λ o80 h3 h2=>?_)
    refine kN o80 (λ v81=>⟨[(0,.p (eS s_0)),(5,.ptr 5 0),(6,.p (eI at31)),(7,.p (eK .i32 r38.1)),(8,.p (eI r38.2)),(64,.p (eB v81))],[(5,[.bptr 90 2 5,.vec 101000 1 (5+1) (f32.map eU)])]⟩) ?_ ?_
    ·refine nx 1 rfl (fB [64] h2 rfl (λ c52 h2=>?_) λ c52 h2=>?_)
     ·exact nx 8 rfl (mQ (hR0 _ (hR1 _ (oi h2).symm).symm) rfl (az ⟨sr,sr,sr,trivial⟩))
     exact nx 2 rfl (eX _ (oi h2).symm (gE rfl rfl))
    refine nx 4 rfl (fD [52,53] h3 rfl (λ c47 h3=>?_) λ c47 h3=>?_)
    ·refine nx 4 rfl (fD [55,56,57] h3 rfl (λ c48 h3=>?_) λ c48 h3=>?_)
     ·exact nx 8 rfl (eX _ (oi h3).symm (gE rfl rfl))
     refine nx 4 rfl (fD [59,60,61] h3 rfl (λ c49 h3=>?_) λ c49 h3=>?_)
     ·exact nx 4 rfl (eX _ (oi h3).symm (gE rfl rfl))
     exact nx 4 rfl (eX _ (oi h3).symm (gE rfl rfl))
    refine nx 8 rfl (fD [59,60,61] h3 rfl (λ c50 h3=>?_) λ c50 h3=>?_)
    ·exact nx 4 rfl (eX _ (oi h3).symm (gE rfl rfl))
    exact nx 4 rfl (eX _ (oi h3).symm (gE rfl rfl))
   exact nx 2 rfl (eXi _ (oi h1).symm (gE rfl rfl))
  refine nx 3 rfl (oLs rfl ?_)
  refine nx 2 rfl (fD [20,21] h2 rfl (λ c33 h2=>?_) λ c33 h2=>?_)
  ·refine nx 2 rfl (oI h2 rfl λ hk34 h2=>?_)
   exact nx 3 rfl (eX _ (oi h2).symm (gE rfl rfl))
  exact nx 6 rfl (eX _ (oi h2).symm (gE rfl rfl))
 exact nx 8 rfl (mQ (oi h0) rfl (az ⟨sr,sr,sr,trivial⟩))
def jv (s_0:Bytes):Option Bool :=
 (
   if (s_0.length:Int)≤4096 then
    (en s_0).bind λ r2 =>
    some r2
   else
    some false
  : Option Bool).bind λ t4 =>
 some t4
set_option maxHeartbeats 4000000 in
theorem rN (s_0:Bytes)(r:Bool)(h0:jv s_0=some r):aB Tryz.prog 98 [eS s_0] (·=.p (eB r)):=by
 unfold jv at h0
 refine aU good Tryz.func98 rfl rfl rfl λ w0=>mP (λ v:Bool=>.p (eB v)) ?_
 refine nx 5 rfl (bd h0 λ o6 h1 h0=>?_)
 refine kN o6 (λ v7=>⟨[(2,.p (eB v7))],[]⟩) ?_ ?_
 ·exact nx 2 rfl (mQ (oi h0) rfl (sr))
 refine nx 2 rfl (oLs rfl ?_)
 refine nx 2 rfl (fD [5,6] h1 rfl (λ c1 h1=>?_) λ c1 h1=>?_)
 ·refine nx 1 rfl (bd h1 λ r2 e3 h1=>?_)
  refine oK (ky s_0 _ e3) rfl ⟨sr,trivial⟩ Tryz.call116 rfl (nx 3 rfl ?_)
  exact eX _ (oi h1).symm (gE rfl rfl)
 exact nx 5 rfl (eX _ (oi h1).symm (gE rfl rfl))
end Go.Ab.R06
end
