/- Texts of the proof, one behind the other. No statement is proved here. -/
import Derived.WalkKit
import Derived.Lib.Builder
import Derived.Lib.UnsafeStr
import Derived.Laws.Externs
import Derived.Shelf.RegionOpenPlain
import Derived.Below
import Derived.Lib.LaidTab
import Derived.Shelf.Lays
import Derived.Shelf.Small.Utf8
import Derived.Shelf.Small.Strs
import Derived.Shelf.Strings.Prefix
import Derived.Shelf.LaysM
import Derived.Shelf.Strconv.Itoa3
import Derived.Shelf.LaysC
import Derived.Shelf.Strconv.ParseIntPublic10
import Derived.Shelf.Unicode.DecodeAny
import Derived.Shelf.Strings.IndexAnyAll
import Derived.Shelf.Strings.Runes
import Derived.Shelf.Unicode.ValidAny
import Derived.Shelf.Strings.IndexAny
import Derived.Test.YthnafgjbhlpfgaaGreatDoorProg
import Derived.Lib.AppendIntMem
import Derived.Deep.LoopGhost
import Derived.Laws.Runes
import Derived.Scope
import Derived.Deep.QuietTactic
import Derived.BigQuiet
import Derived.Laws.RangeString
import Derived.Lib.IndexAny
import Derived.Lib.TrimU
import Derived.MapKept
import Derived.Lib.AppendZeros
import Derived.Lib.OthersKept
import Derived.Defers
import Derived.Lib.MapLaws
import Derived.Lib.ValidLaws
import Derived.Test.YthnafgjbhlpfgaaGreatDoorZ08a
import Derived.Test.YthnafgjbhlpfgaaGreatDoorZ08b
set_option maxHeartbeats 4000000
section
namespace Go.Ab
open Go.Proofs Go.RowKit Go
structure az where
 fbuf:Bytes
def bI (b:az):Option az:=some b
def ct (b:az):Option (Bytes×az):=ck (b.fbuf.length≤9223372036854775807) <| some (b.fbuf,b)
theorem zK:∃ j,Tryz.prog.info? 65=some j∧j.size=2:=by
 have h:(Tryz.prog.info? 65).map (·.size)=some 2:=by kernel_rfl
 obtain ⟨j,hj,hs⟩:=Option.map_eq_some_iff.1 h
 exact ⟨j,hj,hs⟩
set_option maxRecDepth 100000 in
theorem qx (b:Nat)(w:World)(h0:w.cell? ⟨b,0,none⟩=some (.pointer (some ⟨b,0,none⟩))) :
  Calls Tryz.prog 79 #[.pointer (some ⟨b,0,none⟩)] w λ e w'=>e=.returned (.tuple #[])∧w'=w:=by
 obtain ⟨j,hj,_⟩:=zK
 go_enter Tryz.func79,Tryz.ntmps79
 go_wp2
 rw [Lib.run_neq_ptr_same w _ Tryz.underlying62 hj]
 go_wp2
 go_end0
 exact ⟨rfl,rfl⟩
set_option maxRecDepth 100000 in
theorem pb (b:Nat)(w:World)(h0:w.cell? ⟨b,0,none⟩=some (.pointer none))(hsh:w.shape? b=some (65,2))(hfz:w.frozen? ⟨b,0,none⟩=false) :
  Calls Tryz.prog 79 #[.pointer (some ⟨b,0,none⟩)] w λ e w'=>e=.returned (.tuple #[])∧w'=w.setCell ⟨b,0,none⟩ (.pointer (some ⟨b,0,none⟩)):=by
 obtain ⟨j,hj,hjs⟩:=zK
 go_enter Tryz.func79,Tryz.ntmps79
 go_wp2
 rw [Lib.run_to_unsafe w ⟨b,0,none⟩ Tryz.underlying62 Tryz.underlying121 hj (by rw [hjs]; decide) hsh (Nat.zero_lt_succ 1)]
 simp only [Result.andThen]
 rw [Oper.upon_value]
 go_wp2
 rw [run_callFunc_extern Tryz.func109 (by kernel_rfl) (by kernel_rfl) (by kernel_rfl) (e:=Extern.AbiNoEscape.same) (by kernel_rfl)]
 rw [Lib.run_noEscape]
 simp only [Result.andThen]
 rw [Oper.upon_value]
 go_wp2
 rw [Lib.run_from_unsafe w ⟨b,0,none⟩ Tryz.underlying121 Tryz.underlying62 hj hsh (by kernel_rfl)]
 simp only [Result.andThen]
 rw [Oper.upon_value]
 go_wp2
 go_end0
 exact ⟨rfl,rfl⟩
structure u6 (b:Nat)(w w':World):Prop where
 os:w'.os=w.os
 out:w'.output=w.output
 tape:w'.tape=w.tape
 size:w'.heap.size=w.heap.size
 other:∀ k,k≠b→w'.heap[k]? = w.heap[k]?
def back (i:Nat):Option Nat:=if i=900000 then some 2000000 else if i=1000000 then some 1000000 else none
def ghB (g:Gh):Gh:=⟨g.st,λ i=>if i=2000000 then g.ow 900000 else if M1≤i∧i < 2*M1 then g.ow i else none⟩
theorem sn {g:Gh}{i b:Nat}(h:(ghB g).ow i=some b):(i=2000000∧g.ow 900000=some b)∨(M1≤i∧i < 2*M1∧g.ow i=some b):=by
 simp only [ghB] at h
 split at h
 ·exact .inl ⟨‹_›,h⟩
 ·split at h
  ·rename_i h1; exact .inr ⟨h1.1,h1.2,h⟩
  ·cases h
theorem sG {g:Gh}:∀ i j b,back i=some j→g.ow i=some b→(ghB g).ow j=some b:=by
 intro i j b h hb
 unfold back at h
 split at h
 ·cases h; subst_vars; simp only [ghB,if_true]; exact hb
 ·split at h
  ·cases h; subst_vars
   simp only [ghB]
   rw [if_neg (by decide),if_pos (by decide)]; exact hb
  ·cases h
theorem vC {w w':World}{g:Gh}{b:Nat}(hok:Ok0 w g.st)(hown:∀ i b,g.ow i=some b→b < w.heap.size∧i < 2*M1)
  (hinj:∀ i j b,g.ow i=some b→g.ow j=some b→i=j) (hnst:∀ i b,M1≤i→g.ow i=some b→∀ o,¬ g.st b o)
  (hb:g.ow 1000000=some b) (h:u6 b w w')
  (hsh:∀ (c:Array Value) (e:TypeId),w.heap[b]? = some (.cells c e (0,0))→∃ c':Array Value,w'.heap[b]? = some (.cells c' e (0,0))∧c'.size=c.size):mz w g w' (ghB g):=by
 have hbs:∀ o,¬ g.st b o:=hnst _ b (Nat.le_refl _) hb
 have hev:Ev w g.st w' g.st:=λ k o hk=>⟨hk,by
  have:k≠b:=λ e=>hbs o (e ▸ hk)
  simp only [World.cell?,h.other k this]⟩
 refine ⟨h.os,h.out,h.tape,by rw [h.size]; exact Nat.le_refl _,λ k hk hno=>h.other k (λ e=>hno 1000000 (e ▸ hb)),λ i k hi=>?_,λ i j k hi hj=>?_,λ k o hk=>by rw [h.size]; exact hok.lt k o hk,λ k hk _ o=>Iff.rfl,λ i h1 h2=>?_,λ i k c e h1 h2 h3=>?_,λ i k hi hk o=>hnst i k hi hk o,hev⟩
 ·rcases sn hi with ⟨_,h1⟩ | ⟨_,_,h1⟩
  ·exact ⟨by rw [h.size]; exact (hown _ _ h1).1,.inr ⟨_,h1⟩⟩
  ·exact ⟨by rw [h.size]; exact (hown _ _ h1).1,.inr ⟨_,h1⟩⟩
 ·rcases sn hi with ⟨e1,h1⟩ | ⟨a1,a2,h1⟩ <;> rcases sn hj with ⟨e2,h2⟩ | ⟨b1,b2,h2⟩
  ·omega
  ·have:=hinj _ _ _ h1 h2; unfold M1 at *; omega
  ·have:=hinj _ _ _ h1 h2; unfold M1 at *; omega
  ·exact hinj _ _ _ h1 h2
 ·simp only [ghB]
  rw [if_neg (by unfold M1 at *; omega),if_pos ⟨h1,h2⟩]
 ·by_cases e1:k=b
  ·subst e1; exact hsh c e h3
  ·exact ⟨c,(h.other k e1).trans h3,rfl⟩
theorem Ba {w w':World}{g:Gh}{b:Nat}(hbs:∀ o,¬ g.st b o)(h:u6 b w w')(hc:∃ c e,w.heap[b]? = some (.cells c e (0,0)))
  (hsh:∀ (c:Array Value) (e:TypeId),w.heap[b]? = some (.cells c e (0,0))→∃ c':Array Value,w'.heap[b]? = some (.cells c' e (0,0))∧c'.size=c.size):EvO (λ _=>false) w g w' g:=by
 refine ⟨λ k o hk=>⟨hk,?_⟩,λ _ _ _ h=>h,λ id k c e _ _ hk=>?_,λ _ _ _ _ _ h=>h,λ id k es k' _ _ hk=>(h.other k (λ e=>by subst e; obtain ⟨c,t,hc⟩:=hc; rw [hc] at hk; cases hk)).trans hk,λ _ _=>rfl,λ id k o _ _ ho=>h.other k (λ e=>hbs o (e ▸ ho))⟩
 ·have:k≠b:=λ e=>hbs o (e ▸ hk)
  simp only [World.cell?,h.other k this]
 ·by_cases e1:k=b
  ·subst e1; exact hsh c e hk
  ·exact ⟨c,(h.other k e1).trans hk,rfl⟩
theorem w6 {w:World}{g:Gh}{es:List PV}{vs:Array Value}{T ty:Nat}(hsz:vs.size=1)
  (hargs:∀ (i:Nat) c v,[AV.ptr 1000000 0][i]? = some c→vs[i]? = some v→ARep w g c v)
  (hobs:∀ id cs,look [(1000000,[AV.bptr T 2 1000000,AV.vec 900000 1 ty es])] id=some cs→gT w g id cs) :
  ∃ b p q,g.ow 1000000=some b∧vs=#[.pointer (some ⟨b,0,none⟩)]∧w.heap[b]? = some (.cells #[p,q] T (0,0))∧(∀ o,¬ g.st b o) ∧
   (p=.pointer none∨p=.pointer (some ⟨b,0,none⟩))∧ARep w g (.vec 900000 1 ty es) q:=by
 obtain ⟨b,c,e,h1,h2,h3,h4,h5⟩:=hobs 1000000 _ rfl
 obtain ⟨p,hp,hpr⟩:=h5 0 _ rfl
 obtain ⟨q,hq,hqr⟩:=h5 1 _ rfl
 have hv0:vs[0]? = some vs[0]:=Array.getElem?_eq_getElem (by omega)
 have ha:=hargs 0 _ _ rfl hv0
 have hvs:vs=#[vs[0]]:=by
  apply Array.ext
  ·simp [hsz]
  ·intro i h1 h2
   have:i=0:=by omega
   subst this; rfl
 have hc:∀ c1:Array Value,c1=c→c1.size=2→c=#[p,q]:=by
  rintro c1 rfl h
  apply Array.ext
  ·simp [h]
  ·intro i k1 k2
   match i,k2 with
   | 0,_=>rw [Array.getElem?_eq_getElem k1] at hp; simpa using hp
   | 1,_=>rw [Array.getElem?_eq_getElem k1] at hq; simpa using hq
 have hav:vs[0]=.pointer (some ⟨b,0,none⟩):=by
  generalize vs[0]=v at ha
  cases ha with
  | ptr how=>rw [h1] at how; cases how; rfl
 refine ⟨b,p,q,h1,by rw [hvs,hav],?_,h4,?_,hqr⟩
 ·cases hpr with
  | bptrn how hb hcs=>rw [h1] at how; cases how; rw [h2] at hb; cases hb; rw [h2,hc _ rfl hcs]
  | bptr how hb hcs=>rw [h1] at how; cases how; rw [h2] at hb; cases hb; rw [h2,hc _ rfl hcs]
 ·cases hpr with
  | bptrn how hb hcs=>exact .inl rfl
  | bptr how hb hcs=>rw [h1] at how; cases how; exact .inr rfl
theorem ob_B {w':World}{g:Gh}{es:List PV}{T ty b:Nat}{p q:Value}(hb:g.ow 1000000=some b)(h4:∀ o,¬ g.st b o)(h:w'.heap[b]? = some (.cells #[p,q] T (0,0)))
  (hp:p=.pointer none∨p=.pointer (some ⟨b,0,none⟩)) (hq:ARep w' g (.vec 900000 1 ty es) q):gT w' (ghB g) 1000000 [.bptr T 2 1000000,.vec 2000000 1 ty es]:=by
 have how:(ghB g).ow 1000000=some b:=sG 1000000 1000000 b rfl hb
 refine ⟨b,#[p,q],T,how,h,by simp,h4,λ i x hx=>?_⟩
 match i,hx with
 | 0,hx =>
  simp only [List.getElem?_cons_zero,Option.some.injEq] at hx; subst hx
  refine ⟨p,rfl,?_⟩
  rcases hp with rfl | rfl
  ·exact .bptrn how h rfl
  ·exact .bptr how h rfl
 | 1,hx =>
  simp only [List.getElem?_cons_succ,List.getElem?_cons_zero,Option.some.injEq] at hx; subst hx
  exact ⟨q,rfl,iL (m:=back) (g:=g) (g':=ghB g) rfl sG hq rfl⟩
 | n+2,hx=>simp at hx
theorem dP (b_0:az)(r:az)(h0:bI b_0=some r):bH Tryz.prog 79 [.ptr 1000000 0] [(1000000,[.bptr 65 2 1000000,.vec 900000 1 (5+1) (b_0.fbuf.map eU)])]
  (λ x y=>x=.tuple []∧y=[(1000000,[.bptr 65 2 1000000,.vec 2000000 1 (5+1) (r.fbuf.map eU)])]):=by
 cases h0
 intro w g vs hok hown hinj hnst hsz hargs hobs
 obtain ⟨b,p,q,hb,rfl,hheap,hbs,hp,hq⟩:=w6 hsz hargs hobs
 have hc0:w.cell? ⟨b,0,none⟩=some p:=by simp [World.cell?,hheap]
 rcases hp with rfl | rfl
 ·refine (pb b w hc0 (by simp [World.shape?,hheap]) (by simp [World.frozen?,hheap])).mono ?_
  rintro e w' ⟨rfl,rfl⟩
  have hO:u6 b w (w.setCell ⟨b,0,none⟩ (.pointer (some ⟨b,0,none⟩))):=⟨rfl,rfl,rfl,by simp [World.setCell],λ k hk=>Below.heap_setCell _ _ _ _ hk⟩
  have hheap':(w.setCell ⟨b,0,none⟩ (.pointer (some ⟨b,0,none⟩))).heap[b]? = some (.cells #[.pointer (some ⟨b,0,none⟩),q] 65 (0,0)):=by
   simp [World.setCell,Array.getElem?_modify,hheap]
  have hsh:∀ (c:Array Value) (e:TypeId),w.heap[b]? = some (.cells c e (0,0))→∃ c':Array Value,(w.setCell ⟨b,0,none⟩ (.pointer (some ⟨b,0,none⟩))).heap[b]? = some (.cells c' e (0,0))∧c'.size=c.size:=λ c e h=>by
   rw [hheap] at h; cases h; exact ⟨_,hheap',rfl⟩
  refine ⟨_,_,_,ghB g,rfl,⟨rfl,rfl⟩,.tuple rfl (by simp),λ x hx=>?_,vC hok hown hinj hnst hb hO hsh⟩
  simp only [List.mem_singleton] at hx; subst hx
  exact ob_B hb hbs hheap' (.inr rfl) (hq.mono (Ba hbs hO ⟨_,_,hheap⟩ hsh))
 ·refine (qx b w hc0).mono ?_
  rintro e w' ⟨rfl,rfl⟩
  have hO:u6 b w' w':=⟨rfl,rfl,rfl,rfl,λ k hk=>rfl⟩
  refine ⟨_,_,_,ghB g,rfl,⟨rfl,rfl⟩,.tuple rfl (by simp),λ x hx=>?_,vC hok hown hinj hnst hb hO (λ c e h=>⟨c,h,rfl⟩)⟩
  simp only [List.mem_singleton] at hx; subst hx
  exact ob_B hb hbs hheap (.inr rfl) hq
theorem sw:Tryz.prog.follows .mixedOrders=true:=by kernel_rfl
theorem mB (w:World):Below w.heap.size w w.drew:=Below.drew (Below.refl _ w)
set_option maxRecDepth 100000 in
theorem tL (b:Nat)(p:Value)(w:World)(hbk:w.heap[b]? = some (.cells #[p,.slice none 0 0] 65 (0,0))) :
  Calls Tryz.prog 53 #[.pointer (some ⟨b,0,none⟩)] w λ e w'=>e=.returned (.string ⟨#[]⟩)∧Below w.heap.size w w':=by
 have mixed:=sw
 have hUS:∀ (W:World) (q:Option Addr),(Builtin.unsafeString_ #[99,3] 9 #[.pointer q,.int .i64 0]).run Tryz.prog W=.ok (.string .empty) W:=λ W q=>Lib.run_unsafeString_none W _ _ _ q
 have c1:w.drew.cell? ⟨b,1,none⟩=some (.slice none 0 0):=by
  have:w.drew.heap[b]? = some (.cells #[p,.slice none 0 0] 65 (0,0)):=hbk
  rw [Lib.cell_of_heap this]; rfl
 have hSD:(Builtin.unsafeSliceData_ #[63] 99 #[.slice none 0 0]).run Tryz.prog w.drew=.ok (.pointer none) w.drew:=rfl
 go_enter Tryz.func53,Tryz.ntmps53
 go_wp2
 go_region_o
 all_goals (go_wp2; go_ret; exact ⟨rfl,mB w⟩)
set_option maxRecDepth 100000 in
theorem sF (b g cap:Nat)(p:Value)(w:World)(hc0:cap≠0)(hbk:w.heap[b]? = some (.cells #[p,.slice (some ⟨g,0,none⟩) 0 cap] 65 (0,0))) :
  Calls Tryz.prog 53 #[.pointer (some ⟨b,0,none⟩)] w λ e w'=>e=.returned (.string ⟨#[]⟩)∧Below w.heap.size w w':=by
 have mixed:=sw
 have hUS:∀ (W:World) (q:Option Addr),(Builtin.unsafeString_ #[99,3] 9 #[.pointer q,.int .i64 0]).run Tryz.prog W=.ok (.string .empty) W:=λ W q=>Lib.run_unsafeString_none W _ _ _ q
 have c1:w.drew.cell? ⟨b,1,none⟩=some (.slice (some ⟨g,0,none⟩) 0 cap):=by
  have:w.drew.heap[b]? = some (.cells #[p,.slice (some ⟨g,0,none⟩) 0 cap] 65 (0,0)):=hbk
  rw [Lib.cell_of_heap this]; rfl
 have hSD:(Builtin.unsafeSliceData_ #[63] 99 #[.slice (some ⟨g,0,none⟩) 0 cap]).run Tryz.prog w.drew=.ok (.pointer (some ⟨g,0,none⟩)) w.drew:=Lib.run_unsafeSliceData_row _ _ _ _ _ _ hc0
 clear hc0
 go_enter Tryz.func53,Tryz.ntmps53
 go_wp2
 go_region_o
 all_goals (go_wp2; go_ret; exact ⟨rfl,mB w⟩)
set_option maxRecDepth 100000 in
theorem qN (b g:Nat)(p:Value)(cur:Array Value)(w:World)(hbk:w.heap[b]? = some (.cells #[p,.slice (some ⟨g,0,none⟩) 0 0] 65 (0,0)))(hg:w.heap[g]? = some (.cells cur 5 (0,0))) :
  Calls Tryz.prog 53 #[.pointer (some ⟨b,0,none⟩)] w λ e w'=>e=.returned (.string ⟨#[]⟩)∧Below w.heap.size w w':=by
 have mixed:=sw
 have hUS:∀ (W:World) (q:Option Addr),(Builtin.unsafeString_ #[99,3] 9 #[.pointer q,.int .i64 0]).run Tryz.prog W=.ok (.string .empty) W:=λ W q=>Lib.run_unsafeString_none W _ _ _ q
 have hlt:b < w.heap.size:=by
  rcases Nat.lt_or_ge b w.heap.size with h' | h'
  ·exact h'
  ·simp [Array.getElem?_eq_none h'] at hbk
 have c1:w.drew.cell? ⟨b,1,none⟩=some (.slice (some ⟨g,0,none⟩) 0 0):=by
  have:w.drew.heap[b]? = some (.cells #[p,.slice (some ⟨g,0,none⟩) 0 0] 65 (0,0)):=hbk
  rw [Lib.cell_of_heap this]; rfl
 have hSD:(Builtin.unsafeSliceData_ #[63] 99 #[.slice (some ⟨g,0,none⟩) 0 0]).run Tryz.prog w.drew=.ok (.pointer (some ⟨w.drew.heap.size,0,none⟩)) (w.drew.alloc (.view ⟨g,0,none⟩ 5)) :=
  Lib.run_unsafeSliceData_zero w.drew _ _ 5 Tryz.underlying99 ⟨g,0,none⟩ 0 (5,cur.size) (by have hg':w.drew.heap[g]? = some (.cells cur 5 (0,0)):=hg; simp [World.shape?,hg'])
 have c2:(w.drew.alloc (.view ⟨g,0,none⟩ 5)).cell? ⟨b,1,none⟩=some (.slice (some ⟨g,0,none⟩) 0 0):=by
  have:(w.drew.alloc (.view ⟨g,0,none⟩ 5)).heap[b]? = _:=(Lib.alloc_old w.drew _ b hlt).trans hbk
  rw [Lib.cell_of_heap this]; rfl
 have c3:(w.alloc (.view ⟨g,0,none⟩ 5)).drew.cell? ⟨b,1,none⟩=some (.slice (some ⟨g,0,none⟩) 0 0):=c2
 have c0:w.cell? ⟨b,1,none⟩=some (.slice (some ⟨g,0,none⟩) 0 0):=c1
 go_enter Tryz.func53,Tryz.ntmps53
 go_wp2
 go_region_o
 all_goals (go_wp2; go_ret; exact ⟨rfl,(mB w).alloc (Nat.le_refl _) _⟩)
set_option maxRecDepth 100000 in
theorem uK (b g cap:Nat)(p:Value)(cur:Array Value)(l:List UInt8)(w:World)(h0:l≠[])(hbk:w.heap[b]? = some (.cells #[p,.slice (some ⟨g,0,none⟩) l.length cap] 65 (0,0)))(hg:w.heap[g]? = some (.cells cur 5 (0,0)))
  (hnc:l.length≤cap) (hcs:cur.size=cap) (hcm:l.length≤9223372036854775807) (hcell:∀ (j:Nat) x,l[j]? = some x→w.cell? ⟨g,j,none⟩=some (.int .u8 x.toNat)) :
  Calls Tryz.prog 53 #[.pointer (some ⟨b,0,none⟩)] w λ e w'=>e=.returned (.string ⟨l.toArray⟩)∧w'=(w.drew.freeze ⟨g,0,none⟩ l.length):=by
 have mixed:=sw
 have hl0:l.length≠0:=by simpa using h0
 have c1:w.drew.cell? ⟨b,1,none⟩=some (.slice (some ⟨g,0,none⟩) l.length cap):=by
  have:w.drew.heap[b]? = some (.cells #[p,.slice (some ⟨g,0,none⟩) l.length cap] 65 (0,0)):=hbk
  rw [Lib.cell_of_heap this]; rfl
 have hSD:(Builtin.unsafeSliceData_ #[63] 99 #[.slice (some ⟨g,0,none⟩) l.length cap]).run Tryz.prog w.drew=.ok (.pointer (some ⟨g,0,none⟩)) w.drew:=Lib.run_unsafeSliceData_row _ _ _ _ _ _ (by omega)
 have hUS:(Builtin.unsafeString_ #[99,3] 9 #[.pointer (some ⟨g,0,none⟩),.int .i64 l.length]).run Tryz.prog w.drew=.ok (.string ⟨l.toArray⟩) (w.drew.freeze ⟨g,0,none⟩ l.length):=by
  refine Lib.run_unsafeString_row w.drew 99 3 9 5 Tryz.underlying99 (by kernel_rfl) g cur.size (by have hg':w.drew.heap[g]? = some (.cells cur 5 (0,0)):=hg; simp [World.shape?,hg']) l h0 (by omega) hcm ?_
  intro j x hx
  have:=hcell j x hx
  rw [add_lit,Nat.zero_add,World.cell?_drew]; exact this
 clear hcell hcs hcm hnc h0 hl0
 go_enter Tryz.func53,Tryz.ntmps53
 go_wp2
 go_region_o
 all_goals (go_wp2; go_ret; exact ⟨rfl,rfl⟩)
theorem su (w:World)(g n k:Nat)(h:k≠g):(w.freeze ⟨g,0,none⟩ n).heap[k]? = w.heap[k]?:=by
 unfold World.freeze
 split
 ·rfl
 ·simp only [Array.getElem?_modify]
  rw [if_neg (λ e=>h e.symm)]
theorem tH (w:World)(g n:Nat)(a:Addr):(w.freeze ⟨g,0,none⟩ n).cell? a=w.cell? a:=by
 unfold World.freeze
 split
 ·rfl
 ·simp only [World.cell?,Array.getElem?_modify]
  by_cases h:g=a.block
  ·simp only [h,if_true]
   cases w.heap[a.block]? with
   | none=>rfl
   | some o=>cases o <;> rfl
  ·simp only [h,if_false]
theorem tp (w:World)(g n:Nat):(w.freeze ⟨g,0,none⟩ n).heap.size=w.heap.size:=by
 unfold World.freeze; split <;> simp
theorem s8 (w:World)(g n:Nat):(w.freeze ⟨g,0,none⟩ n).os=w.os∧(w.freeze ⟨g,0,none⟩ n).output=w.output∧(w.freeze ⟨g,0,none⟩ n).tape=w.tape:=by
 unfold World.freeze; split <;> exact ⟨rfl,rfl,rfl⟩
def ghS (g:Gh):Gh:=⟨g.st,λ i=>if M1≤i∧i < 2*M1 then g.ow i else none⟩
theorem sA {g:Gh}{i b:Nat}(h:(ghS g).ow i=some b):M1≤i∧i < 2*M1∧g.ow i=some b:=by
 simp only [ghS] at h
 split at h
 ·rename_i h1; exact ⟨h1.1,h1.2,h⟩
 ·cases h
theorem u7 {w w':World}{g:Gh}{q:Nat}(hok:Ok0 w g.st)(hown:∀ i b,g.ow i=some b→b < w.heap.size∧i < 2*M1)
  (hinj:∀ i j b,g.ow i=some b→g.ow j=some b→i=j) (hnst:∀ i b,M1≤i→g.ow i=some b→∀ o,¬ g.st b o)
  (hq:g.ow 900000=some q∨w.heap.size≤q) (os:w'.os=w.os) (out:w'.output=w.output) (tape:w'.tape=w.tape) (size:w.heap.size≤w'.heap.size)
  (other:∀ k,k < w.heap.size→k≠q→w'.heap[k]? = w.heap[k]?) (cell:∀ b o,b < w.heap.size→w'.cell? ⟨b,o,none⟩=w.cell? ⟨b,o,none⟩):mz w g w' (ghS g):=by
 have hev:Ev w g.st w' g.st:=λ k o hk=>⟨hk,cell k o (hok.lt k o hk)⟩
 refine ⟨os,out,tape,size,λ k hk hno=>other k hk (λ e=>?_),λ i k hi=>?_,λ i j k hi hj=>?_,λ k o hk=>Nat.lt_of_lt_of_le (hok.lt k o hk) size,λ k hk _ o=>Iff.rfl,λ i h1 h2=>?_,λ i k c e h1 h2 h3=>?_,λ i k hi hk o=>hnst i k hi hk o,hev⟩
 ·rcases hq with hq | hq
  ·exact hno _ (e ▸ hq)
  ·omega
 ·obtain ⟨_,_,h1⟩:=sA hi
  exact ⟨Nat.lt_of_lt_of_le (hown _ _ h1).1 size,.inr ⟨_,h1⟩⟩
 ·exact hinj _ _ _ (sA hi).2.2 (sA hj).2.2
 ·simp only [ghS]; rw [if_pos ⟨h1,h2⟩]
 ·refine ⟨c,(other k (hown _ _ h2).1 (λ e=>?_)).trans h3,rfl⟩
  rcases hq with hq | hq
  ·have:=hinj _ _ _ h2 (e ▸ hq); unfold M1 at *; omega
  ·have:=(hown _ _ h2).1; omega
theorem ob_S {w':World}{g:Gh}{es:List PV}{T b:Nat}{p q:Value}(hb:g.ow 1000000=some b)(h4:∀ o,¬ g.st b o)(h:w'.heap[b]? = some (.cells #[p,q] T (0,0)))
  (hp:p=.pointer none∨p=.pointer (some ⟨b,0,none⟩)) (hq:PRep w' g.st (.slice es) q):gT w' (ghS g) 1000000 [.bptr T 2 1000000,.p (.slice es)]:=by
 have how:(ghS g).ow 1000000=some b:=by simp only [ghS]; rw [if_pos (by decide)]; exact hb
 refine ⟨b,#[p,q],T,how,h,by simp,h4,λ i x hx=>?_⟩
 match i,hx with
 | 0,hx =>
  simp only [List.getElem?_cons_zero,Option.some.injEq] at hx; subst hx
  refine ⟨p,rfl,?_⟩
  rcases hp with rfl | rfl
  ·exact .bptrn how h rfl
  ·exact .bptr how h rfl
 | 1,hx =>
  simp only [List.getElem?_cons_succ,List.getElem?_cons_zero,Option.some.injEq] at hx; subst hx
  exact ⟨q,rfl,.p hq⟩
 | n+2,hx=>simp at hx
theorem ef (b_0:az)(r:Bytes×az)(h0:ct b_0=some r):bH Tryz.prog 53 [.ptr 1000000 0] [(1000000,[.bptr 65 2 1000000,.vec 900000 1 (5+1) (b_0.fbuf.map eU)])]
  (λ x y=>x=.p (eS r.1)∧y=[(1000000,[.bptr 65 2 1000000,.p (eL eU r.2.fbuf)])]):=by
 obtain ⟨hmax,h0⟩:=fT h0
 cases h0
 intro w g vs hok hown hinj hnst hsz hargs hobs
 obtain ⟨b,p,q,hb,rfl,hheap,hbs,hp,hq⟩:=w6 hsz hargs hobs
 have hbl:b < w.heap.size:=(hown _ _ hb).1
 obtain ⟨l,hl⟩:∃ l,l=b_0.fbuf:=⟨_,rfl⟩
 rw [← hl] at hq ⊢
 -- a builder that holds nothing
 have none_:∀ q0,l=[]→q=q0→(Calls Tryz.prog 53 #[.pointer (some ⟨b,0,none⟩)] w λ e w'=>e=.returned (.string ⟨#[]⟩)∧Below w.heap.size w w')→PRep w g.st (.slice []) q0 →
   Calls Tryz.prog 53 #[.pointer (some ⟨b,0,none⟩)] w λ e w'=>∃ v r obs' g',e=.returned v∧(r=.p (eS l)∧obs'=[(1000000,[.bptr 65 2 1000000,.p (eL eU l)])])∧ARep w' g' r v∧(∀ p∈obs',gT w' g' p.1 p.2)∧mz w g w' g':=by
  rintro q0 rfl rfl hc hr
  refine hc.mono ?_
  rintro e w' ⟨rfl,hB⟩
  have hcell:∀ b o,b < w.heap.size→w'.cell? ⟨b,o,none⟩=w.cell? ⟨b,o,none⟩:=λ b o h=>hB.cell (p:=⟨b,o,none⟩) h
  refine ⟨_,_,_,ghS g,rfl,⟨rfl,rfl⟩,.p (.val _),λ x hx=>?_,u7 (q:=w.heap.size) hok hown hinj hnst (.inr (Nat.le_refl _)) hB.os hB.output hB.tape hB.size (λ k hk _=>hB.block k hk) hcell⟩
  simp only [List.mem_singleton] at hx; subst hx
  exact ob_S hb hbs ((hB.block b hbl).trans hheap) hp (hr.mono (w':=w') (st':=g.st) (λ k o hk=>⟨hk,hcell k o (hok.lt k o hk)⟩))
 generalize hes:l.map eU=es at hq
 cases hq with
 | vecn =>
  have e:l=[]:=by simpa using hes
  exact none_ _ e rfl (tL b p w hheap) .nils
 | vec how hb2 hcs hsz2 hst hr hty =>
  rename_i g2 off2 cap c e2
  have he2:e2=5∧off2=0:=by
   rcases hty with h | h
   ·cases h
   ·exact ⟨(Nat.succ.inj h.1).symm,h.2⟩
  obtain ⟨rfl,rfl⟩:=he2
  rw [Nat.zero_add] at hcs
  simp only [Nat.zero_add] at hst
  have hgl:g2 < w.heap.size:=(hown _ _ how).1
  subst hes
  simp only [List.length_map] at hheap
  by_cases hl0:l=[]
  ·subst hl0
   by_cases hc0:cap=0
   ·subst hc0
    exact none_ _ rfl rfl (qN b g2 p c w hheap hb2) (by simpa using hr)
   ·exact none_ _ rfl rfl (sF b g2 cap p w hc0 hheap) (by simpa using hr)
  ·have hcap:l.length≤cap:=by
    obtain ⟨a',cap',he,hle⟩:=lA hr
    cases he
    simpa using hle
   have hcell:∀ (j:Nat) x,l[j]? = some x→w.cell? ⟨g2,j,none⟩=some (.int .u8 x.toNat):=by
    intro j x hx
    have hinv:=za hsz2 hb2 hr
    obtain ⟨_,u,hu,hru⟩:=hinv j (eU x) 0 (eU x) (by simp [hx]) rfl
    cases hru
    simp only [World.cell?,hb2]
    simpa using hu
   refine (uK b g2 cap p c l w hl0 (by simpa using hheap) hb2 hcap (by simpa using hcs) ?_ hcell).mono ?_
   ·rw [hl]; exact hmax
   rintro e w' ⟨rfl,rfl⟩
   have hother:∀ k,k≠g2→(w.drew.freeze ⟨g2,0,none⟩ l.length).heap[k]? = w.heap[k]?:=λ k hk=>su w.drew g2 _ k hk
   have hcell2:∀ b o,(w.drew.freeze ⟨g2,0,none⟩ l.length).cell? ⟨b,o,none⟩=w.cell? ⟨b,o,none⟩:=λ b o=>tH w.drew g2 _ _
   obtain ⟨r1,r2,r3⟩:=s8 w.drew g2 l.length
   refine ⟨_,_,_,ghS g,rfl,⟨rfl,rfl⟩,.p (.val _),λ x hx=>?_,u7 (q:=g2) hok hown hinj hnst (.inl how) r1 r2 r3 (by rw [tp]; exact Nat.le_refl _) (λ k _ hk=>hother k hk) (λ b o _=>hcell2 b o)⟩
   simp only [List.mem_singleton] at hx; subst hx
   have hne:b≠g2:=λ e=>by subst e; have:=hinj _ _ _ hb how; omega
   exact ob_S hb hbs ((hother b hne).trans (by simpa using hheap)) hp (by simpa using hr.mono (w':=w.drew.freeze ⟨g2,0,none⟩ l.length) (st':=g.st) (λ k o hk=>⟨hk,hcell2 k o⟩))
end Go.Ab
end
section
namespace Go.Ab.RB
open Go.Proofs Go.Ab
attribute [local irreducible] awp eQ aU au bH AV.sub M cC
def ce (p_0:List UInt8)(r_1:Int):Option (List UInt8) :=
 if IntKind.wrap .u32 (r_1)≤2047 then
  ck ((0:Int)≤6) <|
  ck ((0:Int)≤iOr .u8 192 (IntKind.wrap .u8 (bM .i32 r_1 6))∧iOr .u8 192 (IntKind.wrap .u8 (bM .i32 r_1 6)) < 256) <|
  ck ((0:Int)≤iOr .u8 128 (bh .u8 (IntKind.wrap .u8 (r_1)) 63)∧iOr .u8 128 (bh .u8 (IntKind.wrap .u8 (r_1)) 63) < 256) <|
  ck ((p_0.length+[u8 (iOr .u8 192 (IntKind.wrap .u8 (bM .i32 r_1 6))),u8 (iOr .u8 128 (bh .u8 (IntKind.wrap .u8 (r_1)) 63))].length)*1≤140737488355328) <|
  some (p_0++[u8 (iOr .u8 192 (IntKind.wrap .u8 (bM .i32 r_1 6))),u8 (iOr .u8 128 (bh .u8 (IntKind.wrap .u8 (r_1)) 63))])
 else
  (
    if IntKind.wrap .u32 (r_1) < 55296 then
     some true
    else
     if 57343 < IntKind.wrap .u32 (r_1) then
      some (decide (IntKind.wrap .u32 (r_1)≤65535))
     else
      some false
   : Option Bool).bind λ t8 =>
  if t8=true then
   ck ((0:Int)≤12) <|
   ck ((0:Int)≤6) <|
   ck ((0:Int)≤iOr .u8 224 (IntKind.wrap .u8 (bM .i32 r_1 12))∧iOr .u8 224 (IntKind.wrap .u8 (bM .i32 r_1 12)) < 256) <|
   ck ((0:Int)≤iOr .u8 128 (bh .u8 (IntKind.wrap .u8 (bM .i32 r_1 6)) 63)∧iOr .u8 128 (bh .u8 (IntKind.wrap .u8 (bM .i32 r_1 6)) 63) < 256) <|
   ck ((0:Int)≤iOr .u8 128 (bh .u8 (IntKind.wrap .u8 (r_1)) 63)∧iOr .u8 128 (bh .u8 (IntKind.wrap .u8 (r_1)) 63) < 256) <|
   ck ((p_0.length+[u8 (iOr .u8 224 (IntKind.wrap .u8 (bM .i32 r_1 12))),u8 (iOr .u8 128 (bh .u8 (IntKind.wrap .u8 (bM .i32 r_1 6)) 63)),u8 (iOr .u8 128 (bh .u8 (IntKind.wrap .u8 (r_1)) 63))].length)*1≤140737488355328) <|
   some (p_0++[u8 (iOr .u8 224 (IntKind.wrap .u8 (bM .i32 r_1 12))),u8 (iOr .u8 128 (bh .u8 (IntKind.wrap .u8 (bM .i32 r_1 6)) 63)),u8 (iOr .u8 128 (bh .u8 (IntKind.wrap .u8 (r_1)) 63))])
  else
   (
     if 65535 < IntKind.wrap .u32 (r_1) then
      some (decide (IntKind.wrap .u32 (r_1)≤1114111))
     else
      some false
    : Option Bool).bind λ t17 =>
   if t17=true then
    ck ((0:Int)≤18) <|
    ck ((0:Int)≤12) <|
    ck ((0:Int)≤6) <|
    ck ((0:Int)≤iOr .u8 240 (IntKind.wrap .u8 (bM .i32 r_1 18))∧iOr .u8 240 (IntKind.wrap .u8 (bM .i32 r_1 18)) < 256) <|
    ck ((0:Int)≤iOr .u8 128 (bh .u8 (IntKind.wrap .u8 (bM .i32 r_1 12)) 63)∧iOr .u8 128 (bh .u8 (IntKind.wrap .u8 (bM .i32 r_1 12)) 63) < 256) <|
    ck ((0:Int)≤iOr .u8 128 (bh .u8 (IntKind.wrap .u8 (bM .i32 r_1 6)) 63)∧iOr .u8 128 (bh .u8 (IntKind.wrap .u8 (bM .i32 r_1 6)) 63) < 256) <|
    ck ((0:Int)≤iOr .u8 128 (bh .u8 (IntKind.wrap .u8 (r_1)) 63)∧iOr .u8 128 (bh .u8 (IntKind.wrap .u8 (r_1)) 63) < 256) <|
    ck ((p_0.length+[u8 (iOr .u8 240 (IntKind.wrap .u8 (bM .i32 r_1 18))),u8 (iOr .u8 128 (bh .u8 (IntKind.wrap .u8 (bM .i32 r_1 12)) 63)),u8 (iOr .u8 128 (bh .u8 (IntKind.wrap .u8 (bM .i32 r_1 6)) 63)),u8 (iOr .u8 128 (bh .u8 (IntKind.wrap .u8 (r_1)) 63))].length)*1≤140737488355328) <|
    some (p_0++[u8 (iOr .u8 240 (IntKind.wrap .u8 (bM .i32 r_1 18))),u8 (iOr .u8 128 (bh .u8 (IntKind.wrap .u8 (bM .i32 r_1 12)) 63)),u8 (iOr .u8 128 (bh .u8 (IntKind.wrap .u8 (bM .i32 r_1 6)) 63)),u8 (iOr .u8 128 (bh .u8 (IntKind.wrap .u8 (r_1)) 63))])
   else
    ck ((p_0.length+[(239:UInt8),(191:UInt8),(189:UInt8)].length)*1≤140737488355328) <|
    some (p_0++[(239:UInt8),(191:UInt8),(189:UInt8)])
theorem gn (p_0:List UInt8)(r_1:Int)(r:(List UInt8))(h0:ce p_0 r_1=some r):bH Tryz.prog 152 [.vec 900000 1 (5+1) (p_0.map eU),.p (eK .i32 r_1)] [] (λ x y=>x=.vec 2000000 1 (5+1) (r.map eU)∧y=[]):=by
 unfold ce at h0
 refine hH good [800000] [] Tryz.func152 rfl rfl rfl rfl rfl λ w0 F=>mPo (λ v:(List UInt8)=>.vec 2000000 1 (5+1) (v.map eU)) (λ v=>[]) ?_
 refine nx 17 rfl (fD [11,13] h0 rfl (λ c1 h0=>?_) λ c1 h0=>?_)
 ·refine nx 5 rfl (cc' h0 λ hk2 h0=>?_)
  refine mO rfl (g0 rfl rfl rfl rfl rfl rfl hk2 ?_)
  refine nx 6 rfl (cc' h0 λ hk4 h0=>?_)
  refine cc' h0 λ hk3 h0=>mO rfl (aV eU [u8 (iOr .u8 192 (IntKind.wrap .u8 (bM .i32 r_1 6))),u8 (iOr .u8 128 (bh .u8 (IntKind.wrap .u8 (r_1)) 63))] rfl rfl rfl rfl rfl rfl rfl rfl rfl rfl rfl rfl rfl (congr (congrArg List.cons (fh hk4)) (congr (congrArg List.cons (fh hk3)) rfl)) ?_)
  refine cc' h0 λ hk5 h0=>mO rfl (dl eU p_0 [u8 (iOr .u8 192 (IntKind.wrap .u8 (bM .i32 r_1 6))),u8 (iOr .u8 128 (bh .u8 (IntKind.wrap .u8 (r_1)) 63))] rfl rfl rfl rfl rfl rfl rfl rfl rfl rfl rfl rfl rfl (λ _=>rfl) rfl rfl rfl rfl hk5 ?_)
  exact nx 3 rfl (mQo (oi h0) (aN (bf 24 800000 rfl rfl rfl rfl rfl) (bu _)) rfl rfl rfl rfl (sr) trivial)
 refine nx 2 rfl (bd h0 λ o30 h1 h0=>?_)
 refine kN o30 (λ v31=>⟨[(0,.vec 900000 1 (5+1) (p_0.map eU)),(1,.p (eK .i32 r_1)),(5,.p (eK .u32 (IntKind.wrap .u32 (r_1)))),(25,.p (eB v31))],[]⟩) ?_ ?_
 ·refine nx 1 rfl (fB [25] h0 rfl (λ c9 h0=>?_) λ c9 h0=>?_)
  ·refine nx 5 rfl (cc' h0 λ hk10 h0=>?_)
   refine mO rfl (g0 rfl rfl rfl rfl rfl rfl hk10 ?_)
   refine nx 3 rfl (cc' h0 λ hk11 h0=>?_)
   refine mO rfl (g0 rfl rfl rfl rfl rfl rfl hk11 ?_)
   refine nx 7 rfl (cc' h0 λ hk14 h0=>?_)
   refine cc' h0 λ hk13 h0=>cc' h0 λ hk12 h0=>mO rfl (aV eU [u8 (iOr .u8 224 (IntKind.wrap .u8 (bM .i32 r_1 12))),u8 (iOr .u8 128 (bh .u8 (IntKind.wrap .u8 (bM .i32 r_1 6)) 63)),u8 (iOr .u8 128 (bh .u8 (IntKind.wrap .u8 (r_1)) 63))] rfl rfl rfl rfl rfl rfl rfl rfl rfl rfl rfl rfl rfl (congr (congrArg List.cons (fh hk14)) (congr (congrArg List.cons (fh hk13)) (congr (congrArg List.cons (fh hk12)) rfl))) ?_)
   refine cc' h0 λ hk15 h0=>mO rfl (dl eU p_0 [u8 (iOr .u8 224 (IntKind.wrap .u8 (bM .i32 r_1 12))),u8 (iOr .u8 128 (bh .u8 (IntKind.wrap .u8 (bM .i32 r_1 6)) 63)),u8 (iOr .u8 128 (bh .u8 (IntKind.wrap .u8 (r_1)) 63))] rfl rfl rfl rfl rfl rfl rfl rfl rfl rfl rfl rfl rfl (λ _=>rfl) rfl rfl rfl rfl hk15 ?_)
   exact nx 3 rfl (mQo (oi h0) (aN (bf 49 800000 rfl rfl rfl rfl rfl) (bu _)) rfl rfl rfl rfl (sr) trivial)
  refine nx 2 rfl (bd h0 λ o32 h1 h0=>?_)
  refine kN o32 (λ v33=>⟨[(0,.vec 900000 1 (5+1) (p_0.map eU)),(1,.p (eK .i32 r_1)),(50,.p (eB v33))],[]⟩) ?_ ?_
  ·refine nx 1 rfl (fB [50] h0 rfl (λ c18 h0=>?_) λ c18 h0=>?_)
   ·refine nx 5 rfl (cc' h0 λ hk19 h0=>?_)
    refine mO rfl (g0 rfl rfl rfl rfl rfl rfl hk19 ?_)
    refine nx 3 rfl (cc' h0 λ hk20 h0=>?_)
    refine mO rfl (g0 rfl rfl rfl rfl rfl rfl hk20 ?_)
    refine nx 4 rfl (cc' h0 λ hk21 h0=>?_)
    refine mO rfl (g0 rfl rfl rfl rfl rfl rfl hk21 ?_)
    refine nx 7 rfl (cc' h0 λ hk25 h0=>?_)
    refine cc' h0 λ hk24 h0=>cc' h0 λ hk23 h0=>cc' h0 λ hk22 h0=>mO rfl (aV eU [u8 (iOr .u8 240 (IntKind.wrap .u8 (bM .i32 r_1 18))),u8 (iOr .u8 128 (bh .u8 (IntKind.wrap .u8 (bM .i32 r_1 12)) 63)),u8 (iOr .u8 128 (bh .u8 (IntKind.wrap .u8 (bM .i32 r_1 6)) 63)),u8 (iOr .u8 128 (bh .u8 (IntKind.wrap .u8 (r_1)) 63))] rfl rfl rfl rfl rfl rfl rfl rfl rfl rfl rfl rfl rfl (congr (congrArg List.cons (fh hk25)) (congr (congrArg List.cons (fh hk24)) (congr (congrArg List.cons (fh hk23)) (congr (congrArg List.cons (fh hk22)) rfl)))) ?_)
    refine cc' h0 λ hk26 h0=>mO rfl (dl eU p_0 [u8 (iOr .u8 240 (IntKind.wrap .u8 (bM .i32 r_1 18))),u8 (iOr .u8 128 (bh .u8 (IntKind.wrap .u8 (bM .i32 r_1 12)) 63)),u8 (iOr .u8 128 (bh .u8 (IntKind.wrap .u8 (bM .i32 r_1 6)) 63)),u8 (iOr .u8 128 (bh .u8 (IntKind.wrap .u8 (r_1)) 63))] rfl rfl rfl rfl rfl rfl rfl rfl rfl rfl rfl rfl rfl (λ _=>rfl) rfl rfl rfl rfl hk26 ?_)
    exact nx 3 rfl (mQo (oi h0) (aN (bf 77 800000 rfl rfl rfl rfl rfl) (bu _)) rfl rfl rfl rfl (sr) trivial)
   refine nx 4 rfl (mO rfl (aV eU [(239:UInt8),(191:UInt8),(189:UInt8)] rfl rfl rfl rfl rfl rfl rfl rfl rfl rfl rfl rfl rfl rfl ?_))
   refine cc' h0 λ hk27 h0=>mO rfl (dl eU p_0 [(239:UInt8),(191:UInt8),(189:UInt8)] rfl rfl rfl rfl rfl rfl rfl rfl rfl rfl rfl rfl rfl (λ _=>rfl) rfl rfl rfl rfl hk27 ?_)
   exact nx 3 rfl (mQo (oi h0) (aN (bf 10 800000 rfl rfl rfl rfl rfl) (bu _)) rfl rfl rfl rfl (sr) trivial)
  refine nx 4 rfl (fD [52,53] h1 rfl (λ c16 h1=>?_) λ c16 h1=>?_)
  ·exact nx 5 rfl (eX _ (oi h1).symm (gE rfl rfl))
  exact nx 5 rfl (eX _ (oi h1).symm (gE rfl rfl))
 refine nx 6 rfl (fD [25,27] h1 rfl (λ c6 h1=>?_) λ c6 h1=>?_)
 ·exact nx 2 rfl (eX _ (oi h1).symm (gE rfl rfl))
 refine nx 5 rfl (fD [29,30] h1 rfl (λ c7 h1=>?_) λ c7 h1=>?_)
 ·exact nx 5 rfl (eX _ (oi h1).symm (gE rfl rfl))
 exact nx 5 rfl (eX _ (oi h1).symm (gE rfl rfl))
def cM (p_0:List UInt8)(r_1:Int):Option (List UInt8) :=
 if IntKind.wrap .u32 (r_1)≤127 then
  ck ((0:Int)≤IntKind.wrap .u8 (r_1)∧IntKind.wrap .u8 (r_1) < 256) <|
  ck ((p_0.length+[u8 (IntKind.wrap .u8 (r_1))].length)*1≤140737488355328) <|
  some (p_0++[u8 (IntKind.wrap .u8 (r_1))])
 else
  (ce p_0 r_1).bind λ r4 =>
  some r4
theorem jD (p_0:List UInt8)(r_1:Int)(r:(List UInt8))(h0:cM p_0 r_1=some r):bH Tryz.prog 139 [.vec 900000 1 (5+1) (p_0.map eU),.p (eK .i32 r_1)] [] (λ x y=>x=.vec 2000000 1 (5+1) (r.map eU)∧y=[]):=by
 unfold cM at h0
 refine hH good [800000] [] Tryz.func139 rfl rfl rfl rfl rfl λ w0 F=>mPo (λ v:(List UInt8)=>.vec 2000000 1 (5+1) (v.map eU)) (λ v=>[]) ?_
 refine nx 11 rfl (fD [7] h0 rfl (λ c1 h0=>?_) λ c1 h0=>?_)
 ·refine nx 6 rfl (cc' h0 λ hk2 h0=>?_)
  refine mO rfl (aV eU [u8 (IntKind.wrap .u8 (r_1))] rfl rfl rfl rfl rfl rfl rfl rfl rfl rfl rfl rfl rfl (congr (congrArg List.cons (fh hk2)) rfl) ?_)
  refine cc' h0 λ hk3 h0=>mO rfl (dl eU p_0 [u8 (IntKind.wrap .u8 (r_1))] rfl rfl rfl rfl rfl rfl rfl rfl rfl rfl rfl rfl rfl (λ _=>rfl) rfl rfl rfl rfl hk3 ?_)
  exact nx 3 rfl (mQo (oi h0) (aN (bf 12 800000 rfl rfl rfl rfl rfl) (bu _)) rfl rfl rfl rfl (sr) trivial)
 refine nx 6 rfl (bd h0 λ r4 e5 h0=>?_)
 refine mO rfl (br [] [900000] 101000 101001 (gn p_0 r_1 _ e5) rfl rfl rfl rfl rfl ⟨sr,sr,trivial⟩ rfl rfl trivial rfl rfl rfl rfl rfl rfl rfl rfl Tryz.call152 rfl rfl ?_)
 exact nx 3 rfl (mQo (oi h0) (aN (bf 101000 800000 rfl rfl rfl rfl rfl) (bu _)) rfl rfl rfl rfl (sr) trivial)
def aJ (b_0:az)(s_1:Bytes):Option (Int×Bool×az) :=
 (bI (az.mk b_0.fbuf)).bind λ r1 =>
 ck ((r1.fbuf.length+s_1.length)*1≤140737488355328) <|
 some ((s_1.length:Int),false,(az.mk (r1.fbuf++s_1)))
theorem aY (b_0:az)(s_1:Bytes)(r:Int×Bool×az)(h0:aJ b_0 s_1=some r):bH Tryz.prog 49 [.ptr 1000000 0,.p (eS s_1)] [(1000000,[.bptr 65 2 1000000,.vec 900000 1 (5+1) (b_0.fbuf.map eU)])] (λ x y=>x=.tuple [.p (eI r.1),.p (eE r.2.1)]∧y=[(1000000,[.bptr 65 2 1000000,.vec 2000000 1 (5+1) (r.2.2.fbuf.map eU)])]):=by
 unfold aJ at h0
 refine hH good [800000] [1000000] Tryz.func49 rfl rfl rfl rfl rfl λ w0 F=>mPo (λ v:Int×Bool×az=>.tuple [.p (eI v.1),.p (eE v.2.1)]) (λ v=>[(1000000,[.bptr 65 2 1000000,.vec 2000000 1 (5+1) (v.2.2.fbuf.map eU)])]) ?_
 refine nx 8 rfl (bd h0 λ r1 e2 h0=>?_)
 refine mO rfl (br [1000000] [900000] 101000 101001 (dP (az.mk b_0.fbuf) _ e2) rfl rfl rfl rfl rfl ⟨sr,trivial⟩ rfl rfl ⟨⟨_,rfl,⟨sr,sr,trivial⟩⟩,trivial⟩ rfl rfl rfl rfl rfl rfl rfl rfl Tryz.call79 rfl rfl ?_)
 refine nx 9 rfl (cc' h0 λ hk3 h0=>?_)
 refine mO rfl (xl r1.fbuf s_1 rfl rfl rfl rfl rfl rfl rfl rfl rfl rfl rfl rfl rfl rfl rfl hk3 ?_)
 refine nx 7 rfl (oLs rfl ?_)
 exact nx 4 rfl (mQo (oi h0) (aN (bf 14 800000 rfl rfl rfl rfl rfl) (bu _)) rfl rfl rfl rfl (am ⟨sr,sr,trivial⟩) ⟨⟨_,rfl,⟨sr,sr,trivial⟩⟩,trivial⟩)
def bi (b_0:az)(c_1:Int):Option (Bool×az) :=
 (bI (az.mk b_0.fbuf)).bind λ r1 =>
 ck ((0:Int)≤c_1∧c_1 < 256) <|
 ck ((r1.fbuf.length+[u8 c_1].length)*1≤140737488355328) <|
 some (false,(az.mk (r1.fbuf++[u8 c_1])))
theorem b7 (b_0:az)(c_1:Int)(r:Bool×az)(h0:bi b_0 c_1=some r):bH Tryz.prog 81 [.ptr 1000000 0,.p (eK .u8 c_1)] [(1000000,[.bptr 65 2 1000000,.vec 900000 1 (5+1) (b_0.fbuf.map eU)])] (λ x y=>x=.p (eE r.1)∧y=[(1000000,[.bptr 65 2 1000000,.vec 2000000 1 (5+1) (r.2.fbuf.map eU)])]):=by
 unfold bi at h0
 refine hH good [800000] [1000000] Tryz.func81 rfl rfl rfl rfl rfl λ w0 F=>mPo (λ v:Bool×az=>.p (eE v.1)) (λ v=>[(1000000,[.bptr 65 2 1000000,.vec 2000000 1 (5+1) (v.2.fbuf.map eU)])]) ?_
 refine nx 7 rfl (bd h0 λ r1 e2 h0=>?_)
 refine mO rfl (br [1000000] [900000] 101000 101001 (dP (az.mk b_0.fbuf) _ e2) rfl rfl rfl rfl rfl ⟨sr,trivial⟩ rfl rfl ⟨⟨_,rfl,⟨sr,sr,trivial⟩⟩,trivial⟩ rfl rfl rfl rfl rfl rfl rfl rfl Tryz.call79 rfl rfl ?_)
 refine nx 9 rfl (cc' h0 λ hk3 h0=>?_)
 refine mO rfl (aV eU [u8 c_1] rfl rfl rfl rfl rfl rfl rfl rfl rfl rfl rfl rfl rfl (congr (congrArg List.cons (fh hk3)) rfl) ?_)
 refine cc' h0 λ hk4 h0=>mO rfl (dl eU r1.fbuf [u8 c_1] rfl rfl rfl rfl rfl rfl rfl rfl rfl rfl rfl rfl rfl (λ _=>rfl) rfl rfl rfl rfl hk4 ?_)
 exact nx 9 rfl (mQo (oi h0) (aN (bf 14 800000 rfl rfl rfl rfl rfl) (bu _)) rfl rfl rfl rfl (sr) ⟨⟨_,rfl,⟨sr,sr,trivial⟩⟩,trivial⟩)
def cx (b_0:az)(r_1:Int):Option (Int×Bool×az) :=
 (bI (az.mk b_0.fbuf)).bind λ r1 =>
 (cM r1.fbuf r_1).bind λ r3 =>
 ck (inR ((r3.length:Int) - (r1.fbuf.length:Int))) <|
 some ((r3.length:Int) - (r1.fbuf.length:Int),false,(az.mk r3))
theorem iW (b_0:az)(r_1:Int)(r:Int×Bool×az)(h0:cx b_0 r_1=some r):bH Tryz.prog 118 [.ptr 1000000 0,.p (eK .i32 r_1)] [(1000000,[.bptr 65 2 1000000,.vec 900000 1 (5+1) (b_0.fbuf.map eU)])] (λ x y=>x=.tuple [.p (eI r.1),.p (eE r.2.1)]∧y=[(1000000,[.bptr 65 2 1000000,.vec 2000000 1 (5+1) (r.2.2.fbuf.map eU)])]):=by
 unfold cx at h0
 refine hH good [800000] [1000000] Tryz.func118 rfl rfl rfl rfl rfl λ w0 F=>mPo (λ v:Int×Bool×az=>.tuple [.p (eI v.1),.p (eE v.2.1)]) (λ v=>[(1000000,[.bptr 65 2 1000000,.vec 2000000 1 (5+1) (v.2.2.fbuf.map eU)])]) ?_
 refine nx 8 rfl (bd h0 λ r1 e2 h0=>?_)
 refine mO rfl (br [1000000] [900000] 101000 101001 (dP (az.mk b_0.fbuf) _ e2) rfl rfl rfl rfl rfl ⟨sr,trivial⟩ rfl rfl ⟨⟨_,rfl,⟨sr,sr,trivial⟩⟩,trivial⟩ rfl rfl rfl rfl rfl rfl rfl rfl Tryz.call79 rfl rfl ?_)
 refine nx 7 rfl (oLl (f:=eU) rfl rfl ?_)
 refine nx 10 rfl (bd h0 λ r3 e4 h0=>?_)
 refine mO rfl (br [] [101000] 102000 102001 (jD r1.fbuf r_1 _ e4) rfl rfl rfl rfl rfl ⟨sr,sr,trivial⟩ rfl rfl trivial rfl rfl rfl rfl rfl rfl rfl rfl Tryz.call139 rfl rfl ?_)
 refine nx 10 rfl (oLl (f:=eU) rfl rfl ?_)
 refine nx 1 rfl (oA h0 rfl rfl λ hk5 h0=>?_)
 refine nx 3 rfl (mG (gE (t:=⟨[(4,.p (eI ((r3.length:Int) - (r1.fbuf.length:Int)))),(5,.p (eE false))],[(1000000,[.bptr 65 2 1000000,.vec 102000 1 (5+1) (r3.map eU)])]⟩) rfl rfl) ?_)
 exact nx 1 rfl (mQo (oi h0) (aN (bf 102000 800000 rfl rfl rfl rfl rfl) (bu _)) rfl rfl rfl rfl (am ⟨sr,sr,trivial⟩) ⟨⟨_,rfl,⟨sr,sr,trivial⟩⟩,trivial⟩)
def fP (b_0:az):Option (Int×az) :=
 some ((b_0.fbuf.length:Int),(az.mk b_0.fbuf))
theorem kk (b_0:az)(r:Int×az)(h0:fP b_0=some r):bH Tryz.prog 119 [.ptr 1000000 0] [(1000000,[.bptr 65 2 1000000,.vec 900000 1 (5+1) (b_0.fbuf.map eU)])] (λ x y=>x=.p (eI r.1)∧y=[(1000000,[.bptr 65 2 1000000,.vec 2000000 1 (5+1) (r.2.fbuf.map eU)])]):=by
 unfold fP at h0
 refine hH good [800000] [1000000] Tryz.func119 rfl rfl rfl rfl rfl λ w0 F=>mPo (λ v:Int×az=>.p (eI v.1)) (λ v=>[(1000000,[.bptr 65 2 1000000,.vec 2000000 1 (5+1) (v.2.fbuf.map eU)])]) ?_
 refine nx 10 rfl (oLl (f:=eU) rfl rfl ?_)
 exact nx 3 rfl (mQo (oi h0) (aN (bf 900000 800000 rfl rfl rfl rfl rfl) (bu _)) rfl rfl rfl rfl (sr) ⟨⟨_,rfl,⟨sr,sr,trivial⟩⟩,trivial⟩)
end Go.Ab.RB
end
section
namespace Go.Ab
open Go.RowKit
theorem au.of_calls {P:Program}{f:FuncId}{l:List Value}{r:AV}
  (h:∀ (w:World) (st:Nat→Nat→Prop),Ok0 w st→Calls P f l.toArray w λ e w'=>∃ v,e=.returned v∧Below w.heap.size w w'∧∀ g',ARep w' g' r v):au P f (l.map PV.val) (·=r):=by
 intro w st vs hok hsz hargs
 have e:vs=l.toArray:=by
  apply Array.ext
  ·simpa using hsz
  ·intro i h1 h2
   have hi:i < l.length:=by simpa using h2
   have:=hargs i (.val l[i]) vs[i] (by simp [hi]) (Array.getElem?_eq_getElem h1)
   generalize hv:vs[i]=v at this
   cases this
   simp
 subst e
 refine (h w st hok).mono ?_
 rintro e w' ⟨v,rfl,hB,hr⟩
 refine ⟨v,r,⟨st,λ _=>none⟩,rfl,rfl,hr _,⟨hB.os,hB.output,hB.tape,hB.size,λ b hb=>hB.block b hb,?_,?_,λ b o hb=>Nat.lt_of_lt_of_le (hok.lt b o hb) hB.size,λ b _ o=>Iff.rfl⟩⟩
 ·intro i b hi; cases hi
 ·intro i j b hi; cases hi
theorem lI {w:World}{st:Nat→Nat→Prop}(h:iX w st){g j:Nat}{l:List GC}{k:IntKind}{n:Int}(hl:look np g=some l)(hj:l[j]? = some (.int k n)):w.cell? ⟨g,j,none⟩=some (.int k n):=by
 obtain ⟨_,v,h2,h3⟩:=(h g (l.map GC.pv) (by rw [kl,hl]; rfl)).1 j (.val (.int k n)) (by rw [List.getElem?_map,hj]; rfl)
 cases h3
 exact h2
theorem tw {w:World}{st:Nat→Nat→Prop}(h:iX w st){g j:Nat}{l:List GC}(hl:look np g=some l)(hj:l[j]? = some .ifc):∃ t v,w.cell? ⟨g,j,none⟩=some (.iface t v):=by
 obtain ⟨_,v,h2,h3⟩:=(h g (l.map GC.pv) (by rw [kl,hl]; rfl)).1 j .ifc (by rw [List.getElem?_map,hj]; rfl)
 cases h3 with
 | ifc t v=>exact ⟨t,v,h2⟩
theorem xR {P:Program}{w:World}{st:Nat→Nat→Prop}(h:iX w st){g:Nat}{l:List GC}{nm:String}{k:IntKind}{zs:List Int}(hl:look np g=some l)(hn:P.globalNamed nm=some g)(hz:l=zs.map (GC.int k))(hne:zs≠[]):Lib.TabIs P w nm k zs:=by
 obtain ⟨h0,h1,h2⟩:=h g (l.map GC.pv) (by rw [kl,hl]; rfl)
 have hc:∀ (j:Nat) z,zs[j]? = some z→w.cell? ⟨g,j,none⟩=some (.int k z):=λ j z hj=>lI h hl (by rw [hz,List.getElem?_map,hj]; rfl)
 unfold Lib.TabIs World.var?
 rw [hn]
 simp only [Option.bind_some]
 have hlen:(l.map GC.pv).length=zs.length:=by rw [hz]; simp
 rw [hlen] at h2
 obtain ⟨z0,hz0⟩:∃ z0,zs[0]? = some z0:=by
  cases zs with
  | nil=>exact absurd rfl hne
  | cons z r=>exact ⟨z,rfl⟩
 have hc0:=hc 0 z0 hz0
 simp only [World.cell?] at hc hc0 h2
 cases hh:w.heap[g]? with
 | none=>rw [hh] at hc0; cases hc0
 | some o =>
  rw [hh] at hc hc0 h2
  cases o with
  | cells c e fz =>
   simp only [Option.isSome_none,Bool.false_eq_true,if_false] at hc hc0 h2
   refine congrArg some ?_
   apply Array.ext_getElem?
   intro j
   by_cases hj:j < zs.length
   ·rw [hc j zs[j] (List.getElem?_eq_getElem hj)]
    simp [hj]
   ·have h3:c.size≤zs.length:=by
     rcases Nat.lt_or_ge zs.length c.size with h' | h'
     ·rw [Array.getElem?_eq_getElem h'] at h2; cases h2
     ·exact h'
    rw [Array.getElem?_eq_none (by omega),Array.getElem?_eq_none (by simp; omega)]
  | _=>simp at hc0
theorem fY (s:Bytes):(str s).data.toList=s:=by simp [str]
theorem kh (w:World):Below w.heap.size w w:=Below.refl _ w
end Go.Ab
end
section
namespace Go.Proofs
open Go.Shelf
def Tryz.lays119_ren:Go.Shelf.Ren:=⟨λ | 119=>123 | n=>n,λ | 21=>21 | 4=>4 | n=>n,λ | n=>n⟩
theorem Tryz.lays119:Go.Proofs.Lays.n119 Tryz.prog Tryz.lays119_ren:={
 mixed:=by kernel_rfl
 f119:=Tryz.func123.trans (congrArg some (by kernel_rfl))
 t4:=Tryz.underlying4
 a4:=Tryz.isAgg4
 z4:=Tryz.sizeOf4
 v4:=Tryz.zeroValue4
 t21:=Tryz.underlying21
 a21:=Tryz.isAgg21
 z21:=Tryz.sizeOf21
 v21:=Tryz.zeroValue21 }
theorem Tryz.utf8_ValidRune (r:Int)(w:World) :
  Calls Tryz.prog 123 #[.int .i32 r] w λ e w'=>e=.returned (.bool (Lib.validRune r))∧w'=w:=Any.utf8_ValidRune Tryz.lays119 r w
def Tryz.lays137_ren:Go.Shelf.Ren:=⟨λ | 137=>122 | 217=>142 | 266=>158 | n=>n,λ | 9=>9 | 5=>5 | 3=>3 | n=>n,λ | n=>n⟩
theorem Tryz.lays137:Go.Proofs.Lays.n137 Tryz.prog Tryz.lays137_ren:={
 mixed:=by kernel_rfl
 f137:=Tryz.func122.trans (congrArg some (by kernel_rfl))
 f217:=Tryz.func142.trans (congrArg some (by kernel_rfl))
 f266:=Tryz.func158.trans (congrArg some (by kernel_rfl))
 t3:=Tryz.underlying3
 a3:=Tryz.isAgg3
 z3:=Tryz.sizeOf3
 v3:=Tryz.zeroValue3
 t5:=Tryz.underlying5
 a5:=Tryz.isAgg5
 z5:=Tryz.sizeOf5
 v5:=Tryz.zeroValue5
 t9:=Tryz.underlying9
 a9:=Tryz.isAgg9
 z9:=Tryz.sizeOf9
 v9:=Tryz.zeroValue9 }
open Go.RowKit in
theorem Tryz.strings_IndexByte (s:ByteArray)(c:Int)(w:World) :
  Calls Tryz.prog 122 #[.string s,.int .u8 c] w λ e w'=>e=.returned (.int .i64 (Lib.indexByte s.data.toList c.toNat.toUInt8))∧w'=w:=Any.strings_IndexByte Tryz.lays137 s c w
def Tryz.lays99_ren:Go.Shelf.Ren:=⟨λ | 99=>89 | 206=>115 | n=>n,λ | 9=>9 | 4=>4 | 3=>3 | n=>n,λ | n=>n⟩
theorem Tryz.lays99:Go.Proofs.Lays.n99 Tryz.prog Tryz.lays99_ren:={
 mixed:=by kernel_rfl
 f99:=Tryz.func89.trans (congrArg some (by kernel_rfl))
 f206:=Tryz.func115.trans (congrArg some (by kernel_rfl))
 t3:=Tryz.underlying3
 a3:=Tryz.isAgg3
 z3:=Tryz.sizeOf3
 v3:=Tryz.zeroValue3
 t4:=Tryz.underlying4
 a4:=Tryz.isAgg4
 z4:=Tryz.sizeOf4
 v4:=Tryz.zeroValue4
 t9:=Tryz.underlying9
 a9:=Tryz.isAgg9
 z9:=Tryz.sizeOf9
 v9:=Tryz.zeroValue9 }
open Go.RowKit Go.Lib in
theorem Tryz.strings_HasPrefix (s p:ByteArray)(w:World) :
  Calls Tryz.prog 89 #[.string s,.string p] w λ e w'=>e=.returned (.bool (Lib.hasPrefix s.data.toList p.data.toList))∧w'=w:=Any.strings_HasPrefix Tryz.lays99 s p w
def Tryz.laysM171_ren:Go.Shelf.Ren:=⟨λ | 171=>80 | 243=>110 | 246=>111 | 283=>133 | 284=>134 | 285=>135 | 286=>136 | 129=>148 | 317=>147 | 318=>149 | 319=>150 | 320=>151 | 337=>162 | 338=>163 | n=>n,λ | 3=>3 | 9=>9 | 2=>2 | 4=>4 | 171=>139 | 0=>0 | 53=>138 | 37=>63 | 5=>5 | 173=>142 | 212=>149 | 51=>150 | 20=>20 | 213=>151 | 46=>112 | 232=>167 | 233=>168 | n=>n,λ | 17=>3 | 18=>6 | 19=>7 | n=>n⟩
theorem Tryz.laysM171:Go.Proofs.LaysM.n171 Tryz.prog Tryz.laysM171_ren:={
 mixed:=by kernel_rfl
 f129:=Tryz.func148.trans (congrArg some (by kernel_rfl))
 f171:=Tryz.func80.trans (congrArg some (by kernel_rfl))
 f243:=Tryz.func110.trans (congrArg some (by kernel_rfl))
 f246:=Tryz.func111.trans (congrArg some (by kernel_rfl))
 f283:=Tryz.func133.trans (congrArg some (by kernel_rfl))
 f284:=Tryz.func134.trans (congrArg some (by kernel_rfl))
 f285:=Tryz.func135.trans (congrArg some (by kernel_rfl))
 f286:=Tryz.func136.trans (congrArg some (by kernel_rfl))
 f317:=Tryz.func147.trans (congrArg some (by kernel_rfl))
 f318:=Tryz.func149.trans (congrArg some (by kernel_rfl))
 f319:=Tryz.func150.trans (congrArg some (by kernel_rfl))
 f320:=Tryz.func151.trans (congrArg some (by kernel_rfl))
 f337:=Tryz.func162.trans (congrArg some (by kernel_rfl))
 f338:=Tryz.func163.trans (congrArg some (by kernel_rfl))
 t0:=Tryz.underlying0
 a0:=Tryz.isAgg0
 z0:=Tryz.sizeOf0
 v0:=Tryz.zeroValue0
 t2:=Tryz.underlying2
 a2:=Tryz.isAgg2
 z2:=Tryz.sizeOf2
 v2:=Tryz.zeroValue2
 t3:=Tryz.underlying3
 a3:=Tryz.isAgg3
 z3:=Tryz.sizeOf3
 v3:=Tryz.zeroValue3
 t4:=Tryz.underlying4
 a4:=Tryz.isAgg4
 z4:=Tryz.sizeOf4
 v4:=Tryz.zeroValue4
 t5:=Tryz.underlying5
 a5:=Tryz.isAgg5
 z5:=Tryz.sizeOf5
 v5:=Tryz.zeroValue5
 t9:=Tryz.underlying9
 a9:=Tryz.isAgg9
 z9:=Tryz.sizeOf9
 v9:=Tryz.zeroValue9
 t20:=Tryz.underlying20
 a20:=Tryz.isAgg20
 z20:=Tryz.sizeOf20
 v20:=Tryz.zeroValue20
 t37:=Tryz.underlying63
 a37:=Tryz.isAgg63
 z37:=Tryz.sizeOf63
 v37:=Tryz.zeroValue63
 t46:=Tryz.underlying112
 a46:=Tryz.isAgg112
 z46:=Tryz.sizeOf112
 v46:=Tryz.zeroValue112
 t51:=Tryz.underlying150
 a51:=Tryz.isAgg150
 z51:=Tryz.sizeOf150
 v51:=Tryz.zeroValue150
 t53:=Tryz.underlying138
 a53:=Tryz.isAgg138
 z53:=Tryz.sizeOf138
 v53:=Tryz.zeroValue138
 t171:=Tryz.underlying139
 a171:=Tryz.isAgg139
 z171:=Tryz.sizeOf139
 v171:=Tryz.zeroValue139
 t173:=Tryz.underlying142
 a173:=Tryz.isAgg142
 z173:=Tryz.sizeOf142
 v173:=Tryz.zeroValue142
 t212:=Tryz.underlying149
 a212:=Tryz.isAgg149
 z212:=Tryz.sizeOf149
 v212:=Tryz.zeroValue149
 t213:=Tryz.underlying151
 a213:=Tryz.isAgg151
 z213:=Tryz.sizeOf151
 t232:=Tryz.underlying167
 a232:=Tryz.isAgg167
 z232:=Tryz.sizeOf167
 v232:=Tryz.zeroValue167
 t233:=Tryz.underlying168
 a233:=Tryz.isAgg168
 z233:=Tryz.sizeOf168
 v233:=Tryz.zeroValue168
 g17:=by kernel_rfl
 g18:=by kernel_rfl
 g19:=by kernel_rfl
 i0:=by kernel_rfl
 i2:=by kernel_rfl
 i3:=by kernel_rfl
 i4:=by kernel_rfl
 i5:=by kernel_rfl
 i9:=by kernel_rfl
 i20:=by kernel_rfl
 i37:=by kernel_rfl
 i46:=by kernel_rfl
 i51:=by kernel_rfl
 i53:=by kernel_rfl
 i171:=by kernel_rfl
 i173:=by kernel_rfl
 i212:=by kernel_rfl
 i232:=by kernel_rfl
 i233:=by kernel_rfl
 m17:=by kernel_rfl
 m18:=by kernel_rfl
 m19:=by kernel_rfl }
open Go.RowKit Go.Sort Go.Lib in
theorem Tryz.strconv_Itoa (n:Int)(h0:-9223372036854775808≤n)(h1:n≤9223372036854775807)(w:World)(htab:Lib.TabIs Tryz.prog w "internal/strconv.uint64pow10" .u64 Lib.pow10Tab) :
  Calls Tryz.prog 80 #[.int .i64 n] w λ e w'=>e=.returned (.string ⟨(Lib.itoa n).toArray⟩)∧∃ k os,w'=grow (w.drewN k) os:=Any.strconv_Itoa Tryz.laysM171 n h0 h1 w htab
def Tryz.laysC174_ren:Go.Shelf.Ren:=⟨λ | 174=>121 | 247=>140 | 245=>141 | 287=>153 | 279=>154 | 280=>155 | 281=>156 | 282=>157 | 321=>164 | 322=>165 | 316=>166 | 171=>80 | 205=>167 | 243=>110 | 246=>111 | 283=>133 | 284=>134 | 285=>135 | 286=>136 | 129=>148 | 317=>147 | 318=>149 | 319=>150 | 320=>151 | 337=>162 | 338=>163 | n=>n,λ | 9=>9 | 3=>3 | 2=>2 | 75=>67 | 85=>129 | 4=>4 | 167=>153 | 5=>5 | 53=>138 | 175=>154 | 46=>112 | 168=>156 | 37=>63 | 0=>0 | 210=>165 | 21=>21 | 127=>99 | 145=>171 | 143=>169 | 171=>139 | 173=>142 | 212=>149 | 51=>150 | 20=>20 | 213=>151 | 232=>167 | 233=>168 | 80=>72 | n=>n,λ | 15=>4 | 16=>5 | 17=>3 | 18=>6 | 19=>7 | n=>n⟩
theorem Tryz.laysC174:Go.Proofs.LaysC.n174 Tryz.prog Tryz.laysC174_ren:={
 mixed:=by kernel_rfl
 f129:=Tryz.func148.trans (congrArg some (by kernel_rfl))
 f171:=Tryz.func80.trans (congrArg some (by kernel_rfl))
 f174:=Tryz.func121.trans (congrArg some (by kernel_rfl))
 f205:=Tryz.func167.trans (congrArg some (by kernel_rfl))
 f243:=Tryz.func110.trans (congrArg some (by kernel_rfl))
 f245:=Tryz.func141.trans (congrArg some (by kernel_rfl))
 f246:=Tryz.func111.trans (congrArg some (by kernel_rfl))
 f247:=Tryz.func140.trans (congrArg some (by kernel_rfl))
 f279:=Tryz.func154.trans (congrArg some (by kernel_rfl))
 f280:=Tryz.func155.trans (congrArg some (by kernel_rfl))
 f281:=Tryz.func156.trans (congrArg some (by kernel_rfl))
 f282:=Tryz.func157.trans (congrArg some (by kernel_rfl))
 f283:=Tryz.func133.trans (congrArg some (by kernel_rfl))
 f284:=Tryz.func134.trans (congrArg some (by kernel_rfl))
 f285:=Tryz.func135.trans (congrArg some (by kernel_rfl))
 f286:=Tryz.func136.trans (congrArg some (by kernel_rfl))
 f287:=Tryz.func153.trans (congrArg some (by kernel_rfl))
 f316:=Tryz.func166.trans (congrArg some (by kernel_rfl))
 f317:=Tryz.func147.trans (congrArg some (by kernel_rfl))
 f318:=Tryz.func149.trans (congrArg some (by kernel_rfl))
 f319:=Tryz.func150.trans (congrArg some (by kernel_rfl))
 f320:=Tryz.func151.trans (congrArg some (by kernel_rfl))
 f321:=Tryz.func164.trans (congrArg some (by kernel_rfl))
 f322:=Tryz.func165.trans (congrArg some (by kernel_rfl))
 f337:=Tryz.func162.trans (congrArg some (by kernel_rfl))
 f338:=Tryz.func163.trans (congrArg some (by kernel_rfl))
 t0:=Tryz.underlying0
 a0:=Tryz.isAgg0
 z0:=Tryz.sizeOf0
 v0:=Tryz.zeroValue0
 t2:=Tryz.underlying2
 a2:=Tryz.isAgg2
 z2:=Tryz.sizeOf2
 v2:=Tryz.zeroValue2
 t3:=Tryz.underlying3
 a3:=Tryz.isAgg3
 z3:=Tryz.sizeOf3
 v3:=Tryz.zeroValue3
 t4:=Tryz.underlying4
 a4:=Tryz.isAgg4
 z4:=Tryz.sizeOf4
 v4:=Tryz.zeroValue4
 t5:=Tryz.underlying5
 a5:=Tryz.isAgg5
 z5:=Tryz.sizeOf5
 v5:=Tryz.zeroValue5
 t9:=Tryz.underlying9
 a9:=Tryz.isAgg9
 z9:=Tryz.sizeOf9
 v9:=Tryz.zeroValue9
 t20:=Tryz.underlying20
 a20:=Tryz.isAgg20
 z20:=Tryz.sizeOf20
 v20:=Tryz.zeroValue20
 t21:=Tryz.underlying21
 a21:=Tryz.isAgg21
 z21:=Tryz.sizeOf21
 v21:=Tryz.zeroValue21
 t37:=Tryz.underlying63
 a37:=Tryz.isAgg63
 z37:=Tryz.sizeOf63
 v37:=Tryz.zeroValue63
 t46:=Tryz.underlying112
 a46:=Tryz.isAgg112
 z46:=Tryz.sizeOf112
 v46:=Tryz.zeroValue112
 t51:=Tryz.underlying150
 a51:=Tryz.isAgg150
 z51:=Tryz.sizeOf150
 v51:=Tryz.zeroValue150
 t53:=Tryz.underlying138
 a53:=Tryz.isAgg138
 z53:=Tryz.sizeOf138
 v53:=Tryz.zeroValue138
 t75:=Tryz.underlying67
 a75:=Tryz.isAgg67
 z75:=Tryz.sizeOf67
 v75:=Tryz.zeroValue67
 t85:=Tryz.underlying129
 a85:=Tryz.isAgg129
 z85:=Tryz.sizeOf129
 v85:=Tryz.zeroValue129
 t127:=Tryz.underlying99
 a127:=Tryz.isAgg99
 z127:=Tryz.sizeOf99
 v127:=Tryz.zeroValue99
 t143:=Tryz.underlying169
 a143:=Tryz.isAgg169
 z143:=Tryz.sizeOf169
 v143:=Tryz.zeroValue169
 t145:=Tryz.underlying171
 a145:=Tryz.isAgg171
 z145:=Tryz.sizeOf171
 v145:=Tryz.zeroValue171
 t167:=Tryz.underlying153
 a167:=Tryz.isAgg153
 z167:=Tryz.sizeOf153
 v167:=Tryz.zeroValue153
 t168:=Tryz.underlying156
 a168:=Tryz.isAgg156
 z168:=Tryz.sizeOf156
 v168:=Tryz.zeroValue156
 t171:=Tryz.underlying139
 a171:=Tryz.isAgg139
 z171:=Tryz.sizeOf139
 v171:=Tryz.zeroValue139
 t173:=Tryz.underlying142
 a173:=Tryz.isAgg142
 z173:=Tryz.sizeOf142
 v173:=Tryz.zeroValue142
 t175:=Tryz.underlying154
 a175:=Tryz.isAgg154
 z175:=Tryz.sizeOf154
 v175:=Tryz.zeroValue154
 t210:=Tryz.underlying165
 a210:=Tryz.isAgg165
 z210:=Tryz.sizeOf165
 v210:=Tryz.zeroValue165
 t212:=Tryz.underlying149
 a212:=Tryz.isAgg149
 z212:=Tryz.sizeOf149
 v212:=Tryz.zeroValue149
 t213:=Tryz.underlying151
 a213:=Tryz.isAgg151
 z213:=Tryz.sizeOf151
 t232:=Tryz.underlying167
 a232:=Tryz.isAgg167
 z232:=Tryz.sizeOf167
 v232:=Tryz.zeroValue167
 t233:=Tryz.underlying168
 a233:=Tryz.isAgg168
 z233:=Tryz.sizeOf168
 v233:=Tryz.zeroValue168
 g15:=by kernel_rfl
 g16:=by kernel_rfl
 g17:=by kernel_rfl
 g18:=by kernel_rfl
 g19:=by kernel_rfl
 t80:=Tryz.underlying72
 a80:=Tryz.isAgg72
 z80:=Tryz.sizeOf72
 v80:=Tryz.zeroValue72
 i0:=by kernel_rfl
 i2:=by kernel_rfl
 i3:=by kernel_rfl
 i4:=by kernel_rfl
 i5:=by kernel_rfl
 i9:=by kernel_rfl
 i20:=by kernel_rfl
 i21:=by kernel_rfl
 i37:=by kernel_rfl
 i46:=by kernel_rfl
 i51:=by kernel_rfl
 i53:=by kernel_rfl
 i75:=by kernel_rfl
 i80:=by kernel_rfl
 i85:=by kernel_rfl
 i127:=by kernel_rfl
 i143:=by kernel_rfl
 i145:=by kernel_rfl
 i167:=by kernel_rfl
 i168:=by kernel_rfl
 i171:=by kernel_rfl
 i173:=by kernel_rfl
 i175:=by kernel_rfl
 i210:=by kernel_rfl
 i212:=by kernel_rfl
 i232:=by kernel_rfl
 i233:=by kernel_rfl
 m15:=by kernel_rfl
 m16:=by kernel_rfl
 m17:=by kernel_rfl
 m18:=by kernel_rfl
 m19:=by kernel_rfl
 c0:=by kernel_rfl
 c2:=by kernel_rfl
 c3:=by kernel_rfl
 c4:=by kernel_rfl
 c5:=by kernel_rfl
 c9:=by kernel_rfl
 c20:=by kernel_rfl
 c21:=by kernel_rfl
 c37:=by kernel_rfl
 c46:=by kernel_rfl
 c51:=by kernel_rfl
 c53:=by kernel_rfl
 c75:=by kernel_rfl
 c80:=by kernel_rfl
 c85:=by kernel_rfl
 c127:=by kernel_rfl
 c143:=by kernel_rfl
 c145:=by kernel_rfl
 c167:=by kernel_rfl
 c168:=by kernel_rfl
 c171:=by kernel_rfl
 c173:=by kernel_rfl
 c175:=by kernel_rfl
 c210:=by kernel_rfl
 c212:=by kernel_rfl
 c213:=by kernel_rfl
 c232:=by kernel_rfl
 c233:=by kernel_rfl }
open Go.RowKit in
theorem Tryz.strconv_ParseInt_10_at64_ok (s:ByteArray)(hmax:s.size≤9223372036854775806)(v:Int)(h:Lib.parseIntB 64 s.data.toList=.ok v)(w:World) :
  Calls Tryz.prog 121 #[.string s,.int .i64 10,.int .i64 64] w λ e w'=>e=.returned (.tuple #[.int .i64 v,.nilIface])∧(w'=w∨∃ t,w'=Lib.bytesWorld w 5 t):=Any.strconv_ParseInt_10_at64_ok Tryz.laysC174 s hmax v h w
open Go.RowKit in
theorem Tryz.strconv_ParseInt_10_at64_range (s:ByteArray)(hlim:s.size≤281474976710656)(h:Lib.parseIntB 64 s.data.toList=.range)(ev:Value)(w:World)(hv:w.cell? ⟨5,0,none⟩=some ev)(hev:ev=.nilIface∨∃ te pe,ev=.iface te pe) :
  Calls Tryz.prog 121 #[.string s,.int .i64 10,.int .i64 64] w λ e w'=>∃ N,e=.returned (.tuple #[.int .i64 (Lib.intSat 64 s.data.toList),.iface 156 (.pointer (some ⟨N,0,none⟩))])∧w.heap.size≤N∧w'.heap[N]? = some (.cells #[.string ⟨#[80,97,114,115,101,73,110,116]⟩,.string s,ev] 165 (0,0))∧Below w.heap.size w w':=Any.strconv_ParseInt_10_at64_range Tryz.laysC174 s hlim h ev w hv hev
open Go.RowKit in
theorem Tryz.strconv_ParseInt_10_at64_syntax (s:ByteArray)(hlim:s.size≤281474976710656)(h:Lib.parseIntB 64 s.data.toList=Lib.parseIntB 64 [])(ev:Value)(w:World)(hv:w.cell? ⟨4,0,none⟩=some ev)(hev:ev=.nilIface∨∃ te pe,ev=.iface te pe) :
  Calls Tryz.prog 121 #[.string s,.int .i64 10,.int .i64 64] w λ e w'=>∃ N,e=.returned (.tuple #[.int .i64 (0),.iface 156 (.pointer (some ⟨N,0,none⟩))])∧w.heap.size≤N∧w'.heap[N]? = some (.cells #[.string ⟨#[80,97,114,115,101,73,110,116]⟩,.string s,ev] 165 (0,0))∧Below w.heap.size w w':=Any.strconv_ParseInt_10_at64_syntax Tryz.laysC174 s hlim h ev w hv hev
def Tryz.lays197_ren:Go.Shelf.Ren:=⟨λ | 197=>116 | 260=>137 | n=>n,λ | 9=>9 | 21=>21 | 3=>3 | 4=>4 | 5=>5 | 105=>123 | 119=>117 | 0=>0 | 46=>112 | 139=>120 | 138=>119 | n=>n,λ | 3=>0 | 4=>1 | n=>n⟩
theorem Tryz.lays197:Go.Proofs.Lays.n197 Tryz.prog Tryz.lays197_ren:={
 mixed:=by kernel_rfl
 f197:=Tryz.func116.trans (congrArg some (by kernel_rfl))
 f260:=Tryz.func137.trans (congrArg some (by kernel_rfl))
 t0:=Tryz.underlying0
 a0:=Tryz.isAgg0
 z0:=Tryz.sizeOf0
 v0:=Tryz.zeroValue0
 t3:=Tryz.underlying3
 a3:=Tryz.isAgg3
 z3:=Tryz.sizeOf3
 v3:=Tryz.zeroValue3
 t4:=Tryz.underlying4
 a4:=Tryz.isAgg4
 z4:=Tryz.sizeOf4
 v4:=Tryz.zeroValue4
 t5:=Tryz.underlying5
 a5:=Tryz.isAgg5
 z5:=Tryz.sizeOf5
 v5:=Tryz.zeroValue5
 t9:=Tryz.underlying9
 a9:=Tryz.isAgg9
 z9:=Tryz.sizeOf9
 v9:=Tryz.zeroValue9
 t21:=Tryz.underlying21
 a21:=Tryz.isAgg21
 z21:=Tryz.sizeOf21
 v21:=Tryz.zeroValue21
 t46:=Tryz.underlying112
 a46:=Tryz.isAgg112
 z46:=Tryz.sizeOf112
 v46:=Tryz.zeroValue112
 t105:=Tryz.underlying123
 a105:=Tryz.isAgg123
 z105:=Tryz.sizeOf123
 v105:=Tryz.zeroValue123
 t119:=Tryz.underlying117
 a119:=Tryz.isAgg117
 z119:=Tryz.sizeOf117
 t138:=Tryz.underlying119
 a138:=Tryz.isAgg119
 z138:=Tryz.sizeOf119
 v138:=Tryz.zeroValue119
 t139:=Tryz.underlying120
 a139:=Tryz.isAgg120
 z139:=Tryz.sizeOf120
 v139:=Tryz.zeroValue120
 g3:=by kernel_rfl
 g4:=by kernel_rfl }
open Go.RowKit Go.Lib in
theorem Tryz.utf8_DecodeRuneInString (s:ByteArray)(w:World)(hT:Lib.Utf8Tabs 0 1 w) :
  Calls Tryz.prog 116 #[.string s] w λ e w'=>e=.returned (.tuple #[.int .i32 (Lib.decodeGo s).1,.int .i64 (Lib.decodeGo s).2])∧Below w.heap.size w w':=Any.utf8_DecodeRuneInString Tryz.lays197 s w hT
def Tryz.lays153_ren:Go.Shelf.Ren:=⟨λ | 153=>66 | 152=>92 | 226=>93 | 227=>94 | 228=>95 | 137=>122 | 119=>123 | 224=>124 | 225=>125 | 217=>142 | 266=>158 | n=>n,λ | 9=>9 | 3=>3 | 4=>4 | 5=>5 | 21=>21 | 117=>108 | 116=>107 | 0=>0 | 46=>112 | 124=>134 | n=>n,λ | n=>n⟩
theorem Tryz.lays153:Go.Proofs.Lays.n153 Tryz.prog Tryz.lays153_ren:={
 mixed:=by kernel_rfl
 f119:=Tryz.func123.trans (congrArg some (by kernel_rfl))
 f137:=Tryz.func122.trans (congrArg some (by kernel_rfl))
 f152:=Tryz.func92.trans (congrArg some (by kernel_rfl))
 f153:=Tryz.func66.trans (congrArg some (by kernel_rfl))
 f217:=Tryz.func142.trans (congrArg some (by kernel_rfl))
 f224:=Tryz.func124.trans (congrArg some (by kernel_rfl))
 f225:=Tryz.func125.trans (congrArg some (by kernel_rfl))
 f226:=Tryz.func93.trans (congrArg some (by kernel_rfl))
 f227:=Tryz.func94.trans (congrArg some (by kernel_rfl))
 f228:=Tryz.func95.trans (congrArg some (by kernel_rfl))
 f266:=Tryz.func158.trans (congrArg some (by kernel_rfl))
 t0:=Tryz.underlying0
 a0:=Tryz.isAgg0
 z0:=Tryz.sizeOf0
 v0:=Tryz.zeroValue0
 t3:=Tryz.underlying3
 a3:=Tryz.isAgg3
 z3:=Tryz.sizeOf3
 v3:=Tryz.zeroValue3
 t4:=Tryz.underlying4
 a4:=Tryz.isAgg4
 z4:=Tryz.sizeOf4
 v4:=Tryz.zeroValue4
 t5:=Tryz.underlying5
 a5:=Tryz.isAgg5
 z5:=Tryz.sizeOf5
 v5:=Tryz.zeroValue5
 t9:=Tryz.underlying9
 a9:=Tryz.isAgg9
 z9:=Tryz.sizeOf9
 v9:=Tryz.zeroValue9
 t21:=Tryz.underlying21
 a21:=Tryz.isAgg21
 z21:=Tryz.sizeOf21
 v21:=Tryz.zeroValue21
 t46:=Tryz.underlying112
 a46:=Tryz.isAgg112
 z46:=Tryz.sizeOf112
 v46:=Tryz.zeroValue112
 t116:=Tryz.underlying107
 a116:=Tryz.isAgg107
 z116:=Tryz.sizeOf107
 t117:=Tryz.underlying108
 a117:=Tryz.isAgg108
 z117:=Tryz.sizeOf108
 v117:=Tryz.zeroValue108
 t124:=Tryz.underlying134
 a124:=Tryz.isAgg134
 z124:=Tryz.sizeOf134
 v124:=Tryz.zeroValue134 }
open Go.RowKit Go.Lib in
theorem Tryz.strings_IndexAny_long (hv116:∀ w,(zeroValue 107).run Tryz.prog w=.ok (.agg (Array.replicate 256 (.bool false))) w)(s chars:ByteArray)(w:World)(h2:2≤chars.size)(h8:8 < s.size)(hs:s.size < 4294967281)(hcs:chars.size < 4294967281)(hascii:∀ (j:Nat) b,chars.data.toList[j]? = some b→b.toNat < 128) :
  Calls Tryz.prog 66 #[.string s,.string chars] w λ e w'=>e=.returned (.int .i64 (Lib.indexAny s.data.toList chars.data.toList))∧w'=((w.alloc (.cells (Lib.setCells chars.data.toList) 107)).alloc (.cells (Lib.setCells chars.data.toList) 107)):=Any.strings_IndexAny_long Tryz.lays153 hv116 (by kernel_rfl) s chars w h2 h8 hs hcs hascii
def Tryz.lays152_ren:Go.Shelf.Ren:=⟨λ | 152=>92 | 137=>122 | 119=>123 | 224=>124 | 225=>125 | 217=>142 | 266=>158 | n=>n,λ | 9=>9 | 21=>21 | 3=>3 | 4=>4 | 5=>5 | 0=>0 | 46=>112 | n=>n,λ | n=>n⟩
theorem Tryz.lays152:Go.Proofs.Lays.n152 Tryz.prog Tryz.lays152_ren:={
 mixed:=by kernel_rfl
 f119:=Tryz.func123.trans (congrArg some (by kernel_rfl))
 f137:=Tryz.func122.trans (congrArg some (by kernel_rfl))
 f152:=Tryz.func92.trans (congrArg some (by kernel_rfl))
 f217:=Tryz.func142.trans (congrArg some (by kernel_rfl))
 f224:=Tryz.func124.trans (congrArg some (by kernel_rfl))
 f225:=Tryz.func125.trans (congrArg some (by kernel_rfl))
 f266:=Tryz.func158.trans (congrArg some (by kernel_rfl))
 t0:=Tryz.underlying0
 a0:=Tryz.isAgg0
 z0:=Tryz.sizeOf0
 v0:=Tryz.zeroValue0
 t3:=Tryz.underlying3
 a3:=Tryz.isAgg3
 z3:=Tryz.sizeOf3
 v3:=Tryz.zeroValue3
 t4:=Tryz.underlying4
 a4:=Tryz.isAgg4
 z4:=Tryz.sizeOf4
 v4:=Tryz.zeroValue4
 t5:=Tryz.underlying5
 a5:=Tryz.isAgg5
 z5:=Tryz.sizeOf5
 v5:=Tryz.zeroValue5
 t9:=Tryz.underlying9
 a9:=Tryz.isAgg9
 z9:=Tryz.sizeOf9
 v9:=Tryz.zeroValue9
 t21:=Tryz.underlying21
 a21:=Tryz.isAgg21
 z21:=Tryz.sizeOf21
 v21:=Tryz.zeroValue21
 t46:=Tryz.underlying112
 a46:=Tryz.isAgg112
 z46:=Tryz.sizeOf112
 v46:=Tryz.zeroValue112 }
open Go.RowKit Go.Lib in
theorem Tryz.strings_IndexRune_ascii (s:ByteArray)(r:Int)(w:World)(h0:0≤r)(h1:r < 128) :
  Calls Tryz.prog 92 #[.string s,.int .i32 r] w λ e w'=>e=.returned (.int .i64 (Lib.indexByte s.data.toList r.toNat.toUInt8))∧w'=w:=Any.strings_IndexRune_ascii Tryz.lays152 s r w h0 h1
def Tryz.lays196_ren:Go.Shelf.Ren:=⟨λ | 196=>78 | 259=>108 | n=>n,λ | 9=>9 | 4=>4 | 3=>3 | 5=>5 | 12=>12 | 119=>117 | 0=>0 | 46=>112 | 139=>120 | 138=>119 | 53=>138 | n=>n,λ | 3=>0 | 4=>1 | n=>n⟩
theorem Tryz.lays196:Go.Proofs.Lays.n196 Tryz.prog Tryz.lays196_ren:={
 mixed:=by kernel_rfl
 f196:=Tryz.func78.trans (congrArg some (by kernel_rfl))
 f259:=Tryz.func108.trans (congrArg some (by kernel_rfl))
 t0:=Tryz.underlying0
 a0:=Tryz.isAgg0
 z0:=Tryz.sizeOf0
 v0:=Tryz.zeroValue0
 t3:=Tryz.underlying3
 a3:=Tryz.isAgg3
 z3:=Tryz.sizeOf3
 v3:=Tryz.zeroValue3
 t4:=Tryz.underlying4
 a4:=Tryz.isAgg4
 z4:=Tryz.sizeOf4
 v4:=Tryz.zeroValue4
 t5:=Tryz.underlying5
 a5:=Tryz.isAgg5
 z5:=Tryz.sizeOf5
 v5:=Tryz.zeroValue5
 t9:=Tryz.underlying9
 a9:=Tryz.isAgg9
 z9:=Tryz.sizeOf9
 v9:=Tryz.zeroValue9
 t12:=Tryz.underlying12
 a12:=Tryz.isAgg12
 z12:=Tryz.sizeOf12
 v12:=Tryz.zeroValue12
 t46:=Tryz.underlying112
 a46:=Tryz.isAgg112
 z46:=Tryz.sizeOf112
 v46:=Tryz.zeroValue112
 t53:=Tryz.underlying138
 a53:=Tryz.isAgg138
 z53:=Tryz.sizeOf138
 v53:=Tryz.zeroValue138
 t119:=Tryz.underlying117
 a119:=Tryz.isAgg117
 z119:=Tryz.sizeOf117
 t138:=Tryz.underlying119
 a138:=Tryz.isAgg119
 z138:=Tryz.sizeOf119
 v138:=Tryz.zeroValue119
 t139:=Tryz.underlying120
 a139:=Tryz.isAgg120
 z139:=Tryz.sizeOf120
 v139:=Tryz.zeroValue120
 g3:=by kernel_rfl
 g4:=by kernel_rfl }
open Go.RowKit Go.Lib in
theorem Tryz.utf8_ValidString (s:ByteArray)(w:World)(hs:s.size≤9223372036854775807)(hT:Lib.Utf8Tabs 0 1 w):Calls Tryz.prog 78 #[.string s] w λ e w'=>e=.returned (.bool (Lib.validD s.data.toList))∧Below w.heap.size w w':=Any.utf8_ValidString Tryz.lays196 s w hs hT
def Tryz.lays226_ren:Go.Shelf.Ren:=⟨λ | 226=>93 | n=>n,λ | 3=>3 | 4=>4 | n=>n,λ | n=>n⟩
theorem Tryz.lays226:Go.Proofs.Lays.n226 Tryz.prog Tryz.lays226_ren:={
 mixed:=by kernel_rfl
 f226:=Tryz.func93.trans (congrArg some (by kernel_rfl))
 t3:=Tryz.underlying3
 a3:=Tryz.isAgg3
 z3:=Tryz.sizeOf3
 v3:=Tryz.zeroValue3
 t4:=Tryz.underlying4
 a4:=Tryz.isAgg4
 z4:=Tryz.sizeOf4
 v4:=Tryz.zeroValue4 }
open Go.RowKit Go.Lib in
theorem Tryz.strings_shouldUseASCIISet (n:Int)(w:World) :
  Calls Tryz.prog 93 #[.int .i64 n] w λ e w'=>e=.returned (.bool (decide (8 < n)))∧w'=w:=Any.strings_shouldUseASCIISet Tryz.lays226 n w
end Go.Proofs
end
section
namespace Go.Ab
open Go.Proofs Go.RowKit
def strings_IndexByte (s:Bytes)(c:Int):Option Int:=some (Lib.indexByte s c.toNat.toUInt8)
theorem lF (s_0:Bytes)(c_1:Int)(r:Int)(h0:strings_IndexByte s_0 c_1=some r):au Tryz.prog 122 [eS s_0,eK .u8 c_1] (·=.p (eI r)):=by
 cases h0
 refine au.of_calls (l:=[.string (str s_0),.int .u8 c_1]) λ w st hok=>(Tryz.strings_IndexByte _ _ w).mono ?_
 rintro e w' ⟨rfl,rfl⟩
 rw [fY]
 exact ⟨_,rfl,kh _,λ _=>.p (.val _)⟩
def cu (r:Int):Option Bool:=some (Lib.validRune r)
theorem fM (r_0:Int)(r:Bool)(h0:cu r_0=some r):au Tryz.prog 123 [eK .i32 r_0] (·=.p (eB r)):=by
 cases h0
 refine au.of_calls (l:=[.int .i32 r_0]) λ w st hok=>(Tryz.utf8_ValidRune _ w).mono ?_
 rintro e w' ⟨rfl,rfl⟩
 exact ⟨_,rfl,kh _,λ _=>.p (.val _)⟩
theorem sW {w:World}{g:Gh}{a b:Value}:ARep w g (.tuple [.p (.val a),.p (.val b)]) (.tuple #[a,b]):=by
 refine .tuple rfl λ i c v h1 h2=>?_
 match i,h1,h2 with
 | 0,h1,h2=>simp at h1 h2; subst h1 h2; exact .p (.val _)
 | 1,h1,h2=>simp at h1 h2; subst h1 h2; exact .p (.val _)
 | n+2,h1,_=>simp at h1
def strings_HasPrefix (s p:Bytes):Option Bool:=some (Lib.hasPrefix s p)
theorem lB (s_0 p_1:Bytes)(r:Bool)(h0:strings_HasPrefix s_0 p_1=some r):au Tryz.prog 89 [eS s_0,eS p_1] (·=.p (eB r)):=by
 cases h0
 refine au.of_calls (l:=[.string (str s_0),.string (str p_1)]) λ w st hok=>(Tryz.strings_HasPrefix _ _ w).mono ?_
 rintro e w' ⟨rfl,rfl⟩
 rw [fY,fY]
 exact ⟨_,rfl,kh _,λ _=>.p (.val _)⟩
def strconv_Itoa (n:Int):Option Bytes:=ck (inR n) <| some (Lib.itoa n)
theorem pg (i_0:Int)(r:Bytes)(h0:strconv_Itoa i_0=some r):au Tryz.prog 80 [eI i_0] (·=.p (eS r)):=by
 obtain ⟨hr,h0⟩:=fT h0
 cases h0
 refine au.of_calls (l:=[.int .i64 i_0]) λ w st hok=>(Tryz.strconv_Itoa _ hr.1 hr.2 w (xR hok.gl (g:=3) rfl (by kernel_rfl) (by kernel_rfl) (by decide))).mono ?_
 rintro e w' ⟨rfl,k,os,rfl⟩
 exact ⟨_,rfl,Lib.below_grow _ w (Nat.le_refl _) k os,λ _=>.p (.val _)⟩
theorem vI:(List.range 256).all (λ c=>match qa[c]? with | some (.int .u8 n)=>n == (Lib.firstT c:Int) | _=>false)=true:=by kernel_rfl
theorem zF:(List.range 16).all (λ c=>(match xN[2*c]? with | some (.int .u8 n)=>n == (Lib.accLo c:Int) | _=>false)&&(match xN[2*c+1]? with | some (.int .u8 n)=>n == (Lib.accHi c:Int) | _=>false))=true:=by kernel_rfl
theorem wM {o:Option GC}{m:Int}(h:(match o with | some (.int .u8 n)=>n == m | _=>false)=true):o=some (.int .u8 m):=by
 split at h
 ·rw [eq_of_beq h]
 ·cases h
theorem sM {w:World}{st:Nat→Nat→Prop}(h:iX w st):Lib.Utf8Tabs 0 1 w:=by
 refine ⟨λ c hc=>lI h rfl (wM (List.all_eq_true.1 vI c (by simpa using hc))),λ i hi=>?_⟩
 have:=List.all_eq_true.1 zF i (by simpa using hi)
 simp only [Bool.and_eq_true] at this
 exact ⟨lI h rfl (wM this.1),lI h rfl (wM this.2)⟩
def cb (s:Bytes):Option (Int×Int):=some ((Lib.decodeGo (str s)).1,(Lib.decodeGo (str s)).2)
theorem gm (s_0:Bytes)(r:Int×Int)(h0:cb s_0=some r):au Tryz.prog 116 [eS s_0] (·=.tuple [.p (eK .i32 r.1),.p (eI r.2)]):=by
 cases h0
 refine au.of_calls (l:=[.string (str s_0)]) λ w st hok=>(Tryz.utf8_DecodeRuneInString _ w (sM hok.gl)).mono ?_
 rintro e w' ⟨rfl,hB⟩
 exact ⟨_,rfl,hB,λ _=>sW⟩
def dx (s:Bytes):Option Bool:=ck (s.length≤9223372036854775807) <| some (Lib.validD s)
theorem jd (s_0:Bytes)(r:Bool)(h0:dx s_0=some r):au Tryz.prog 78 [eS s_0] (·=.p (eB r)):=by
 obtain ⟨hl,h0⟩:=fT h0
 cases h0
 refine au.of_calls (l:=[.string (str s_0)]) λ w st hok=>(Tryz.utf8_ValidString _ w (by rw [fp]; exact hl) (sM hok.gl)).mono ?_
 rintro e w' ⟨rfl,hB⟩
 rw [fY]
 exact ⟨_,rfl,hB,λ _=>.p (.val _)⟩
theorem sP (w:World)(e:TypeId)(t:ByteArray):Below w.heap.size w (Lib.bytesWorld w e t) :=
 ⟨rfl,rfl,rfl,by rw [Lib.bytesWorld_size]; omega,λ k hk=>Lib.bytesWorld_at_old w e t k hk⟩
def fy (s:Bytes)(b z:Int):Option (Int×Bool):=ck (b=10∧z=64∧s.length≤281474976710656) <| some (match Lib.parseIntB 64 s with | .ok v=>(v,false) | .range=>(Lib.intSat 64 s,true) | _=>(0,true))
theorem u3 {w:World}{g:Gh}{a:Int}{t:TypeId}{v:Value}:ARep w g (.tuple [.p (eI a),.p (eE true)]) (.tuple #[.int .i64 a,.iface t v]):=by
 refine .tuple rfl λ i c v h1 h2=>?_
 match i,h1,h2 with
 | 0,h1,h2=>simp at h1 h2; subst h1 h2; exact .p (.val _)
 | 1,h1,h2=>simp at h1 h2; subst h1 h2; exact .p (.ifc _ _)
 | n+2,h1,_=>simp at h1
theorem l6 (s_0:Bytes)(base_1 bitSize_2:Int)(r:Int×Bool)(h0:fy s_0 base_1 bitSize_2=some r):au Tryz.prog 121 [eS s_0,eI base_1,eI bitSize_2] (·=.tuple [.p (eI r.1),.p (eE r.2)]):=by
 obtain ⟨⟨rfl,rfl,hl⟩,h1⟩:=fT h0
 have hsz:(str s_0).size≤281474976710656:=by rw [fp]; exact hl
 refine au.of_calls (l:=[.string (str s_0),.int .i64 10,.int .i64 64]) λ w st hok=>?_
 cases hp:Lib.parseIntB 64 s_0 with
 | ok v =>
  rw [hp] at h1; cases h1
  refine (Tryz.strconv_ParseInt_10_at64_ok (str s_0) (by omega) v (by rw [fY]; exact hp) w).mono ?_
  rintro e w' ⟨rfl,h⟩
  refine ⟨_,rfl,?_,λ _=>sW⟩
  rcases h with rfl | ⟨t,rfl⟩
  ·exact kh _
  ·exact sP _ _ _
 | range =>
  rw [hp] at h1; cases h1
  obtain ⟨t,v,hv⟩:=tw hok.gl (g:=5) (j:=0) rfl rfl
  refine (Tryz.strconv_ParseInt_10_at64_range (str s_0) hsz (by rw [fY]; exact hp) _ w hv (.inr ⟨_,_,rfl⟩)).mono ?_
  rintro e w' ⟨N,rfl,_,_,hB⟩
  rw [fY]
  exact ⟨_,rfl,hB,λ _=>u3⟩
 | _ =>
  rw [hp] at h1; cases h1
  obtain ⟨t,v,hv⟩:=tw hok.gl (g:=4) (j:=0) rfl rfl
  refine (Tryz.strconv_ParseInt_10_at64_syntax (str s_0) hsz (by rw [fY]; exact hp) _ w hv (.inr ⟨_,_,rfl⟩)).mono ?_
  rintro e w' ⟨N,rfl,_,_,hB⟩
  exact ⟨_,rfl,hB,λ _=>u3⟩
end Go.Ab
namespace Go.Ab
open Go.Proofs Go.RowKit Go
def hexDigit (n:Nat):UInt8:=if n < 10 then UInt8.ofNat (48+n) else UInt8.ofNat (87+n)
def cA (u:Nat):Bytes:=if u < 16 then [hexDigit u] else [hexDigit (u / 16),hexDigit (u % 16)]
set_option maxRecDepth 100000 in
theorem tz16 (w:World)(hT:w.cell? ⟨7,15,none⟩=some (.int .u8 4)) :
  Calls Tryz.prog 163 #[.int .u64 16] w λ e w'=>e=.returned (.int .i64 4)∧w'=w:=by
 have hq:IntKind.u64.wrap (Go.bits BinOp.and IntKind.u64 16 (IntKind.u64.wrap (-16))*285870213051353865) / 288230376151711744=15:=by kernel_rfl
 go_enter Tryz.func163,Tryz.ntmps163
 go_wp2
 go_ret
 exact ⟨rfl,rfl⟩
set_option maxRecDepth 100000 in
theorem pow2 (w:World):Calls Tryz.prog 150 #[.int .i64 16] w λ e w'=>e=.returned (.bool true)∧w'=w:=by
 have hq:bits BinOp.and IntKind.i64 16 15=0:=by kernel_rfl
 go_enter Tryz.func150,Tryz.ntmps150
 go_wp2
 go_ret
 exact ⟨rfl,rfl⟩
set_option maxRecDepth 100000 in
theorem tz (w:World)(hT:w.cell? ⟨7,15,none⟩=some (.int .u8 4)) :
  Calls Tryz.prog 151 #[.int .u64 16] w λ e w'=>e=.returned (.int .i64 4)∧w'=w:=by
 have HC:=tz16 w hT
 clear hT
 go_enter Tryz.func151,Tryz.ntmps151
 go_wp2_with (go_at_call 163; refine HC.mono ?_; rintro e w' ⟨rfl,rfl⟩)
 go_ret
 exact ⟨rfl,rfl⟩
end Go.Ab
namespace Go.Ab
open Go.Proofs Go.RowKit Go
abbrev digs:ByteArray:={ data:=#[48,49,50,51,52,53,54,55,56,57,97,98,99,100,101,102,103,104,105,106,107,108,109,110,111,112,113,114,115,116,117,118,119,120,121,122] }
def dig (n:Nat)(h:n < 36):UInt8:=digs[n]'(by show n < 36; exact h)
theorem uz (n:Nat)(h:n < 36):(({ data:=#[48,49,50,51,52,53,54,55,56,57,97,98,99,100,101,102,103,104,105,106,107,108,109,110,111,112,113,114,115,116,117,118,119,120,121,122] }:ByteArray)[n]'(by show n < 36; exact h))=dig n h:=rfl
set_option maxRecDepth 100000 in
theorem fb (u:Int)(h0:0≤u)(h1:u < 16)(w:World)(hT:w.cell? ⟨7,15,none⟩=some (.int .u8 4)) :
  Calls Tryz.prog 136 #[.slice none 0 0,.int .u64 u,.int .i64 16,.bool false,.bool false] w λ e w'=>e=.returned (.tuple #[.slice none 0 0,.string ⟨[dig u.toNat (by omega)].toArray⟩])∧Below w.heap.size w w':=by
 have hlt:(7:Nat) < w.heap.size:=by
  rcases Nat.lt_or_ge 7 w.heap.size with h | h
  ·exact h
  ·simp [World.cell?,Array.getElem?_eq_none h] at hT
 have HZ:Hid (∀ o,Calls Tryz.prog 151 #[.int .u64 16] (w.alloc o) λ e w'=>e=.returned (.int .i64 4)∧w'=w.alloc o):=λ o=>tz (w.alloc o) ((World.cell?_alloc_lt w _ _ hlt).trans hT)
 clear hT
 go_enter Tryz.func136,Tryz.ntmps136
 go_wp2_with (first | (go_at_call 150; refine (pow2 _).mono ?_; rintro e w' ⟨rfl,rfl⟩) | (go_at_call 151; refine (HZ.out _).mono ?_; rintro e w' ⟨rfl,rfl⟩))
 go_loopg [1,13] 1 (λ g uv iv wx=>g=1∧uv=.int .u64 u∧iv=.int .i64 65∧wx=w.alloc (.cells Tryz.zeroCells151 151))
 case atStart=>exact ⟨rfl,rfl,rfl,rfl⟩
 case round =>
  obtain ⟨rfl,rfl,rfl,rfl⟩:=hrel
  have hlt16:decide ((16:Int)≤u)=false:=decide_eq_false (by omega)
  go_wp2
  rw [uz u.toNat (by omega)]
  generalize hd:dig u.toNat (by omega)=dg
  have hcv:=run_convert_bytes_back (P:=Tryz.prog) (w.alloc (.cells (Tryz.zeroCells151.setIfInBounds 64 (.int .u8 dg.toNat)) 151)) 63 9 5 ⟨w.heap.size,64,none⟩ 1 [dg] Tryz.underlying63 Tryz.underlying5 Tryz.underlying9 (λ j hj=>by
   have:j=0:=by simpa using hj
   subst this
   rw [add_lit,Nat.add_zero,World.cell?_alloc_new]
   rfl)
  rw [show [dg].length=1 from rfl] at hcv
  rw [hcv]
  simp only [Result.andThen]
  rw [Oper.upon_value]
  go_wp2
  go_ret2
  subst hd
  exact ⟨rfl,(Below.refl _ w).alloc (Nat.le_refl _) _⟩
theorem Be:(List.range 256).all (λ n=>Go.bits BinOp.and IntKind.u64 (n:Int) 15 == ((n % 16:Nat):Int))=true:=by kernel_rfl
set_option maxRecDepth 100000 in
theorem fb2 (u:Nat)(h0:16≤u)(h1:u < 256)(w:World)(hT:w.cell? ⟨7,15,none⟩=some (.int .u8 4)) :
  Calls Tryz.prog 136 #[.slice none 0 0,.int .u64 u,.int .i64 16,.bool false,.bool false] w λ e w'=>e=.returned (.tuple #[.slice none 0 0,.string ⟨[dig (u / 16) (by omega),dig (u % 16) (by omega)].toArray⟩])∧Below w.heap.size w w':=by
 have hlt:(7:Nat) < w.heap.size:=by
  rcases Nat.lt_or_ge 7 w.heap.size with h | h
  ·exact h
  ·simp [World.cell?,Array.getElem?_eq_none h] at hT
 have HZ:Hid (∀ o,Calls Tryz.prog 151 #[.int .u64 16] (w.alloc o) λ e w'=>e=.returned (.int .i64 4)∧w'=w.alloc o):=λ o=>tz (w.alloc o) ((World.cell?_alloc_lt w _ _ hlt).trans hT)
 clear hT
 have hand:Go.bits BinOp.and IntKind.u64 (u:Int) 15=((u % 16:Nat):Int):=eq_of_beq (List.all_eq_true.1 Be u (List.mem_range.2 h1))
 go_enter Tryz.func136,Tryz.ntmps136
 go_wp2_with (first | (go_at_call 150; refine (pow2 _).mono ?_; rintro e w' ⟨rfl,rfl⟩) | (go_at_call 151; refine (HZ.out _).mono ?_; rintro e w' ⟨rfl,rfl⟩))
 go_loopg [1,13] 1 (λ g uv iv wx=>(g=1∧uv=.int .u64 u∧iv=.int .i64 65∧wx=w.alloc (.cells Tryz.zeroCells151 151))∨(g=0∧uv=.int .u64 ((u / 16:Nat):Int)∧iv=.int .i64 64∧wx=w.alloc (.cells (Tryz.zeroCells151.setIfInBounds 64 (.int .u8 (dig (u % 16) (by omega)).toNat)) 151)))
 case atStart=>exact .inl ⟨rfl,rfl,rfl,rfl⟩
 case round =>
  rcases hrel with ⟨rfl,rfl,rfl,rfl⟩ | ⟨rfl,rfl,rfl,rfl⟩
  ·have hlt16:decide ((16:Int)≤(u:Int))=true:=decide_eq_true (by omega)
   go_wp2
   rw [uz (u % 16) (by omega)]
   go_roundg 0
   case measure=>omega
   case rel=>exact .inr ⟨rfl,by rw [Int.natCast_ediv]; rfl,rfl,rfl⟩
  ·have hlt16:decide ((16:Int)≤((u / 16:Nat):Int))=false:=decide_eq_false (by omega)
   go_wp2
   rw [uz (u / 16) (by omega)]
   generalize hd:dig (u / 16) (by omega)=d1
   generalize he:dig (u % 16) (by omega)=d0
   have hcv:=run_convert_bytes_back (P:=Tryz.prog) (w.alloc (.cells ((Tryz.zeroCells151.setIfInBounds 64 (.int .u8 d0.toNat)).setIfInBounds 63 (.int .u8 d1.toNat)) 151)) 63 9 5 ⟨w.heap.size,63,none⟩ 2 [d1,d0] Tryz.underlying63 Tryz.underlying5 Tryz.underlying9 (λ j hj=>by
    have:j=0∨j=1:=by simp at hj; omega
    rcases this with rfl | rfl
    ·rw [add_lit,Nat.add_zero,World.cell?_alloc_new]
     rfl
    ·rw [add_lit,World.cell?_alloc_new]
     rfl)
   rw [show [d1,d0].length=2 from rfl] at hcv
   rw [hcv]
   simp only [Result.andThen]
   rw [Oper.upon_value]
   go_wp2
   go_ret2
   subst hd he
   exact ⟨rfl,(Below.refl _ w).alloc (Nat.le_refl _) _⟩
end Go.Ab
namespace Go.Ab
open Go.Proofs Go.RowKit Go
theorem zf:∀ n:Fin 16,dig n.1 (Nat.lt_of_lt_of_le n.2 (by decide))=hexDigit n.1:=by decide
theorem pV (n:Nat)(h:n < 16)(h':n < 36):dig n h'=hexDigit n:=zf ⟨n,h⟩
theorem A8 (u:Nat)(h1:u < 256)(w:World)(hT:w.cell? ⟨7,15,none⟩=some (.int .u8 4)) :
  Calls Tryz.prog 136 #[.slice none 0 0,.int .u64 u,.int .i64 16,.bool false,.bool false] w λ e w'=>e=.returned (.tuple #[.slice none 0 0,.string ⟨(cA u).toArray⟩])∧Below w.heap.size w w':=by
 by_cases h:u < 16
 ·have:=fb u (by omega) (by omega) w hT
  rwa [pV _ (by omega) _,Int.toNat_natCast,show [hexDigit u]=cA u from (if_pos h).symm] at this
 ·have:=fb2 u (by omega) h1 w hT
  rwa [pV (u / 16) (by omega) _,pV (u % 16) (by omega) _,show [hexDigit (u / 16),hexDigit (u % 16)]=cA u from (if_neg h).symm] at this
set_option maxRecDepth 100000 in
theorem fint (u:Nat)(h1:u < 256)(w:World)(hT:w.cell? ⟨7,15,none⟩=some (.int .u8 4)) :
  Calls Tryz.prog 111 #[.int .i64 u,.int .i64 16] w λ e w'=>e=.returned (.string ⟨(cA u).toArray⟩)∧Below w.heap.size w w':=by
 have HC:Hid _:=A8 u h1 w hT
 clear hT
 have hneg:decide ((u:Int) < 0)=false:=decide_eq_false (by omega)
 generalize cA u=tx at HC ⊢
 go_enter Tryz.func111,Tryz.ntmps111
 go_wp2_with (go_at_call 136; refine Calls.mono HC.out ?_; rintro e w' ⟨rfl,hB⟩)
 go_ret
 exact ⟨rfl,hB⟩
set_option maxRecDepth 100000 in
theorem Bg (u:Nat)(h1:u < 256)(w:World)(hT:w.cell? ⟨7,15,none⟩=some (.int .u8 4)) :
  Calls Tryz.prog 82 #[.int .i64 u,.int .i64 16] w λ e w'=>e=.returned (.string ⟨(cA u).toArray⟩)∧Below w.heap.size w w':=by
 have HC:Hid _:=fint u h1 w hT
 clear hT
 generalize cA u=tx at HC ⊢
 go_enter Tryz.func82,Tryz.ntmps82
 go_wp2_with (go_at_call 111; refine Calls.mono HC.out ?_; rintro e w' ⟨rfl,hB⟩)
 go_ret
 exact ⟨rfl,hB⟩
def fc (i b:Int):Option Bytes:=ck (b=16∧0≤i∧i < 256) <| some (cA i.toNat)
theorem lE (i_0 base_1:Int)(r:Bytes)(h0:fc i_0 base_1=some r):au Tryz.prog 82 [eI i_0,eI base_1] (·=.p (eS r)):=by
 obtain ⟨⟨rfl,h1,h2⟩,h3⟩:=fT h0
 cases h3
 obtain ⟨u,rfl⟩:∃ u:Nat,i_0=u:=⟨i_0.toNat,by omega⟩
 refine au.of_calls (l:=[.int .i64 u,.int .i64 16]) λ w st hok=>(Bg u (by omega) w (lI hok.gl rfl (by kernel_rfl))).mono ?_
 rintro e w' ⟨rfl,hB⟩
 exact ⟨_,rfl,hB,λ _=>.p (.val _)⟩
end Go.Ab
namespace Go.Ab
open Go.Proofs Go.RowKit Go
theorem zi (n b0 b1 b2 b3:Nat)(hn:1≤n)(h0:b0 < 256):1≤(Lib.decodeN n b0 b1 b2 b3).2∧(Lib.decodeN n b0 b1 b2 b3).2≤n∧(Lib.decodeN n b0 b1 b2 b3).2≤4 ∧
  ((Lib.decodeN n b0 b1 b2 b3).1 < 128→(Lib.decodeN n b0 b1 b2 b3).2=1∧(Lib.decodeN n b0 b1 b2 b3).1=b0) ∧
  (128≤(Lib.decodeN n b0 b1 b2 b3).1→128≤b0∧(2≤(Lib.decodeN n b0 b1 b2 b3).2→128≤b1)∧(3≤(Lib.decodeN n b0 b1 b2 b3).2→128≤b2)∧(4≤(Lib.decodeN n b0 b1 b2 b3).2→128≤b3)) ∧
  ((Lib.decodeN n b0 b1 b2 b3).1 < 55296∨(57343 < (Lib.decodeN n b0 b1 b2 b3).1∧(Lib.decodeN n b0 b1 b2 b3).1≤1114111)):=by
 unfold Lib.decodeN
 repeat' split
 all_goals (refine ⟨by dsimp only; omega,by dsimp only; omega,by dsimp only; omega,λ h=>⟨by dsimp only at h ⊢; first | done | omega,by dsimp only at h ⊢; first | done | omega⟩,λ h=>⟨by dsimp only at h; omega,λ k=>by dsimp only at k; omega,λ k=>by dsimp only at k; omega,λ k=>by dsimp only at k; omega⟩,by dsimp only; omega⟩)
end Go.Ab
namespace Go.Ab
open Go.Proofs Go.RowKit Go
abbrev o5:ByteArray:={ data:=#[46,91] }
theorem zk {P:Program}(w:World)(b:Nat)(s:ByteArray)(pos:Nat)(ty:TypeId)(h:pos < s.size)(hb:w.heap[b]? = some (.stringIter s pos)) :
  (Instr.next (.pointer (some ⟨b,0,none⟩)) true ty).run P w=.ok (.tuple #[.bool true,.int .i64 pos,.int .i32 (Utf8.decode s pos).1]) { w with heap:=w.heap.setIfInBounds b (.stringIter s (pos+(Utf8.decode s pos).2)) }:=by
 simp only [Instr.next,getObj,setObj,Sem.run_bind,Sem.run,hb,Result.andThen,h,if_true]
 simp [goInt]
theorem xe {P:Program}(w:World)(b:Nat)(s:ByteArray)(pos:Nat)(ty:TypeId)(h:¬ pos < s.size)(hb:w.heap[b]? = some (.stringIter s pos)) :
  (Instr.next (.pointer (some ⟨b,0,none⟩)) true ty).run P w=.ok (.tuple #[.bool false]) w:=by
 simp [Instr.next,getObj,Sem.run,hb,h]
theorem sT (s:ByteArray)(k:Nat)(h:k < s.size):s.data.toList[k]? = some (s.get! k):=by
 have:s.get! k=s[k]'h:=by
  simp [ByteArray.get!,getElem!_pos,h]
  rfl
 rw [this]; exact Lib.data_getElem? s k h
theorem w9 (s:ByteArray)(i:Nat)(h:i < s.size):∃ c k:Nat,Utf8.decode s i=(c,k)∧1≤k∧i+k≤s.size∧(c < 128→k=1∧∃ x:UInt8,s.data.toList[i]? = some x∧c=x.toNat) ∧
  (128≤c→∀ j b,i≤j→j < i+k→s.data.toList[j]? = some b→128≤b.toNat)∧(c < 55296∨(57343 < c∧c≤1114111)):=by
 refine ⟨(Utf8.decode s i).1,(Utf8.decode s i).2,rfl,?_⟩
 rw [Lib.decode_at]
 obtain ⟨h1,h2,h3,h4,h5,h6⟩:=zi (s.size - i) (s.get! i).toNat (s.get! (i+1)).toNat (s.get! (i+2)).toNat (s.get! (i+3)).toNat (by omega) (UInt8.toNat_lt _)
 refine ⟨h1,by omega,λ q=>⟨(h4 q).1,s.get! i,sT s i h,(h4 q).2⟩,λ q j b a1 a2 hb=>?_,h6⟩
 obtain ⟨q0,q1,q2,q3⟩:=h5 q
 have hj:j < s.size:=by omega
 rw [sT s j hj] at hb
 cases hb
 obtain rfl | rfl | rfl | rfl:j=i∨j=i+1∨j=i+2∨j=i+3:=by omega
 ·exact q0
 ·exact q1 (by omega)
 ·exact q2 (by omega)
 ·exact q3 (by omega)
theorem wB (c:Nat)(h:128≤c)(hv:Lib.validRune c=true):(Utf8.encode (c:Int)=⟨#[UInt8.ofNat (0xC0+c / 64),UInt8.ofNat (0x80+c % 64)]⟩)∨((Utf8.encode (c:Int)).size=3∨(Utf8.encode (c:Int)).size=4):=by
 have hv2:Utf8.valid (c:Int)=true:=by
  simp only [Lib.validRune,decide_eq_true_eq] at hv
  simp only [Utf8.valid,Bool.or_eq_true,Bool.and_eq_true,decide_eq_true_eq]
  omega
 simp only [Utf8.encode,hv2,if_true,Int.toNat_natCast]
 rw [if_neg (by omega)]
 by_cases h1:c < 2048
 ·rw [if_pos h1]; exact .inl rfl
 ·rw [if_neg h1]
  by_cases h2:c < 65536
  ·rw [if_pos h2]; exact .inr (.inl rfl)
  ·rw [if_neg h2]; exact .inr (.inr rfl)
theorem Bc (c:Nat):(UInt8.ofNat (0x80+c % 64)).toNat≠91:=by
 rw [UInt8.toNat_ofNat']
 omega
theorem below_drewN' {B:Nat}{a w:World}(h:Below B a w)(n:Nat):Below B a (w.drewN n):=h.trans ⟨rfl,rfl,rfl,Nat.le_refl _,λ _ _=>rfl⟩
theorem AH (c:Int)(w:World):Calls Tryz.prog 122 #[.string ByteArray.empty,.int .u8 c] w λ e w'=>e=.returned (.int .i64 (-1))∧w'=w:=Tryz.strings_IndexByte ByteArray.empty c w
set_option maxRecDepth 1000000 in
theorem AX (s rs:ByteArray)(c:Nat)(h:128≤c)(hv:Lib.validRune c=true)(hne:c≠65533)(henc:Utf8.encode (c:Int)=rs)(hs:s.size=2)(hr:rs.size=2)
  (h1:(s[1]'(by omega))≠(rs[1]'(by omega))) (w:World) :
  Calls Tryz.prog 92 #[.string s,.int .i32 c] w λ e w'=>e=.returned (.int .i64 (-1))∧Below w.heap.size w w':=by
 have hlt:decide ((c:Int) < 128)=false:=decide_eq_false (by omega)
 have hne':((c:Int) == 65533)=false:=beq_eq_false_iff_ne.2 (by omega)
 have h0:decide ((0:Int)≤(c:Int))=true:=decide_eq_true (by omega)
 obtain ⟨x,hx⟩:∃ x,s[1]'(by omega)=x:=⟨_,rfl⟩
 obtain ⟨y,hy⟩:∃ y,rs[1]'(by omega)=y:=⟨_,rfl⟩
 rw [hx,hy] at h1
 have hsz:(s.size:Int)=2:=by omega
 have hrz:(rs.size:Int)=2:=by omega
 have hb:((x.toNat:Int) != (y.toNat:Int))=true:=by
  rw [bne_iff_ne]
  intro e
  exact h1 (UInt8.toNat_inj.1 (by omega))
 go_enter Tryz.func92,Tryz.ntmps92
 go_wp2_with (go_at_call 123; refine (Tryz.utf8_ValidRune _ _).mono ?_; rintro e w' ⟨rfl,hw⟩; rw [hw,hv])
 refine wp_scope_straight ?_
 go_wp2
 go_loopg [9] 0 (λ g v wx=>g=0∧v=.int .i64 1∧wx=w)
 case atStart=>exact ⟨rfl,by go_num,rfl⟩
 case round =>
  obtain ⟨rfl,rfl,rfl⟩:=hrel
  go_wp2
  refine wp_scope_straight ?_
  go_wp2
  go_big_quiet (fail)
  go_wp2
  go_big_quiet ((go_at_call 122; exact (AH _ _).mono (λ _ _ h=>⟨h.1,_,h.2⟩)))
  go_wp2
  simp only [Exit.noGoto,Exit.inBlock,Exit.then]
  go_ret
  exact ⟨rfl,below_drewN' (Below.refl _ _) _⟩
set_option maxRecDepth 1000000 in
theorem yT (s rs:ByteArray)(c:Nat)(h:128≤c)(hv:Lib.validRune c=true)(hne:c≠65533)(henc:Utf8.encode (c:Int)=rs)(hs:s.size=2)(hr:3≤rs.size)(hr4:rs.size≤4)(w:World) :
  Calls Tryz.prog 92 #[.string s,.int .i32 c] w λ e w'=>e=.returned (.int .i64 (-1))∧Below w.heap.size w w':=by
 have hlt:decide ((c:Int) < 128)=false:=decide_eq_false (by omega)
 have hne':((c:Int) == 65533)=false:=beq_eq_false_iff_ne.2 (by omega)
 have h0:decide ((0:Int)≤(c:Int))=true:=decide_eq_true (by omega)
 obtain ⟨i,hi⟩:∃ i:Nat,rs.size=i+1:=⟨rs.size - 1,by omega⟩
 have hsz:(s.size:Int)=2:=by omega
 have hrz:(rs.size:Int)=(i:Int)+1:=by omega
 have hlast:IntKind.i64.wrap ((i:Int)+1 - 1)=(i:Int):=by rw [wrap_small _ (by omega) (by omega)]; omega
 have hend:decide ((i:Int) < 2)=false:=decide_eq_false (by omega)
 go_enter Tryz.func92,Tryz.ntmps92
 go_wp2_with (go_at_call 123; refine (Tryz.utf8_ValidRune _ _).mono ?_; rintro e w' ⟨rfl,hw⟩; rw [hw,hv])
 refine wp_scope_straight ?_
 go_wp2
 go_loopg [9] 0 (λ g v wx=>g=0∧v=.int .i64 i∧wx=w)
 case atStart=>exact ⟨rfl,by first | rfl | (congr 1; omega),rfl⟩
 case round =>
  obtain ⟨rfl,rfl,rfl⟩:=hrel
  go_wp2
  simp only [Exit.noGoto,Exit.inBlock]
  go_ret
  exact ⟨rfl,Below.refl _ _⟩
set_option maxRecDepth 1000000 in
theorem AQ (w:World) :
  Calls Tryz.prog 92 #[.string o5,.int .i32 65533] w λ e w'=>e=.returned (.int .i64 (-1))∧Below w.heap.size w w':=by
 generalize hs:o5=s
 have hz:s.size=2:=by rw [← hs]; rfl
 have ha:∀ i (hi:i < s.size),(s[i]'hi).toNat < 128:=by
  subst hs
  intro i hi
  have:i=0∨i=1:=by have:i < 2:=hi; omega
  rcases this with rfl | rfl
  ·show (46:UInt8).toNat < 128; decide
  ·show (91:UInt8).toNat < 128; decide
 go_enter Tryz.func92,Tryz.ntmps92
 go_wp2
 go_loopg [5,6] 2 (λ g _ _ wx=>∃ i:Nat,i+g=2∧wx=w.iter s i)
 case atStart=>exact ⟨0,rfl,rfl⟩
 case round =>
  obtain ⟨i,hig,rfl⟩:=hrel
  cases gk with
  | zero =>
   obtain rfl:i=2:=by omega
   have hnx:=run_next_end (P:=Tryz.prog) w s 2
   rw [hz] at hnx
   go_wp2
   go_ret
   exact ⟨rfl,(Below.refl _ w).alloc (Nat.le_refl _) _⟩
  | succ g =>
   have hi:i < s.size:=by omega
   have hx128:=ha i hi
   have hnx:=λ ty=>run_next_ascii (P:=Tryz.prog) w s i ty hi hx128
   obtain ⟨x,hx⟩:∃ x:UInt8,s[i]'hi=x:=⟨_,rfl⟩
   rw [hx] at hnx hx128
   have hne:((x.toNat:Int) == 65533)=false:=beq_eq_false_iff_ne.2 (by omega)
   go_wp2
   go_roundg g
   case measure=>omega
   case rel=>exact ⟨i+1,by omega,rfl⟩
end Go.Ab
namespace Go.Ab
open Go.Proofs Go.RowKit Go
theorem yN (c:Nat)(hv:c < 55296∨(57343 < c∧c≤1114111))(h:128≤c)(w:World) :
  Calls Tryz.prog 92 #[.string o5,.int .i32 c] w λ e w'=>e=.returned (.int .i64 (-1))∧Below w.heap.size w w':=by
 have hv1:Lib.validRune (c:Int)=true:=by
  simp only [Lib.validRune,decide_eq_true_eq]
  omega
 by_cases hne:c=65533
 ·subst hne; exact AQ w
 ·rcases wB c h hv1 with e | e
  ·refine AX o5 _ c h hv1 hne e rfl rfl ?_ w
   have h91:=Bc c
   intro q
   apply h91
   have q':(91:UInt8)=UInt8.ofNat (0x80+c % 64):=q
   rw [← q']
   rfl
  ·exact yT o5 _ c h hv1 hne rfl rfl (by omega) (by omega) w
theorem uG {s cs:List UInt8}{i k:Nat}(hcs:∀ b,cs.contains b=true→b.toNat < 128)(h:Lib.NoAny s cs i)(hk:∀ j b,i≤j→j < i+k→s[j]? = some b→128≤b.toNat):Lib.NoAny s cs (i+k):=λ j b hj hb=>by
 by_cases q:j < i
 ·exact h j b q hb
 ·cases hc:cs.contains b with
  | false=>rfl
  | true=>have:=hk j b (by omega) hj hb; have:=hcs b hc; omega
theorem vZ {B:Nat}{a w:World}(h:Below B a w){b:Nat}(hb:B≤b)(o:Obj):Below B a { w with heap:=w.heap.setIfInBounds b o } :=
 h.trans ⟨rfl,rfl,rfl,by simp,λ k hk=>by
  show (w.heap.setIfInBounds b o)[k]? = _
  rw [Array.getElem?_setIfInBounds_ne (by omega)]⟩
set_option maxHeartbeats 8000000 in
set_option maxRecDepth 1000000 in
theorem qq (s:ByteArray)(w:World)(h8:s.size≤8) :
  Calls Tryz.prog 66 #[.string s,.string o5] w λ e w'=>e=.returned (.int .i64 (Lib.indexAny s.data.toList [46,91]))∧Below w.heap.size w w':=by
 have hn1:((o5.size:Int) == 1)=false:=rfl
 have h8z:decide ((8:Int) < (s.size:Int))=false:=decide_eq_false (by omega)
 have hcs:∀ b,([46,91]:List UInt8).contains b=true→b.toNat < 128:=by
  intro b hb
  simp at hb
  rcases hb with rfl | rfl <;> decide
 have hemp:({ data:=#[46,91] }:ByteArray).toList.isEmpty=false:=by rw [Lib.toList_data]; rfl
 go_enter Tryz.func66,Tryz.ntmps66
 go_wp2_with (go_at_call 93; refine (Tryz.strings_shouldUseASCIISet _ _).mono ?_; rintro e w' ⟨rfl,hw⟩; rw [hw,h8z])
 go_loopg [9,10] s.size (λ g _ _ wx=>∃ i:Nat,i+g=s.size∧wx.heap[w.heap.size]? = some (.stringIter s i)∧Hid (Below w.heap.size w wx)∧Hid (Lib.NoAny s.data.toList [46,91] i))
 case atStart=>exact ⟨0,by omega,by simp [World.iter_heap],(Below.refl _ w).alloc (Nat.le_refl _) _,Lib.NoAny.zero _ _⟩
 case round =>
  obtain ⟨i,hig,hit,HB,HN⟩:=hrel
  cases gk with
  | zero =>
   obtain rfl:i=s.size:=by omega
   have hnx:=λ ty=>xe (P:=Tryz.prog) wr w.heap.size s s.size ty (by omega) hit
   go_wp2
   go_ret
   exact ⟨by rw [Lib.indexAny_none (by rw [← Lib.size_eq]; exact HN.out)]; rfl,HB.out⟩
  | succ g =>
   have hi:i < s.size:=by omega
   obtain ⟨c,k,hd,hk1,hk2,hlow,hhigh,hval⟩:=w9 s i hi
   have hnx:=λ ty=>zk (P:=Tryz.prog) wr w.heap.size s i ty hi hit
   rw [hd] at hnx
   have hlt:w.heap.size < wr.heap.size:=by
    rcases Nat.lt_or_ge w.heap.size wr.heap.size with h | h
    ·exact h
    ·rw [Array.getElem?_eq_none h] at hit; cases hit
   obtain ⟨W1,hW1⟩:∃ W1,({ wr with heap:=wr.heap.setIfInBounds w.heap.size (.stringIter s (i+k)) }:World)=W1:=⟨_,rfl⟩
   have HI:Hid (W1.heap[w.heap.size]? = some (.stringIter s (i+k))):=by
    rw [← hW1]
    show (wr.heap.setIfInBounds w.heap.size (.stringIter s (i+k)))[w.heap.size]? = _
    rw [Array.getElem?_setIfInBounds_self_of_lt hlt]
   have HL:Hid (w.heap.size < W1.heap.size):=by
    rw [← hW1]; show w.heap.size < (wr.heap.setIfInBounds _ _).size; simp; exact hlt
   have HB1:Hid (Below w.heap.size w W1):=by rw [← hW1]; exact vZ HB.out (Nat.le_refl _) _
   have Hk:Hid (∃ g',i+k+g'=s.size∧g'≤g):=⟨s.size - (i+k),by omega,by omega⟩
   simp only [hW1] at hnx
   clear hW1 hit HB hd
   by_cases h128:c < 128
   ·obtain ⟨rfl,x,hx,rfl⟩:=hlow h128
    have Hx:Hid (s.data.toList[i]? = some x):=hx
    have HR:Hid _:=Tryz.strings_IndexRune_ascii o5 (x.toNat:Int) W1 (by omega) (by omega)
    have hback:((x.toNat:Int)).toNat.toUInt8=x:=by simp
    rw [hback] at HR
    have hcon:=Lib.contains_iff_indexByte [46,91] x
    rw [show o5.data.toList=[46,91] from rfl] at HR
    clear hx hlow hhigh hval hback
    cases hin:([46,91]:List UInt8).contains x
    ·rw [hin] at hcon
     generalize Lib.indexByte [46,91] x=v at HR hcon
     have hlt:decide ((0:Int)≤v)=false:=hcon.symm
     clear hcon
     go_wp2_with (go_at_call 92; refine Calls.mono HR.out ?_; rintro e w' ⟨rfl,hw'⟩; rw [hw'])
     go_roundg g
     case measure=>omega
     case rel=>exact ⟨i+1,by omega,HI.out,HB1,HN.out.succ Hx.out hin⟩
    ·rw [hin] at hcon
     generalize Lib.indexByte [46,91] x=v at HR hcon
     have hge:decide ((0:Int)≤v)=true:=hcon.symm
     clear hcon
     go_wp2_with (go_at_call 92; refine Calls.mono HR.out ?_; rintro e w' ⟨rfl,hw'⟩; rw [hw'])
     go_ret
     exact ⟨by rw [Lib.indexAny_hit HN.out Hx.out hin]; rfl,HB1.out⟩
   ·have HR:Hid _:=yN c hval (by omega) W1
    have HN2:Hid _:=uG hcs HN.out (hhigh (by omega))
    clear hlow hhigh hval
    go_wp2_with (go_at_call 92; refine Calls.mono HR.out ?_; rintro e w' ⟨rfl,hB'⟩)
    have h1:w'.heap[w.heap.size]? = some (.stringIter s (i+k)):=(hB'.block _ HL.out).trans HI.out
    obtain ⟨g',hg',hg''⟩:=Hk.out
    go_roundg g'
    case measure=>omega
    case rel=>exact ⟨i+k,hg',h1,HB1.out.trans (hB'.mono HB1.out.size),HN2⟩
theorem vS:Tryz.zeroCells107=Array.replicate 256 (.bool false):=by kernel_rfl
theorem yn (w:World):(zeroValue 107).run Tryz.prog w=.ok (.agg (Array.replicate 256 (.bool false))) w:=by
 rw [← vS]; exact Tryz.zeroValue107 w
theorem ug (j:Nat)(b:UInt8)(h:o5.data.toList[j]? = some b):b.toNat < 128:=by
 match j,h with
 | 0,h=>cases h; decide
 | 1,h=>cases h; decide
 | n+2,h=>cases h
def strings_IndexAny (s cs:Bytes):Option Int:=ck (cs=[46,91]∧s.length < 4294967281) <| some (Lib.indexAny s cs)
theorem md (s_0 chars_1:Bytes)(r:Int)(h0:strings_IndexAny s_0 chars_1=some r):au Tryz.prog 66 [eS s_0,eS chars_1] (·=.p (eI r)):=by
 obtain ⟨⟨rfl,hl⟩,h1⟩:=fT h0
 cases h1
 refine au.of_calls (l:=[.string (str s_0),.string o5]) λ w st hok=>?_
 have hz:(str s_0).size=s_0.length:=fp _
 by_cases h8:(str s_0).size≤8
 ·refine (qq (str s_0) w h8).mono ?_
  rintro e w' ⟨rfl,hB⟩
  rw [fY]
  exact ⟨_,rfl,hB,λ _=>.p (.val _)⟩
 ·refine (Tryz.strings_IndexAny_long yn (str s_0) o5 w (by decide) (by omega) (by omega) (by decide) ug).mono ?_
  rintro e w' ⟨rfl,rfl⟩
  rw [fY]
  exact ⟨_,rfl,((Below.refl _ w).alloc (Nat.le_refl _) _).alloc (by show w.heap.size≤(w.heap.push _).size; simp) _,λ _=>.p (.val _)⟩
end Go.Ab
end
section
namespace Go.Ab
open Go.MapKept
section
variable {α:Type}
end
section
variable {C:Cx} {o:Oper} {K:AS→Prop} {sl:List (Nat×AV)} {ob:List (Nat×List AV)} {d:Nat}
end
end Go.Ab
end
section
namespace Go.Ab
open Go.MapKept
/- As 'dem',for identities of any size; what is known of maps of rows is given up. -/
section
variable {C:Cx} {o:Oper} {K:AS→Prop} {sl:List (Nat×AV)} {ob:List (Nat×List AV)} {d:Nat}
end
end Go.Ab
end
section
namespace Go.Ab
section
variable {C:Cx} {o:Oper} {K:AS→Prop} {sl:List (Nat×AV)} {ob:List (Nat×List AV)} {d:Nat}
end
section
variable {C:Cx} {o:Oper} {K:AS→Prop} {sl:List (Nat×AV)} {ob:List (Nat×List AV)} {d:Nat}
end
end Go.Ab
end
section
namespace Go.Ab
section
variable {C:Cx} {o:Oper} {K:AS→Prop} {sl:List (Nat×AV)} {ob:List (Nat×List AV)} {d:Nat}
end
end Go.Ab
end
section
namespace Go.Ab
section
variable {C:Cx} {o:Oper} {K:AS→Prop} {sl:List (Nat×AV)} {ob:List (Nat×List AV)} {d:Nat}
theorem wc {P:Program}{tt:List (Nat×TI)}(good:cr P tt){t e:Nat}{i ie:TI}(hi:look tt t=some i)(hik:i.k=.slice e)(hie:look tt e=some ie)(k k':IntKind){m:Int}(hb:0≤m∧m≤9223372036854775807∧(ie.bytes:Int)*m≤281474976710656)(w:World) :
  ∃ c:Array Value,c.size=m.toNat*ie.size∧(Instr.makeSlice t (.int k 0) (.int k' m)).run P w=.ok (.slice (some ⟨w.heap.size,0,none⟩) 0 m.toNat) (w.alloc (.cells c e)):=by
 obtain ⟨u,h1,h2⟩:=bb good hi
 have h3:=bo (h2.trans hik)
 subst h3
 obtain ⟨j,hj,hj1,hj2,zz,hz1,hz2⟩:=eO good hie
 have hrun:=run_make (P:=P) w t e j zz h1 hj hz1 k k' 0 m (Int.le_refl _) hb.1 (by rw [hj2]; exact hb.2.2) hb.2.1
 exact ⟨_,by rw [size_madeCells,hj1],hrun⟩
theorem wO {t e:Nat}{x y:Operand}{i ie:TI}{k k':IntKind}{m:Int}(ho:o.op=.makeSlice t x y)(hd:o.dst=some d)(hn:Nat.blt d C.n=true)
  (hi:look C.tt t=some i) (hik:i.k=.slice e) (hie:look C.tt e=some ie) (hx:evo sl x=some (.p (.val (.int k 0)))) (hy:evo sl y=some (.p (.val (.int k' m))))
  (hb:0≤m∧m≤9223372036854775807∧(ie.bytes:Int)*m≤281474976710656) {sz:Nat} (hsz:ie.size=sz) {ob':List (Nat×List AV)} (hob:dmO (λ i=>Nat.beq i d) ob=some ob')
  (hK:K ⟨(d,.vec d sz 0 [])::(cv (λ i=>Nat.beq i d) ⟨sl,ob⟩).sl,ob'⟩):aU C o K ⟨sl,ob⟩:=by
 subst hsz
 have e1:=(rT hob).symm
 have hdl:d < M1:=by have h1:=Nat.le_of_ble_eq_true C.nl; have h2:d < C.n:=Nat.blt_eq ▸ hn; omega
 intro g a w hs
 obtain ⟨c,hc,hrun⟩:=wc C.good hi hik hie k k' hb w
 have hf:=hs.fresh (λ i=>Nat.beq i d) (λ i hi=>by have:=Nat.eq_of_beq_eq_true hi; omega) d (by simp) (λ _=>False) c e
 have hp:=hf.put (d:=some d) (λ t ht=>by cases ht; exact Nat.blt_eq ▸ hn) (x:=.vec d ie.size 0 []) (v:=.slice (some ⟨w.heap.size,0,none⟩) 0 m.toNat)
  (.vec (off:=0) (cap:=m.toNat) (by simp) cW (by simpa using hc) (by simp) (λ o=>by simp only [List.length_nil,Nat.zero_mul,Nat.add_zero,Nat.not_lt_zero,iff_false]; rintro (q | ⟨_,q⟩); exact absurd (hs.lt _ _ q) (by omega); exact q)
   (PRep.slice (es:=[]) 0 (λ _ _=>Go.undef) (Nat.zero_le _) (by simp) (by simp) (λ i e j c h=>by simp at h) (λ i e j c h=>by simp at h)) (.inl rfl))
 unfold Oper.wp
 have hrun':(execOp a.eval o).run C.P w=.ok (.value (.slice (some ⟨w.heap.size,0,none⟩) 0 m.toNat)) (w.alloc (.cells c e)):=by
  simp only [execOp,ho,bA hs hx,bA hs hy,Sem.run_bind,hrun,Result.andThen_ok,Sem.run_pure]
 rw [hrun']
 simp only [Oper.upon,hd]
 rw [← show (cv (λ i=>Nat.beq i d) ⟨sl,ob⟩).ob=ob' from e1] at hK
 exact ⟨_,_,hp,hK⟩
end
end Go.Ab
end
section
namespace Go.Ab
section
variable {C:Cx} {o:Oper} {K:AS→Prop} {sl:List (Nat×AV)} {ob:List (Nat×List AV)} {d:Nat}
end
end Go.Ab
end
section
namespace Go.Ab
theorem vf {w:World}{g:Gh}{tok sz ty:Nat}{es:List PV}{b off cap:Nat}(h:ARep w g (.vec tok sz ty es) (.slice (some ⟨b,off,none⟩) es.length cap))(hc:es.length+1≤cap) :
  ARep w g (.vecp tok sz ty es) (.slice (some ⟨b,off,none⟩) (es.length+1) cap):=by
 generalize hv:Value.slice (some ⟨b,off,none⟩) es.length cap=v at h
 cases h with
 | vecn=>cases hv
 | vece _ _ a=>injection hv with _ _ h3; omega
 | vec how hb hcs hsz hst hr hty =>
  injection hv with h1 h2 h3
  injection h1 with h1
  injection h1 with h4 h5
  subst h3 h4 h5
  exact .vecp how hb hcs hc hsz hst hr hty
section
variable {C:Cx} {o:Oper} {K:AS→Prop} {sl:List (Nat×AV)} {ob:List (Nat×List AV)} {d:Nat}
theorem jW (ty0:Nat){es ys:List PV}{t tx e:TypeId}{i ie:TI}{y:Operand}(D:Nat→Bool)(hDl:∀ i,D i=true→i < M1)(hDd:D d=true)(hy1:ys.length=1)
  (hi:look C.tt t=some i) (hik:i.k=.slice e) (hie:look C.tt e=some ie)
  (hS:qd C sl ob tx y ie.size ys) (hzl:ie.zero.length=ie.size)
  (hlen:(es.length+ys.length)*ie.bytes≤140737488355328) (hlen':es.length+ys.length≤9223372036854775807)
  {g:Gh} {a:Act} {w:World} (hs:St C.n C.w0 C.F g ⟨sl,ob⟩ a w) (base:Option Addr) (cap:Nat) (olds:List Value)
  (hold:(Builtin.firstCells ie.size es.length (.slice base es.length cap)).run C.P w.drew=.ok olds.toArray w.drew) (hol:olds.length=es.length*ie.size)
  (hes:∀ e,e∈es→e.cells.length=ie.size)
  (hoc:∀ (i:Nat) y (j:Nat) x,es[i]? = some y→y.cells[j]? = some x→x.one=true∧∃ u,olds[i*ie.size+j]? = some u∧PRep w g.st x u)
  (hg:cap < es.length+ys.length) (ty:TypeId) (hn:Nat.blt d C.n=true) (hty:ty0=0∨ty0=e+1) :
  ∃ v w' g',(Builtin.append_ #[t,tx] ty #[.slice base es.length cap,a.eval y]).run C.P w=.ok v w' ∧
   St C.n C.w0 C.F g' ⟨(d,.vecp d ie.size ty0 es)::(cv D ⟨sl,ob⟩).sl,(cv D ⟨sl,ob⟩).ob⟩ (a.put (some d) v) w':=by
 obtain ⟨u,h1,h2⟩:=bb C.good hi
 have h3:=bo (h2.trans hik)
 subst h3
 obtain ⟨info,hf1,hf2,hf3,z,hf4,hf5⟩:=eO C.good hie
 obtain ⟨news,hsrc,hnews⟩:=hS g a w hs
 have hfit:=growslice_fits (bytes:=ie.bytes) hg hlen
 have hrun:=run_append_grow_src w t tx ty e info z h1 hf1 hf4 base es.length cap olds (by rw [hf2]; exact hold) (a.eval y) ys.length news (by rw [hf2]; exact hsrc) hg (by omega) (by rw [hf3]; exact hfit)
 obtain ⟨q,hq⟩:∃ q,q=grownCap w (es.length+ys.length) cap e:=⟨_,rfl⟩
 rw [← hq] at hrun
 have hqn:es.length+ys.length≤q:=by
  rw [hq]; unfold grownCap; simp only [Question.cut]; omega
 have hzs:z.cells.size=ie.size:=by rw [← hzl,← hf5,Array.length_toList]
 obtain ⟨c,hc⟩:∃ c,c=(olds++news).toArray++Builtin.zeroCells z.cells (q - (es.length+ys.length)):=⟨_,rfl⟩
 rw [← hc] at hrun
 have hcs:c.size=q*ie.size:=by
  rw [hc]
  simp only [Array.size_append,List.size_toArray,List.length_append,hol,hsrc.newsLen,size_zeroCells,hzs]
  rw [← Nat.add_mul,← Nat.add_mul]; congr 1; omega
 have hget:∀ m,m < es.length*ie.size→c[m]? = olds[m]?:=by
  intro m hm
  rw [hc,Array.getElem?_append]
  simp only [List.size_toArray,List.length_append,hol,hsrc.newsLen]
  rw [if_pos (by omega),List.getElem?_toArray,List.getElem?_append,hol,if_pos hm]
 have hf:=hs.drew.fresh D hDl d hDd (λ o=>o < es.length*ie.size) c e
 have hv:ARep (w.drew.alloc (.cells c e)) ⟨λ b o=>g.st b o∨(b=w.drew.heap.size∧o < es.length*ie.size),λ i=>if i=d then some w.drew.heap.size else if D i then none else g.ow i⟩
   (.vec d ie.size ty0 es) (.slice (some ⟨w.drew.heap.size,0,none⟩) es.length q):=by
  refine wW (by simp) cW hcs (by omega) hes (λ o=>⟨λ h=>?_,λ h=>.inr ⟨rfl,h⟩⟩) (λ i y j x hy hx=>?_) hty
  ·rcases h with h | h
   ·exact absurd (hs.lt _ _ h) (Nat.lt_irrefl _)
   ·exact h.2
  ·have hev:=iK (w:=w.drew) (T:=λ o=>o < es.length*ie.size) (ob:=.cells c e) hs.drew.lt
   have hcl:=hes y (List.mem_of_getElem? hy)
   have hjl:j < ie.size:=by rw [← hcl]; exact (List.getElem?_eq_some_iff.1 hx).1
   have hil:i < es.length:=(List.getElem?_eq_some_iff.1 hy).1
   have hm1:(i+1)*ie.size≤es.length*ie.size:=Nat.mul_le_mul_right _ (by omega)
   rw [Nat.add_mul] at hm1
   obtain ⟨k1,u,hu,hr⟩:=hoc i y j x hy hx
   refine ⟨k1,u,?_,(PRep.mono (w:=w) (w':=w.drew) (st:=g.st) (st':=g.st) (λ b o h=>⟨h,rfl⟩) hr).mono hev⟩
   rw [hget _ (by omega)]; exact hu
 have hp:=hf.put (d:=some d) (λ t ht=>by cases ht; exact Nat.blt_eq ▸ hn) (vf hv (by omega))
 rw [hy1] at hrun
 exact ⟨_,_,_,hrun,hp⟩
theorem s9 {t tx e:TypeId}{x y:Operand}{k sz ty:Nat}{es:List PV}{ys:List PV}{i ie:TI}(ho:o.op=.call { callee:=.builtin .append,args:=#[x,y],argTypes:=#[t,tx] })(hd:o.dst=some d)(hn:Nat.blt d C.n=true)
  (hi:look C.tt t=some i) (hik:i.k=.slice e) (hie:look C.tt e=some ie) (hx:evo sl x=some (.vec k sz ty es)) (hk:Nat.blt k M1=true) (hiz:ie.size=sz) (hy1:ys.length=1)
  (hS:qd C sl ob tx y ie.size ys) (_hsz:∀ y∈ys,y.cells.length=ie.size) (h0:Nat.blt 0 ie.size=true) (hzl:Nat.beq ie.zero.length ie.size=true)
  (hlen:(es.length+1)*ie.bytes≤140737488355328) (hlen':es.length+1≤9223372036854775807) (hty:(Nat.beq ty 0||Nat.beq ty (e+1))=true)
  (hK:K ⟨(d,.vecp d sz ty es)::(cv (λ i=>Nat.beq i k||Nat.beq i d) ⟨sl,ob⟩).sl,(cv (λ i=>Nat.beq i k||Nat.beq i d) ⟨sl,ob⟩).ob⟩):aU C o K ⟨sl,ob⟩:=by
 subst hiz
 rw [← hy1] at hlen hlen'
 have h0':0 < ie.size:=by simpa using h0
 have hzl':=Nat.eq_of_beq_eq_true hzl
 have hk':k < M1:=Nat.blt_eq ▸ hk
 have hdl:d < M1:=by have h1:=Nat.le_of_ble_eq_true C.nl; have h2:d < C.n:=Nat.blt_eq ▸ hn; omega
 have hty':=xz hty
 have hDl:∀ i,(Nat.beq i k||Nat.beq i d)=true→i < M1:=by
  intro i hi
  simp only [Bool.or_eq_true] at hi
  rcases hi with hi | hi <;> (have:=Nat.eq_of_beq_eq_true hi; omega)
 intro g a w hs
 have hxr:=bp hs hx
 generalize hxv:a.eval x=xv at hxr
 have hrun0:∀ v w',(Builtin.append_ #[t,tx] o.type #[xv,a.eval y]).run C.P w=.ok v w'→(execOp a.eval o).run C.P w=.ok (.value v) w':=by
  intro v w' h
  rw [fj ho]
  simp [builtin,hxv,h]
 cases hxr with
 | vecn =>
  obtain ⟨v,w',g',hr,hst⟩:=jW ty (es:=[]) (λ i=>Nat.beq i k||Nat.beq i d) hDl (by simp) hy1 hi hik hie hS hzl' (by simpa using hlen) (by simpa using hlen') hs none 0 []
   (run_firstCells_none w.drew ie.size 0 0 0) (by simp) (by simp) (by simp) (by simp [hy1]) o.type hn hty'
  unfold Oper.wp
  rw [hrun0 _ _ hr]
  simp only [Oper.upon,hd]
  exact ⟨g',_,hst,hK⟩
 | vece tok sz a0 =>
  obtain ⟨v,w',g',hr,hst⟩:=jW 0 (es:=[]) (λ i=>Nat.beq i k||Nat.beq i d) hDl (by simp) hy1 hi hik hie hS hzl' (by simpa using hlen) (by simpa using hlen') hs (some a0) 0 []
   (run_firstCells_some w.drew ie.size 0 a0 0 0 [] (by simp) (by simp)) (by simp) (by simp) (by simp) (by simp [hy1]) o.type hn hty'
  unfold Oper.wp
  rw [hrun0 _ _ hr]
  simp only [Oper.upon,hd]
  exact ⟨g',_,hst,hK⟩
 | vec how hb hcs hsz' hst hr hty0 =>
  rename_i b off cap c e0
  have hinv:=m8 hsz' hb hr
  have hcapE:es.length≤cap:=by cases hr with | nile _=>exact Nat.le_refl _ | slice _ _ hcap=>exact hcap
  by_cases hroom:es.length+ys.length≤cap
  ·obtain ⟨u,h1,h2⟩:=bb C.good hi
   have h3:=bo (h2.trans hik)
   subst h3
   obtain ⟨info,hf1,hf2,hf3,z,hf4,hf5⟩:=eO C.good hie
   obtain ⟨news,hsrc,hnews⟩:=hS g a w hs
   have hfit:(off+es.length*ie.size)+news.length≤c.size:=by
    rw [hsrc.newsLen,hcs,Nat.add_assoc,← Nat.add_mul]; exact Nat.add_le_add_left (Nat.mul_le_mul_right _ hroom) _
   have hstc:=run_storeCells_at C.P b (off+es.length*ie.size) e0 news 0 c w hb (by simpa using hfit) hsrc.one
   simp only [Nat.add_zero] at hstc
   obtain ⟨c',hc'⟩:∃ c',c'=(c.toList.take (off+es.length*ie.size)++news++c.toList.drop (off+es.length*ie.size+news.length)).toArray:=⟨_,rfl⟩
   rw [← hc'] at hstc
   have hrr:=ka t tx o.type e info h1 hf1 b off es.length cap (a.eval y) ys.length news (by rw [hf2]; exact hsrc) hroom (by rw [hf2]; exact hstc)
   have hcell:∀ j,c'[j]? = if off+es.length*ie.size≤j∧j < off+es.length*ie.size+news.length then news[j - (off+es.length*ie.size)]? else c[j]?:=by
    intro j
    rw [hc']
    have:=ir c.toList news (off+es.length*ie.size) (by simpa using hfit) j
    simpa using this
   have hcs':c'.size=off+cap*ie.size:=by rw [← hcs,hc']; simp; omega
   have hin:=hs.inplace (λ i=>Nat.beq i k||Nat.beq i d) hDl (k:=k) (d:=d) how (by simp) (by simp) hb (c':=c') (hcs'.trans hcs.symm) (λ o h=>by
    have:=(hst o).1 h
    rw [hcell o,if_neg (by omega)]) (λ o=>o < off+es.length*ie.size) (λ o h=>(hst o).1 h)
   have hEv:Ev w g.st (w.setRow b c') (λ b' o=>(b'=b∧o < off+es.length*ie.size)∨(b'≠b∧g.st b' o)):=by
    intro b' o h
    by_cases e:b'=b
    ·subst e
     have h5:=(hst o).1 h
     refine ⟨.inl ⟨rfl,h5⟩,?_⟩
     simp only [World.cell?,hb,setRow_heap w b' c c' _ (0,0) hb]
     have:=hcell o
     rw [if_neg (by omega)] at this
     simpa using this
    ·exact ⟨.inr ⟨e,h⟩,by simp only [World.cell?,setRow_other w b b' c' e]⟩
   have hv:ARep (w.setRow b c') ⟨λ b' o=>(b'=b∧o < off+es.length*ie.size)∨(b'≠b∧g.st b' o),λ i=>if i=d then some b else if (Nat.beq i k||Nat.beq i d) then none else g.ow i⟩
     (.vec d ie.size ty es) (.slice (some ⟨b,off,none⟩) es.length cap):=by
    refine pw (by simp) (setRow_heap w b c c' e0 (0,0) hb) hcs' hcapE hsz' (λ o=>⟨λ h=>?_,λ h=>.inl ⟨rfl,h⟩⟩) (λ i y j x hy hx=>?_) hty0
    ·rcases h with h | h
     ·exact h.2
     ·exact absurd rfl h.1
    ·have hcl:=hsz' y (List.mem_of_getElem? hy)
     have hjl:j < ie.size:=by rw [← hcl]; exact (List.getElem?_eq_some_iff.1 hx).1
     have hil:i < es.length:=(List.getElem?_eq_some_iff.1 hy).1
     obtain ⟨k1,u,hu,hr⟩:=hinv i y j x hy hx
     have hm2:(i+1)*ie.size≤es.length*ie.size:=Nat.mul_le_mul_right _ (by omega)
     rw [Nat.add_mul] at hm2
     refine ⟨k1,u,?_,hr.mono hEv⟩
     rw [hcell,if_neg (by omega)]; exact hu
   have hp:=hin.put (d:=some d) (λ t ht=>by cases ht; exact Nat.blt_eq ▸ hn) (vf hv (by omega))
   rw [hy1] at hrr
   unfold Oper.wp
   rw [hrun0 _ _ hrr]
   simp only [Oper.upon,hd]
   exact ⟨_,_,hp,hK⟩
  ·obtain ⟨olds,hol,hocell⟩:∃ olds:List Value,olds.length=es.length*ie.size∧∀ m,m < es.length*ie.size→olds[m]? = c[off+m]? :=
    ⟨((c.toList.drop off).take (es.length*ie.size)),by
     rw [List.length_take,List.length_drop,show c.toList.length=off+cap*ie.size from Array.length_toList.trans hcs]
     have:=Nat.mul_le_mul_right ie.size hcapE; omega,λ m hm=>by rw [List.getElem?_take,if_pos hm,List.getElem?_drop,Array.getElem?_toList]⟩
   have hold:(Builtin.firstCells ie.size es.length (.slice (some ⟨b,off,none⟩) es.length cap)).run C.P w.drew=.ok olds.toArray w.drew:=by
    refine run_firstCells_some w.drew ie.size es.length ⟨b,off,none⟩ es.length cap olds hol (λ j v hv=>?_)
    have hj:j < es.length*ie.size:=by rw [← hol]; exact (List.getElem?_eq_some_iff.1 hv).1
    rw [add_lit,World.cell?_drew]
    simp only [World.cell?,hb]
    rw [← hocell j hj]; simpa using hv
   obtain ⟨v,w',g',hr',hst'⟩:=jW ty (es:=es) (λ i=>Nat.beq i k||Nat.beq i d) hDl (by simp) hy1 hi hik hie hS hzl' hlen hlen' hs (some ⟨b,off,none⟩) cap olds
    hold hol hsz' (λ i y j x hy hx=>by
     obtain ⟨k1,u,hu,hr⟩:=hinv i y j x hy hx
     have hi:i < es.length:=(List.getElem?_eq_some_iff.1 hy).1
     have hj:j < ie.size:=by rw [← hsz' y (List.mem_of_getElem? hy)]; exact (List.getElem?_eq_some_iff.1 hx).1
     have hm2:(i+1)*ie.size≤es.length*ie.size:=Nat.mul_le_mul_right _ (by omega)
     rw [Nat.add_mul] at hm2
     exact ⟨k1,u,by rw [hocell _ (by omega),← Nat.add_assoc]; exact hu,hr⟩) (by omega) o.type hn hty'
   unfold Oper.wp
   rw [hrun0 _ _ hr']
   simp only [Oper.upon,hd]
   exact ⟨g',_,hst',hK⟩
theorem xT {α:Type}(f:α→PV)(l0:List α){z:PV}{t tx e e':TypeId}{x y:Operand}{k sz ty:Nat}{i ie j:TI}(ho:o.op=.call { callee:=.builtin .append,args:=#[x,y],argTypes:=#[t,tx] })(hd:o.dst=some d)(hn:Nat.blt d C.n=true)
  (hi:look C.tt t=some i) (hik:i.k=.slice e) (hie:look C.tt e=some ie) (hj:look C.tt tx=some j) (hjk:j.k=.slice e') (hx:evo sl x=some (.vec k sz ty (l0.map f))) (hk:Nat.blt k M1=true) (hiz:ie.size=sz)
  (hy:evo sl y=some (.p (eL (λ x:PV=>x) [z]))) (hsz:Nat.beq z.cells.length ie.size=true) (h0:Nat.blt 0 ie.size=true) (hzl:Nat.beq ie.zero.length ie.size=true) (hby:Nat.blt 0 ie.bytes=true)
  (hty:(Nat.beq ty 0||Nat.beq ty (e+1))=true) (hlen:(l0.length+1)*ie.bytes≤140737488355328)
  (hK:K ⟨(d,.vecp d sz ty (l0.map f))::(cv (λ i=>Nat.beq i k||Nat.beq i d) ⟨sl,ob⟩).sl,(cv (λ i=>Nat.beq i k||Nat.beq i d) ⟨sl,ob⟩).ob⟩):aU C o K ⟨sl,ob⟩:=by
 have hby':1≤ie.bytes:=Nat.succ_le_of_lt (by simpa using hby)
 have h1:(l0.length+1)*1≤(l0.length+1)*ie.bytes:=Nat.mul_le_mul_left _ hby'
 have hs':∀ y∈[z],y.cells.length=ie.size:=λ y hy=>by rw [List.mem_singleton.1 hy]; exact Nat.eq_of_beq_eq_true hsz
 exact s9 (ys:=[z]) ho hd hn hi hik hie hx hk hiz rfl (lr hj hjk hy rfl hs' (by simpa using h0)) hs' h0 hzl (by rw [List.length_map]; exact hlen) (by rw [List.length_map]; omega) hty hK
theorem yC {t e:TypeId}{x y:Operand}{i ie:TI}{tok sz ty:Nat}{es:List PV}{k:IntKind}{n:Int}(ho:o.op=.indexAddr t x y)(hd:o.dst=some d)(hn:Nat.blt d C.n=true)
  (hi:look C.tt t=some i) (hik:i.k=.slice e) (hie:look C.tt e=some ie) (hiz:ie.size=sz) (hx:evo sl x=some (.vecp tok sz ty es)) (hy:evo sl y=some (.p (.val (.int k n)))) (hnn:n=(es.length:Int))
  (hK:K ⟨(d,.elp tok sz)::sl,ob⟩):aU C o K ⟨sl,ob⟩:=by
 subst hiz hnn
 obtain ⟨u,h1,h2⟩:=bb C.good hi
 have h3:=bo (h2.trans hik)
 subst h3
 refine ok_one hd hn (λ g a w hs=>?_) hK
 have h5:=bp hs hx
 generalize hv:a.eval x=v at h5
 cases h5 with
 | vecp how hb hcs hcap hsz hst hr hty =>
  rename_i b off cap c e0
  refine ⟨.pointer (some ⟨b,off+es.length*ie.size,none⟩),?_,.elp how hb ?_ hst⟩
  ·have h6:(es.length:Int) < ((es.length+1:Nat):Int):=by omega
   simp [execOp,ho,hv,bA hs hy,Instr.indexAt,asIntOf,run_underlying h1,run_sizeOf C.good hie,add_lit]
  ·rw [hcs]
   have:=Nat.mul_le_mul_right ie.size hcap
   rw [Nat.add_mul,Nat.one_mul] at this
   omega
def upP (tok sz:Nat)(z:PV)(x:AV):AV:=match x with
 | .vecp t s ty es=>bif Nat.beq t tok&&Nat.beq s sz then .vec t s ty (es++[z]) else .undef
 | x=>x.dem (Nat.beq · tok)
def upPS (tok sz:Nat)(z:PV):List (Nat×AV)→Option (List (Nat×AV))
 | []=>some []
 | (i,x)::r=>(match frc (upP tok sz z x) with
  | some y=>(match upPS tok sz z r with | some l=>some ((i,y)::l) | none=>none)
  | none=>none)
def yw (tok sz:Nat)(z:PV):List AV→Option (List AV)
 | []=>some []
 | x::r=>(match frc (upP tok sz z x) with
  | some y=>(match yw tok sz z r with | some l=>some (y::l) | none=>none)
  | none=>none)
theorem u4 {tok sz:Nat}{z:PV}:∀ {l l':List AV},yw tok sz z l=some l'→l'=l.map (upP tok sz z)
 | [],l',h=>by cases h; rfl
 | x::r,l',h=>by
  unfold yw at h
  split at h
  ·rename_i y hy
   split at h
   ·rename_i m hm; cases h; rw [uy hy,u4 hm]; rfl
   ·cases h
  ·cases h
def x8 (tok sz:Nat)(z:PV):List (Nat×List AV)→Option (List (Nat×List AV))
 | []=>some []
 | (i,cs)::r=>(match Nat.beq i tok with
  | true=>x8 tok sz z r
  | false=>(match yw tok sz z cs with
   | some ds=>(match x8 tok sz z r with | some l=>some ((i,ds)::l) | none=>none)
   | none=>none))
theorem nO {tok sz:Nat}{z:PV}:∀ {l l':List (Nat×List AV)},x8 tok sz z l=some l'→∀ id cs,look l' id=some cs→id≠tok∧∃ ds,look l id=some ds∧cs=ds.map (upP tok sz z)
 | [],l',h,id,cs,hc=>by cases h; cases hc
 | (i,xs)::r,l',h,id,cs,hc=>by
  unfold x8 at h
  split at h
  ·rename_i hb
   obtain ⟨h1,ds,h2,h3⟩:=nO h id cs hc
   have hi:=Nat.eq_of_beq_eq_true hb
   refine ⟨h1,ds,?_,h3⟩
   rw [aQ,if_neg (λ e'=>h1 (by omega))]
   exact h2
  ·rename_i hb
   have hi:i≠tok:=λ e=>by subst e; simp at hb
   split at h
   ·rename_i ds hds
    split at h
    ·rename_i m hm
     cases h
     rw [aQ] at hc ⊢
     by_cases e1:i=id
     ·subst e1
      rw [if_pos rfl] at hc ⊢
      cases hc
      exact ⟨hi,xs,rfl,u4 hds⟩
     ·rw [if_neg e1] at hc ⊢
      exact nO hm id cs hc
    ·cases h
   ·cases h
theorem zB {t:TypeId}{x v:Operand}{i:TI}{tok sz:Nat}{z:PV}{Y:AV}{sl':List (Nat×AV)}{ob':List (Nat×List AV)}(ho:o.op=.store t x v)(hd:o.dst=none)
  (hi:look C.tt t=some i) (hiz:i.size=sz) (hx:evo sl x=some (.elp tok sz)) (hv:evo sl v=some Y) (hY:Y.sub (.p z)) (hc:(AV.p z).cellsA=some (z.cells.map .p)) (hcl:Nat.beq z.cells.length sz=true) (htok:Nat.blt tok M1=true)
  (h1:sl'=sl.map λ p=>(p.1,upP tok sz z p.2)) (h2:x8 tok sz z ob=some ob') (hK:K ⟨sl',ob'⟩):aU C o K ⟨sl,ob⟩:=by
 subst hiz h1
 have htl:tok < M1:=Nat.blt_eq ▸ htok
 have hcl':=Nat.eq_of_beq_eq_true hcl
 intro g a w hs
 have h5:=bp hs hx
 have h6:ARep w g (.p z) (a.eval v):=hY _ _ _ (bp hs hv)
 obtain ⟨hs1,hs2⟩:=iS hc h6
 rw [List.length_map] at hs1
 generalize hev:a.eval x=u at h5
 cases h5 with
 | elp how k2 hp hst =>
  rename_i b p c e
  have hone:∀ u∈(a.eval v).cells.toList,u.oneCell'=true:=by
   intro u hu
   obtain ⟨j,hj,rfl⟩:=List.getElem_of_mem hu
   simp only [Array.length_toList] at hj
   exact (hs2 j ((z.cells.map AV.p)[j]'(by simp; omega)) _ (List.getElem?_eq_getElem (by simp; omega)) (by simp [hj])).2
  have hstc:=run_storeCells_at C.P b p e (a.eval v).cells.toList 0 c w k2 (by simp; omega) hone
  simp only [Nat.add_zero,Array.length_toList] at hstc
  obtain ⟨c',hc'⟩:∃ c',c'=(c.toList.take p++(a.eval v).cells.toList++c.toList.drop (p+(a.eval v).cells.size)).toArray:=⟨_,rfl⟩
  rw [← hc'] at hstc
  have hsz':=run_sizeOf C.good hi w
  have hne:(a.eval v).cells.size=i.size:=hs1.trans hcl'
  unfold Oper.wp
  have hrun:(execOp a.eval o).run C.P w=.ok .skip (w.setRow b c'):=by
   simp [execOp,ho,hev,Instr.storeAt,Instr.sureAddr,storeVar,hsz',hne,hstc]
  rw [hrun]
  simp only [Oper.upon,hd,Act.put]
  have hcell:∀ j,c'[j]? = if p≤j∧j < p+i.size then (a.eval v).cells[j - p]? else c[j]?:=by
   intro j
   rw [hc']
   have:=ir c.toList (a.eval v).cells.toList p (by simp; omega) j
   simp only [Array.length_toList,Array.getElem?_toList,hne] at this
   simpa [hne] using this
  have hsize':c'.size=c.size:=by
   rw [hc']; simp; omega
  obtain ⟨g',hg'⟩:∃ g':Gh,g'=⟨λ b' o=>(b'=b∧o < p+i.size)∨(b'≠b∧g.st b' o),g.ow⟩:=⟨_,rfl⟩
  have hst':∀ b' o,g'.st b' o↔(b'=b∧o < p+i.size)∨(b'≠b∧g.st b' o):=λ b' o=>by rw [hg']
  have how':g'.ow=g.ow:=by rw [hg']
  have hev':Ev w g.st (w.setRow b c') g'.st:=by
   intro b2 o2 h2
   by_cases e1:b2=b
   ·subst e1
    have:=(hst o2).1 h2
    refine ⟨(hst' _ _).2 (.inl ⟨rfl,by omega⟩),?_⟩
    simp only [World.cell?,k2,setRow_heap w b2 c c' e (0,0) k2]
    have h7:=hcell o2
    rw [if_neg (by omega)] at h7
    simpa using h7
   ·exact ⟨(hst' _ _).2 (.inr ⟨e1,h2⟩),by simp only [World.cell?,setRow_other w b b2 c' e1]⟩
  have hnb:∀ id b2,Nat.beq id tok=false→g.ow id=some b2→b2≠b:=λ id b2 hD h e=>by
   subst e
   have:=hs.inj id tok b2 h how
   subst this
   simp at hD
  have hE:EvO (Nat.beq · tok) w g (w.setRow b c') g':=by
   refine ⟨hev',λ id b2 _ h=>by rw [how']; exact h,λ id b2 c2 e2 hD h h2=>⟨c2,(setRow_other w b b2 c' (hnb id b2 hD h)).trans h2,rfl⟩,λ id b2 o2 hD h h3=>?_,λ id b2 es2 k2' hD h h2=>(setRow_other w b b2 c' (hnb id b2 hD h)).trans h2,λ i hi=>?_,λ id b2 o2 hD h _=>setRow_other w b b2 c' (hnb id b2 hD h)⟩
   ·rcases (hst' _ _).1 h3 with h4 | h4
    ·exact absurd h4.1 (hnb id b2 hD h)
    ·exact h4.2
   ·cases hq:Nat.beq i tok
    ·rfl
    ·have:=Nat.eq_of_beq_eq_true hq; have:=rk hi; omega
  have hup:∀ {y:AV} {u:Value},ARep w g y u→ARep (w.setRow b c') g' (upP tok i.size z y) u:=by
   intro y u h
   unfold upP
   split
   ·rename_i t s ty es
    cases hq:(Nat.beq t tok&&Nat.beq s i.size)
    ·exact .undef _
    ·simp only [Bool.and_eq_true] at hq
     have e1:=Nat.eq_of_beq_eq_true hq.1
     have e2:=Nat.eq_of_beq_eq_true hq.2
     subst e1 e2
     rw [cond_true]
     cases h with
     | vecp how2 hb2 hcs2 hcap2 hsz2 hst2 hr2 hty2 =>
      rename_i b2 off cap c2 e2
      rw [how] at how2; cases how2
      rw [k2] at hb2; cases hb2
      have hpo:p=off+es.length*i.size:=by
       rcases Nat.lt_trichotomy p (off+es.length*i.size) with h7 | h7 | h7
       ·have:=(hst p).1 ((hst2 p).2 h7); omega
       ·exact h7
       ·have:=(hst2 (off+es.length*i.size)).1 ((hst _).2 h7); omega
      have hinv:=m8 hsz2 k2 hr2
      have hlen:(es++[z]).length=es.length+1:=by simp
      have:=pw (w:=w.setRow b c') (g:=g') (tok:=t) (es:=es++[z]) (cap:=cap) (by rw [how']; exact how) (setRow_heap w b c c' e (0,0) k2) (hsize'.trans hcs2) (by rw [hlen]; exact hcap2) (λ x hx=>by
       rcases List.mem_append.1 hx with hx | hx
       ·exact hsz2 x hx
       ·rw [List.mem_singleton.1 hx]; exact hcl') (λ o=>by
       rw [hst',hlen,Nat.add_mul,Nat.one_mul]
       exact ⟨λ h=>h.elim (λ h=>by omega) (λ h=>absurd rfl h.1),λ h=>.inl ⟨rfl,by omega⟩⟩) (λ k y j x hy hx=>?_) hty2
      ·rw [hlen] at this; exact this
      ·have hcl2:y.cells.length=i.size:=by
        rcases List.mem_append.1 (List.mem_of_getElem? hy) with hx | hx
        ·exact hsz2 y hx
        ·rw [List.mem_singleton.1 hx]; exact hcl'
       have hjl:j < i.size:=by rw [← hcl2]; exact (List.getElem?_eq_some_iff.1 hx).1
       rw [List.getElem?_append] at hy
       split at hy
       ·rename_i hlt
        obtain ⟨q1,u,hu,hr⟩:=hinv k y j x hy hx
        have hm2:(k+1)*i.size≤es.length*i.size:=Nat.mul_le_mul_right _ (by omega)
        rw [Nat.add_mul] at hm2
        refine ⟨q1,u,?_,hr.mono hev'⟩
        rw [hcell,if_neg (by omega)]; exact hu
       ·rename_i hge
        have hk0:k - es.length=0:=by
         have:=(List.getElem?_eq_some_iff.1 hy).1
         simp at this; omega
        rw [hk0] at hy
        simp only [List.getElem?_cons_zero,Option.some.injEq] at hy
        subst hy
        have hke:k=es.length:=by omega
        subst hke
        have hjc:j < (a.eval v).cells.size:=by omega
        have h8:=hs2 j (.p x) _ (by simp [hx]) (Array.getElem?_eq_getElem hjc)
        refine ⟨?_,(a.eval v).cells[j],?_,?_⟩
        ·have h9:PV.onesB z.cells=true∨z.one=true:=by
          cases z with
          | agg cs =>
           simp only [AV.cellsA] at hc
           cases ho:PV.onesB cs
           ·rw [ho] at hc; cases hc
           ·exact .inl ho
          | val _ =>
           simp only [AV.cellsA] at hc
           rename_i v0
           cases ho:v0.oneCell'
           ·rw [ho] at hc; cases hc
           ·exact .inr ho
          | slice _=>exact .inr rfl
          | ifc=>exact .inr rfl
          | aint _=>exact .inr rfl
         rcases h9 with h9 | h9
         ·exact eW h9 x (List.mem_of_getElem? hx)
         ·have:z.cells=[z]:=by cases z <;> first | rfl | (simp [PV.one] at h9)
          rw [this] at hx
          have:=(List.getElem?_eq_some_iff.1 hx).1
          simp at this
          subst this
          simp at hx
          rw [← hx]; exact h9
        ·rw [hcell,if_pos ⟨by omega,by omega⟩,hpo]
         rw [show off+es.length*i.size+j - (off+es.length*i.size)=j by omega]
         exact Array.getElem?_eq_getElem hjc
        ·cases h8.1 with
         | p hr=>exact hr.mono hev'
   ·exact h.dem hE
  refine ⟨g',⟨sl.map λ p=>(p.1,upP tok i.size z p.2),ob'⟩,?_,hK⟩
  refine ⟨hs.nd,hs.sz,λ j=>?_,λ id' cs' h'=>?_,by rw [how']; exact hs.inj,λ j b2 h=>?_,λ b2 o2 h=>?_,hs.fl,λ b2 h=>?_,hs.os,hs.out,hs.tape,?_,λ b2 h o2=>?_,by rw [how']; exact hs.owf,hs.shf.next (λ _ b c e _ _ h=>(mj k2 hsize').1 b c e h),λ j b2 hj h o2 h3=>?_,hs.ev0.trans hev'⟩
  ·have h:=hs.sl j
   simp only [AS.get,g5]
   simp only [AS.get] at h
   cases hl:look sl j with
   | none=>simp only [Option.map_none,Option.getD_none]; exact .undef _
   | some x=>rw [hl] at h; simpa using hup h
  ·obtain ⟨hne',ds,m1,rfl⟩:=nO h2 id' cs' h'
   obtain ⟨b2,c2,e2,n1,n2,n3,n4,n5⟩:=hs.ob id' ds m1
   have hD:Nat.beq id' tok=false:=by
    cases hq:Nat.beq id' tok
    ·rfl
    ·exact absurd (Nat.eq_of_beq_eq_true hq) hne'
   have hb2:=hnb id' b2 hD n1
   refine ⟨b2,c2,e2,by rw [how']; exact n1,(setRow_other w b b2 c' hb2).trans n2,by simpa using n3,λ o2 h3=>?_,λ j y hy=>?_⟩
   ·rcases (hst' _ _).1 h3 with h4 | h4
    ·exact hb2 h4.1
    ·exact n4 o2 h4.2
   ·simp only [List.getElem?_map,Option.map_eq_some_iff] at hy
    obtain ⟨y0,hy0,rfl⟩:=hy
    obtain ⟨u,hu,hr⟩:=n5 j y0 hy0
    exact ⟨u,hu,hup hr⟩
  ·rw [how'] at h
   have:=hs.own j b2 h; exact ⟨by simpa using this.1,this.2⟩
  ·rcases (hst' _ _).1 h with h4 | h4
   ·have:=(hs.own tok b how).1; rw [h4.1]; simpa using this
   ·have:=hs.lt b2 o2 h4.2; simpa using this
  ·have hne:b2≠b:=λ e=>(hs.own tok b how).2 (e ▸ h)
   exact (setRow_other w b b2 c' hne).trans (hs.fr b2 h)
  ·have:=hs.size; simpa using this
  ·have hne:b2≠b:=λ e=>(hs.own tok b how).2 (e ▸ h)
   exact ⟨λ h3=>by
    rcases (hst' _ _).1 h3 with h4 | h4
    ·exact absurd h4.1 hne
    ·exact (hs.stf b2 h o2).1 h4.2,λ h3=>(hst' _ _).2 (.inr ⟨hne,(hs.stf b2 h o2).2 h3⟩)⟩
  ·rcases (hst' _ _).1 h3 with h4 | h4
   ·have h7:g.ow j=some b2:=(hs.owf j hj (C.w0.lo j b2 h)).trans h
    have:=hs.inj j tok b2 h7 (by rw [h4.1]; exact how)
    omega
   ·exact hs.nst j b2 hj h o2 h4.2
end
end Go.Ab
end
section
namespace Go.Ab
open Go.Proofs Go.Ab
attribute [local irreducible] awp eQ aU au bH iZ AV.sub
theorem iG (l:List Bytes)(hlen:l.length*16≤140737488355328):au Tryz.prog 72 [eL eS l] (·=.p (eL eS l)):=by
  refine aH good Tryz.func72 rfl rfl rfl λ w0=>?_
  refine cB ?_
  refine dK ?_
  refine bq rfl ?_
  refine bw rfl rfl rfl rfl ?_
  refine cO ?_
  (repeat (first | refine aS ?_ | refine a6 ?_ | refine bP ?_ | refine aX rfl ?_ | refine bL ?_ | refine aP ?_ | refine aR ?_ | refine aD ?_ | refine aK ?_ | refine aG rfl ?_ | refine noGoto_ret ?_ | refine noGoto_exit ?_ | refine noGoto_normal ?_))
  refine cB ?_
  refine cB ?_
  refine dK ?_
  refine bq rfl ?_
  refine aI rfl rfl rfl rfl ?_
  refine bq rfl ?_
  refine kP rfl rfl rfl rfl rfl rfl rfl rfl (λ b hb=>?_)
  refine cO ?_
  (repeat (first | refine aS ?_ | refine a6 ?_ | refine bP ?_ | refine aX rfl ?_ | refine bL ?_ | refine aP ?_ | refine aR ?_ | refine aD ?_ | refine aK ?_ | refine aG rfl ?_ | refine noGoto_ret ?_ | refine noGoto_exit ?_ | refine noGoto_normal ?_))
  refine sY rfl (λ hc=>?_) (λ hc=>?_)
  · have he:l=[]:=by simpa using hb hc
    subst he
    refine cB ?_
    refine dK ?_
    refine bq rfl ?_
    refine bw rfl rfl rfl rfl ?_
    refine cO ?_
    (repeat (first | refine aS ?_ | refine a6 ?_ | refine bP ?_ | refine aX rfl ?_ | refine bL ?_ | refine aP ?_ | refine aR ?_ | refine aD ?_ | refine aK ?_ | refine aG rfl ?_ | refine noGoto_ret ?_ | refine noGoto_exit ?_ | refine noGoto_normal ?_))
    refine iz ?_
    (repeat (first | refine aS ?_ | refine a6 ?_ | refine bP ?_ | refine aX rfl ?_ | refine bL ?_ | refine aP ?_ | refine aR ?_ | refine aD ?_ | refine aK ?_ | refine aG rfl ?_ | refine noGoto_ret ?_ | refine noGoto_exit ?_ | refine noGoto_normal ?_))
    refine nr rfl ?_
    exact dm _
  · skip
    refine kd ?_
    (repeat (first | refine aS ?_ | refine a6 ?_ | refine bP ?_ | refine aX rfl ?_ | refine bL ?_ | refine aP ?_ | refine aR ?_ | refine aD ?_ | refine aK ?_ | refine aG rfl ?_ | refine noGoto_ret ?_ | refine noGoto_exit ?_ | refine noGoto_normal ?_))
    refine cB ?_
    refine dK ?_
    refine bq rfl ?_
    refine m6 rfl rfl rfl rfl rfl rfl rfl 5 1 ?_
    refine bq rfl ?_
    refine aI rfl rfl rfl rfl ?_
    refine bq rfl ?_
    refine dl eS [] l rfl rfl rfl rfl rfl rfl rfl rfl rfl rfl rfl rfl rfl (λ _=>rfl) rfl rfl rfl rfl (by simpa using hlen) ?_
    refine bq rfl ?_
    refine bw rfl rfl rfl rfl ?_
    refine cO ?_
    (repeat (first | refine aS ?_ | refine a6 ?_ | refine bP ?_ | refine aX rfl ?_ | refine bL ?_ | refine aP ?_ | refine aR ?_ | refine aD ?_ | refine aK ?_ | refine aG rfl ?_ | refine noGoto_ret ?_ | refine noGoto_exit ?_ | refine noGoto_normal ?_))
    refine iz ?_
    (repeat (first | refine aS ?_ | refine a6 ?_ | refine bP ?_ | refine aX rfl ?_ | refine bL ?_ | refine aP ?_ | refine aR ?_ | refine aD ?_ | refine aK ?_ | refine aG rfl ?_ | refine noGoto_ret ?_ | refine noGoto_exit ?_ | refine noGoto_normal ?_))
    refine nr rfl ?_
    exact AV.sub_vec _ _ _ _
theorem il (l:List Bytes)(hlen:l.length*16≤140737488355328):bH Tryz.prog 72 [.p (eL eS l)] [] (λ x y=>x=.vec 2000000 1 0 (l.map eS)∧y=[]):=by
  refine hH good [800000] [] Tryz.func72 rfl rfl rfl rfl rfl λ w0 F=>?_
  refine cB ?_
  refine dK ?_
  refine bq rfl ?_
  refine bw rfl rfl rfl rfl ?_
  refine cO ?_
  (repeat (first | refine aS ?_ | refine a6 ?_ | refine bP ?_ | refine aX rfl ?_ | refine bL ?_ | refine aP ?_ | refine aR ?_ | refine aD ?_ | refine aK ?_ | refine aG rfl ?_ | refine noGoto_ret ?_ | refine noGoto_exit ?_ | refine noGoto_normal ?_))
  refine cB ?_
  refine cB ?_
  refine dK ?_
  refine bq rfl ?_
  refine aI rfl rfl rfl rfl ?_
  refine bq rfl ?_
  refine kP rfl rfl rfl rfl rfl rfl rfl rfl (λ b hb=>?_)
  refine cO ?_
  (repeat (first | refine aS ?_ | refine a6 ?_ | refine bP ?_ | refine aX rfl ?_ | refine bL ?_ | refine aP ?_ | refine aR ?_ | refine aD ?_ | refine aK ?_ | refine aG rfl ?_ | refine noGoto_ret ?_ | refine noGoto_exit ?_ | refine noGoto_normal ?_))
  refine sY rfl (λ hc=>?_) (λ hc=>?_)
  · have he:l=[]:=by simpa using hb hc
    subst he
    refine cB ?_
    refine dK ?_
    refine bq rfl ?_
    refine bw rfl rfl rfl rfl ?_
    refine cO ?_
    (repeat (first | refine aS ?_ | refine a6 ?_ | refine bP ?_ | refine aX rfl ?_ | refine bL ?_ | refine aP ?_ | refine aR ?_ | refine aD ?_ | refine aK ?_ | refine aG rfl ?_ | refine noGoto_ret ?_ | refine noGoto_exit ?_ | refine noGoto_normal ?_))
    refine iz ?_
    (repeat (first | refine aS ?_ | refine a6 ?_ | refine bP ?_ | refine aX rfl ?_ | refine bL ?_ | refine aP ?_ | refine aR ?_ | refine aD ?_ | refine aK ?_ | refine aG rfl ?_ | refine noGoto_ret ?_ | refine noGoto_exit ?_ | refine noGoto_normal ?_))
    exact lX (bu _) rfl rfl rfl rfl (AV.sub_nilvec _ _ _) trivial
  · skip
    refine kd ?_
    (repeat (first | refine aS ?_ | refine a6 ?_ | refine bP ?_ | refine aX rfl ?_ | refine bL ?_ | refine aP ?_ | refine aR ?_ | refine aD ?_ | refine aK ?_ | refine aG rfl ?_ | refine noGoto_ret ?_ | refine noGoto_exit ?_ | refine noGoto_normal ?_))
    refine cB ?_
    refine dK ?_
    refine bq rfl ?_
    refine m6 rfl rfl rfl rfl rfl rfl rfl 5 1 ?_
    refine bq rfl ?_
    refine aI rfl rfl rfl rfl ?_
    refine bq rfl ?_
    refine dl eS [] l rfl rfl rfl rfl rfl rfl rfl rfl rfl rfl rfl rfl rfl (λ _=>rfl) rfl rfl rfl rfl (by simpa using hlen) ?_
    refine bq rfl ?_
    refine bw rfl rfl rfl rfl ?_
    refine cO ?_
    (repeat (first | refine aS ?_ | refine a6 ?_ | refine bP ?_ | refine aX rfl ?_ | refine bL ?_ | refine aP ?_ | refine aR ?_ | refine aD ?_ | refine aK ?_ | refine aG rfl ?_ | refine noGoto_ret ?_ | refine noGoto_exit ?_ | refine noGoto_normal ?_))
    refine iz ?_
    (repeat (first | refine aS ?_ | refine a6 ?_ | refine bP ?_ | refine aX rfl ?_ | refine bL ?_ | refine aP ?_ | refine aR ?_ | refine aD ?_ | refine aK ?_ | refine aG rfl ?_ | refine noGoto_ret ?_ | refine noGoto_exit ?_ | refine noGoto_normal ?_))
    exact lX (bf 7 800000 rfl rfl rfl rfl rfl) rfl rfl rfl rfl (AV.sub_refl _) trivial
theorem fO (l:List ab)(h:l.isEmpty=true):au Tryz.prog 73 [eL ah l] (·=.p (eL ah [])):=by
  obtain rfl:l=[]:=by simpa using h
  refine aH good Tryz.func73 rfl rfl rfl λ w0=>?_
  refine cB ?_
  refine dK ?_
  refine bq rfl ?_
  refine bw rfl rfl rfl rfl ?_
  refine cO ?_
  (repeat (first | refine aS ?_ | refine a6 ?_ | refine bP ?_ | refine aX rfl ?_ | refine bL ?_ | refine aP ?_ | refine aR ?_ | refine aD ?_ | refine aK ?_ | refine aG rfl ?_ | refine noGoto_ret ?_ | refine noGoto_exit ?_ | refine noGoto_normal ?_))
  refine cB ?_
  refine cB ?_
  refine dK ?_
  refine bq rfl ?_
  refine aI rfl rfl rfl rfl ?_
  refine bq rfl ?_
  refine kP rfl rfl rfl rfl rfl rfl rfl rfl (λ b hb=>?_)
  refine cO ?_
  (repeat (first | refine aS ?_ | refine a6 ?_ | refine bP ?_ | refine aX rfl ?_ | refine bL ?_ | refine aP ?_ | refine aR ?_ | refine aD ?_ | refine aK ?_ | refine aG rfl ?_ | refine noGoto_ret ?_ | refine noGoto_exit ?_ | refine noGoto_normal ?_))
  refine sY rfl (λ hc=>?_) (λ hc=>?_)
  · skip
    refine cB ?_
    refine dK ?_
    refine bq rfl ?_
    refine bw rfl rfl rfl rfl ?_
    refine cO ?_
    (repeat (first | refine aS ?_ | refine a6 ?_ | refine bP ?_ | refine aX rfl ?_ | refine bL ?_ | refine aP ?_ | refine aR ?_ | refine aD ?_ | refine aK ?_ | refine aG rfl ?_ | refine noGoto_ret ?_ | refine noGoto_exit ?_ | refine noGoto_normal ?_))
    refine iz ?_
    (repeat (first | refine aS ?_ | refine a6 ?_ | refine bP ?_ | refine aX rfl ?_ | refine bL ?_ | refine aP ?_ | refine aR ?_ | refine aD ?_ | refine aK ?_ | refine aG rfl ?_ | refine noGoto_ret ?_ | refine noGoto_exit ?_ | refine noGoto_normal ?_))
    refine nr rfl ?_
    exact dm _
  · skip
    refine kd ?_
    (repeat (first | refine aS ?_ | refine a6 ?_ | refine bP ?_ | refine aX rfl ?_ | refine bL ?_ | refine aP ?_ | refine aR ?_ | refine aD ?_ | refine aK ?_ | refine aG rfl ?_ | refine noGoto_ret ?_ | refine noGoto_exit ?_ | refine noGoto_normal ?_))
    refine cB ?_
    refine dK ?_
    refine bq rfl ?_
    refine m6 rfl rfl rfl rfl rfl rfl rfl 5 5 ?_
    refine bq rfl ?_
    refine aI rfl rfl rfl rfl ?_
    refine bq rfl ?_
    refine dl ah [] [] rfl rfl rfl rfl rfl rfl rfl rfl rfl rfl rfl rfl rfl (λ x=>congrArg List.length (ab.cells_eq x)) rfl rfl rfl rfl (by decide) ?_
    refine bq rfl ?_
    refine bw rfl rfl rfl rfl ?_
    refine cO ?_
    (repeat (first | refine aS ?_ | refine a6 ?_ | refine bP ?_ | refine aX rfl ?_ | refine bL ?_ | refine aP ?_ | refine aR ?_ | refine aD ?_ | refine aK ?_ | refine aG rfl ?_ | refine noGoto_ret ?_ | refine noGoto_exit ?_ | refine noGoto_normal ?_))
    refine iz ?_
    (repeat (first | refine aS ?_ | refine a6 ?_ | refine bP ?_ | refine aX rfl ?_ | refine bL ?_ | refine aP ?_ | refine aR ?_ | refine aD ?_ | refine aK ?_ | refine aG rfl ?_ | refine noGoto_ret ?_ | refine noGoto_exit ?_ | refine noGoto_normal ?_))
    refine nr rfl ?_
    exact AV.sub_vec _ _ _ _
theorem fR (l:List ab)(h:l.isEmpty=false)(hlen:l.length*80≤140737488355328):bH Tryz.prog 73 [.p (eL ah l)] [] (λ x y=>x=.arr 2000000 5 0 l.length∧y=[(2000000,i6 ah l)]):=by
  refine hH good [800000] [800000] Tryz.func73 rfl rfl rfl rfl rfl λ w0 F=>?_
  refine cB ?_
  refine dK ?_
  refine bq rfl ?_
  refine bw rfl rfl rfl rfl ?_
  refine cO ?_
  (repeat (first | refine aS ?_ | refine a6 ?_ | refine bP ?_ | refine aX rfl ?_ | refine bL ?_ | refine aP ?_ | refine aR ?_ | refine aD ?_ | refine aK ?_ | refine aG rfl ?_ | refine noGoto_ret ?_ | refine noGoto_exit ?_ | refine noGoto_normal ?_))
  refine cB ?_
  refine cB ?_
  refine dK ?_
  refine bq rfl ?_
  refine aI rfl rfl rfl rfl ?_
  refine bq rfl ?_
  refine kP rfl rfl rfl rfl rfl rfl rfl rfl (λ b hb=>?_)
  refine cO ?_
  (repeat (first | refine aS ?_ | refine a6 ?_ | refine bP ?_ | refine aX rfl ?_ | refine bL ?_ | refine aP ?_ | refine aR ?_ | refine aD ?_ | refine aK ?_ | refine aG rfl ?_ | refine noGoto_ret ?_ | refine noGoto_exit ?_ | refine noGoto_normal ?_))
  refine sY rfl (λ hc=>?_) (λ hc=>?_)
  · have he:l=[]:=by simpa using hb hc
    subst he
    cases h
  · skip
    refine kd ?_
    (repeat (first | refine aS ?_ | refine a6 ?_ | refine bP ?_ | refine aX rfl ?_ | refine bL ?_ | refine aP ?_ | refine aR ?_ | refine aD ?_ | refine aK ?_ | refine aG rfl ?_ | refine noGoto_ret ?_ | refine noGoto_exit ?_ | refine noGoto_normal ?_))
    refine cB ?_
    refine dK ?_
    refine bq rfl ?_
    refine vV rfl rfl rfl rfl rfl rfl 5 ?_
    refine bq rfl ?_
    refine aI rfl rfl rfl rfl ?_
    refine bq rfl ?_
    refine zc ah [] l rfl rfl rfl rfl rfl rfl rfl rfl rfl rfl rfl rfl rfl rfl rfl (λ x=>congrArg List.length (ab.cells_eq x)) rfl rfl rfl (by simpa using hlen) ?_
    refine bq rfl ?_
    refine bw rfl rfl rfl rfl ?_
    refine cO ?_
    (repeat (first | refine aS ?_ | refine a6 ?_ | refine bP ?_ | refine aX rfl ?_ | refine bL ?_ | refine aP ?_ | refine aR ?_ | refine aD ?_ | refine aK ?_ | refine aG rfl ?_ | refine noGoto_ret ?_ | refine noGoto_exit ?_ | refine noGoto_normal ?_))
    refine iz ?_
    (repeat (first | refine aS ?_ | refine a6 ?_ | refine bP ?_ | refine aX rfl ?_ | refine bL ?_ | refine aP ?_ | refine aR ?_ | refine aD ?_ | refine aK ?_ | refine aG rfl ?_ | refine noGoto_ret ?_ | refine noGoto_exit ?_ | refine noGoto_normal ?_))
    exact lX (bf 7 800000 rfl rfl rfl rfl (nX rfl (lM _) rfl)) rfl rfl rfl (nX rfl (lM _) rfl) (AV.sub_of_eq (congrArg (AV.arr 2000000 5 0) (by simp))) ⟨⟨_,rfl,eV _⟩,trivial⟩
theorem eP (l:List aa)(hlen:l.length*32≤140737488355328):bH Tryz.prog 85 [.p (eL ae l)] [] (λ x y=>x=.vec 2000000 3 0 (l.map ae)∧y=[]):=by
  refine hH good [800000] [] Tryz.func85 rfl rfl rfl rfl rfl λ w0 F=>?_
  refine cB ?_
  refine dK ?_
  refine bq rfl ?_
  refine bw rfl rfl rfl rfl ?_
  refine cO ?_
  (repeat (first | refine aS ?_ | refine a6 ?_ | refine bP ?_ | refine aX rfl ?_ | refine bL ?_ | refine aP ?_ | refine aR ?_ | refine aD ?_ | refine aK ?_ | refine aG rfl ?_ | refine noGoto_ret ?_ | refine noGoto_exit ?_ | refine noGoto_normal ?_))
  refine cB ?_
  refine cB ?_
  refine dK ?_
  refine bq rfl ?_
  refine aI rfl rfl rfl rfl ?_
  refine bq rfl ?_
  refine kP rfl rfl rfl rfl rfl rfl rfl rfl (λ b hb=>?_)
  refine cO ?_
  (repeat (first | refine aS ?_ | refine a6 ?_ | refine bP ?_ | refine aX rfl ?_ | refine bL ?_ | refine aP ?_ | refine aR ?_ | refine aD ?_ | refine aK ?_ | refine aG rfl ?_ | refine noGoto_ret ?_ | refine noGoto_exit ?_ | refine noGoto_normal ?_))
  refine sY rfl (λ hc=>?_) (λ hc=>?_)
  · have he:l=[]:=by simpa using hb hc
    subst he
    refine cB ?_
    refine dK ?_
    refine bq rfl ?_
    refine bw rfl rfl rfl rfl ?_
    refine cO ?_
    (repeat (first | refine aS ?_ | refine a6 ?_ | refine bP ?_ | refine aX rfl ?_ | refine bL ?_ | refine aP ?_ | refine aR ?_ | refine aD ?_ | refine aK ?_ | refine aG rfl ?_ | refine noGoto_ret ?_ | refine noGoto_exit ?_ | refine noGoto_normal ?_))
    refine iz ?_
    (repeat (first | refine aS ?_ | refine a6 ?_ | refine bP ?_ | refine aX rfl ?_ | refine bL ?_ | refine aP ?_ | refine aR ?_ | refine aD ?_ | refine aK ?_ | refine aG rfl ?_ | refine noGoto_ret ?_ | refine noGoto_exit ?_ | refine noGoto_normal ?_))
    exact lX (bu _) rfl rfl rfl rfl (AV.sub_nilvec _ _ _) trivial
  · skip
    refine kd ?_
    (repeat (first | refine aS ?_ | refine a6 ?_ | refine bP ?_ | refine aX rfl ?_ | refine bL ?_ | refine aP ?_ | refine aR ?_ | refine aD ?_ | refine aK ?_ | refine aG rfl ?_ | refine noGoto_ret ?_ | refine noGoto_exit ?_ | refine noGoto_normal ?_))
    refine cB ?_
    refine dK ?_
    refine bq rfl ?_
    refine m6 rfl rfl rfl rfl rfl rfl rfl 5 3 ?_
    refine bq rfl ?_
    refine aI rfl rfl rfl rfl ?_
    refine bq rfl ?_
    refine dl ae [] l rfl rfl rfl rfl rfl rfl rfl rfl rfl rfl rfl rfl rfl (λ x=>congrArg List.length (aa.cells_eq x)) rfl rfl rfl rfl (by simpa using hlen) ?_
    refine bq rfl ?_
    refine bw rfl rfl rfl rfl ?_
    refine cO ?_
    (repeat (first | refine aS ?_ | refine a6 ?_ | refine bP ?_ | refine aX rfl ?_ | refine bL ?_ | refine aP ?_ | refine aR ?_ | refine aD ?_ | refine aK ?_ | refine aG rfl ?_ | refine noGoto_ret ?_ | refine noGoto_exit ?_ | refine noGoto_normal ?_))
    refine iz ?_
    (repeat (first | refine aS ?_ | refine a6 ?_ | refine bP ?_ | refine aX rfl ?_ | refine bL ?_ | refine aP ?_ | refine aR ?_ | refine aD ?_ | refine aK ?_ | refine aG rfl ?_ | refine noGoto_ret ?_ | refine noGoto_exit ?_ | refine noGoto_normal ?_))
    exact lX (bf 7 800000 rfl rfl rfl rfl rfl) rfl rfl rfl rfl (AV.sub_refl _) trivial
namespace R06
def aZ (l:List aa):Option (List aa):=ck (l.length*32≤140737488355328) (some l)
theorem bX (l r:List aa)(h:aZ l=some r):bH Tryz.prog 85 [.p (eL ae l)] [] (λ x y=>x=.vec 2000000 3 0 (r.map ae)∧y=[]):=by
  obtain ⟨h1,h2⟩:=fT h
  cases h2
  exact eP l h1
def cQ (s_0:List ab)(i_1:Int)(v_2:List ab):Option (List ab) :=
 ck ((0:Int)≤i_1∧i_1≤(s_0.length:Int)∧(s_0.length:Int)≤(s_0.length:Int)) <|
 ck (i_1=(s_0.length:Int)∧v_2.length=1) <|
 ck ((s_0.length+1)*80≤140737488355328) <|
 some s_0
attribute [local irreducible] M cC in
theorem fQ (s_0:List ab)(i_1:Int)(v_2:List ab)(r:(List ab))(h0:cQ s_0 i_1 v_2=some r):bH Tryz.prog 104 [.vec 900000 5 0 (s_0.map ah),.p (eI i_1),.p (eL ah v_2)] [] (λ x y=>x=.vecp 2000000 5 0 (r.map ah)∧y=[]):=by
 unfold cQ at h0
 obtain ⟨hk1,h1⟩:=fT h0
 obtain ⟨hk2,h2⟩:=fT h1
 obtain ⟨hk3,h3⟩:=fT h2
 clear h0 h1 h2
 obtain ⟨z,rfl⟩:∃ z,v_2=[z]:=by
  match v_2,hk2.2 with
  | [z],_=>exact ⟨z,rfl⟩
 refine hH good [800000] [] Tryz.func104 rfl rfl rfl rfl rfl λ w0 F=>mPo (λ v:(List ab)=>.vecp 2000000 5 0 (v.map ah)) (λ v=>[]) ?_
 refine nx 8 rfl ?_
 refine mO rfl (lR (f:=ah) (l:=s_0) rfl rfl rfl rfl rfl rfl rfl rfl rfl rfl hk1 (λ x=>congrArg List.length (ab.cells_eq x)) ?_)
 refine nx 4 rfl (oLl (f:=ah) rfl rfl ?_)
 refine nx 8 rfl (lT [16] (decide_eq_false (by simp)) rfl ?_)
 refine nx 5 rfl (oLl (f:=ah) rfl rfl ?_)
 refine nx 9 rfl (lT [22] (decide_eq_true hk2.1) rfl ?_)
 refine nx 5 rfl ?_
 refine mO rfl (xT ah s_0 (z:=ah z) rfl rfl rfl rfl rfl rfl rfl rfl rfl rfl rfl rfl (by rw [ab.cells_eq]; rfl) rfl rfl rfl rfl hk3 ?_)
 exact nx 3 rfl (mQo (oi h3) (aN (bf 25 800000 rfl rfl rfl rfl rfl) (bu _)) rfl rfl rfl rfl (sr) trivial)
end R06
end Go.Ab
end
section
namespace Go.Ab.R06
open Go.Proofs Go.Ab Go.Ab.RB
attribute [local irreducible] awp eQ aU au bH AV.sub M cC
def fH (n_0:Int):Option Bool :=
 (
   if (-9007199254740992)≤n_0 then
    some (decide (n_0≤9007199254740992))
   else
    some false
  : Option Bool).bind λ t2 =>
 some t2
theorem kD (n_0:Int)(r:Bool)(h0:fH n_0=some r):au Tryz.prog 106 [eI n_0] (·=.p (eB r)):=by
 unfold fH at h0
 refine aH good Tryz.func106 rfl rfl rfl λ w0=>mP (λ v:Bool=>.p (eB v)) ?_
 refine nx 5 rfl (bd h0 λ o4 h1 h0=>?_)
 refine kN o4 (λ v5=>⟨[(2,.p (eB v5))],[]⟩) ?_ ?_
 ·exact nx 2 rfl (mQ (oi h0) rfl (sr))
 refine nx 4 rfl (fD [4,5] h1 rfl (λ c1 h1=>?_) λ c1 h1=>?_)
 ·exact nx 5 rfl (eX _ (oi h1).symm (gE rfl rfl))
 exact nx 5 rfl (eX _ (oi h1).symm (gE rfl rfl))
def bn (s7:Bytes):Nat→Int→Option (Unit⊕Bool)
 | 0,_=>none
 | m+1,t16 =>
 if t16 < (s7.length:Int) then
  (
    ck ((0:Int)≤t16∧t16 < (s7.length:Int)) <|
    if byt s7 t16 < 48 then
     some true
    else
     ck ((0:Int)≤t16∧t16 < (s7.length:Int)) <|
     some (decide (57 < byt s7 t16))
   : Option Bool).bind λ t21 =>
  if t21=true then
   some (.inr false)
  else
   ck (inR (t16+1)) <|
   bn s7 m (t16+1)
 else
  some (.inl ())
def cL (n:Nat)(s_0:Bytes):Option Bool :=
 jn (
   (
     if 0 < (s_0.length:Int) then
      ck ((0:Int)≤0∧0 < (s_0.length:Int)) <|
      some (decide (byt s_0 0=45))
     else
      some false
    : Option Bool).bind λ t3 =>
   if t3=true then
    ck ((0:Int)≤1∧1≤(s_0.length:Int)∧(s_0.length:Int)≤(s_0.length:Int)) <|
    if sub s_0 1 (s_0.length:Int)=([48]:Bytes) then
     some (.inr false)
    else
     some (.inl (sub s_0 1 (s_0.length:Int)))
   else
    some (.inl s_0)
  : Option (Bytes⊕Bool)) λ s7 =>
 jn (bn s7 n 0) λ _q31 =>
 (
   if s7=([]:Bytes) then
    some false
   else
    ck ((0:Int)≤0∧0 < (s7.length:Int)) <|
    if byt s7 0=48 then
     some (decide ((s7.length:Int)=1))
    else
     some true
  : Option Bool).bind λ t28 =>
 some t28
theorem mb (n:Nat)(s_0:Bytes)(r:Bool)(h0:cL n s_0=some r):au Tryz.prog 120 [eS s_0] (·=.p (eB r)):=by
 unfold cL at h0
 refine aH good Tryz.func120 rfl rfl rfl λ w0=>mP (λ v:Bool=>.p (eB v)) ?_
 refine nx 5 rfl ?_
 obtain ⟨o34,h1,hL0,hR0⟩:=cn h0
 refine kX (λ v35:Bytes=>o34=.inl v35) (λ v35=>⟨[(0,.p (eS v35))],[]⟩) (λ v35 hv=>?_) ?_
 ·have h0:=hL0 _ hv
  refine nx 5 rfl (oLs rfl ?_)
  refine nx 3 rfl ?_
  obtain ⟨o36,h1,hL0,hR0⟩:=cn h0
  refine kEx 0 (λ v37:Unit=>o36=.inl v37) (λ v37=>⟨[(0,.p (eS v35))],[]⟩) (λ v37 hv=>?_) ?_
  ·have h0:=hL0 _ hv
   refine nx 2 rfl (bd h0 λ o38 h1 h0=>?_)
   refine kN o38 (λ v39=>⟨[(2,.p (eB v39))],[]⟩) ?_ ?_
   ·exact nx 2 rfl (mQ (oi h0) rfl (sr))
   refine nx 2 rfl (oS rfl rfl ?_)
   refine nx 1 rfl (fN [33,34] h1 rfl (λ c25 h1=>?_) λ c25 h1=>?_)
   ·exact nx 11 rfl (eX _ (oi h1).symm (gE rfl rfl))
   refine nx 1 rfl (oI h1 rfl λ hk26 h1=>?_)
   refine nx 2 rfl (fN [37,38] h1 rfl (λ c27 h1=>?_) λ c27 h1=>?_)
   ·refine nx 1 rfl (oLs rfl ?_)
    exact nx 5 rfl (eX _ (oi h1).symm (gE rfl rfl))
   exact nx 7 rfl (eX _ (oi h1).symm (gE rfl rfl))
  refine lG (λ (q40:Int)=>⟨[(0,.p (eS v35)),(17,.p (eI (v35.length:Int))),(18,.p (eI q40))],[]⟩) (λ m (q40:Int)=>bn v35 m q40) (λ _=>rfl) 0 h1 (gE rfl rfl) ?_
  rintro m t16 h1
  replace h1:bn v35 (m+1) t16=some o36:=h1
  rw [bn] at h1
  refine nx 5 rfl (fD [19] h1 rfl (λ c17 h1=>?_) λ c17 h1=>?_)
  ·refine nx 10 rfl (bd h1 λ o41 h2 h1=>?_)
   refine kN o41 (λ v42=>⟨[(0,.p (eS v35)),(17,.p (eI (v35.length:Int))),(18,.p (eI t16)),(30,.p (eB v42))],[]⟩) ?_ ?_
   ·refine nx 1 rfl (fB [30] h1 rfl (λ c22 h1=>?_) λ c22 h1=>?_)
    ·exact nx 6 rfl (mQ (hR0 _ (oi h1).symm) rfl (sr))
    refine nx 3 rfl (oA h1 rfl rfl λ hk23 h1=>?_)
    exact nx 2 rfl (eX (t16+1) h1 (gE rfl rfl))
   refine nx 3 rfl (oI h2 rfl λ hk18 h2=>?_)
   refine nx 2 rfl (fD [24,25] h2 rfl (λ c19 h2=>?_) λ c19 h2=>?_)
   ·exact nx 6 rfl (eX _ (oi h2).symm (gE rfl rfl))
   refine nx 2 rfl (oI h2 rfl λ hk20 h2=>?_)
   exact nx 3 rfl (eX _ (oi h2).symm (gE rfl rfl))
  exact nx 2 rfl (eXi _ (oi h1).symm (gE rfl rfl))
 refine nx 1 rfl (bd h1 λ o43 h2 h1=>?_)
 refine kN o43 (λ v44=>⟨[(0,.p (eS s_0)),(11,.p (eB v44))],[]⟩) ?_ ?_
 ·refine nx 1 rfl (fB [11] h1 rfl (λ c4 h1=>?_) λ c4 h1=>?_)
  ·refine nx 4 rfl (oP h1 rfl rfl rfl λ hk5 h1=>?_)
   refine nx 5 rfl (oS rfl rfl ?_)
   refine nx 1 rfl (fD [15] h1 rfl (λ c6 h1=>?_) λ c6 h1=>?_)
   ·exact nx 6 rfl (mQ (hR0 _ (oi h1).symm) rfl (sr))
   exact nx 2 rfl (eX _ (oi h1).symm (gE rfl rfl))
  exact nx 2 rfl (eX _ (oi h1).symm (gE rfl rfl))
 refine nx 2 rfl (oLs rfl ?_)
 refine nx 2 rfl (fD [6,7] h2 rfl (λ c1 h2=>?_) λ c1 h2=>?_)
 ·refine nx 1 rfl (oI h2 rfl λ hk2 h2=>?_)
  exact nx 3 rfl (eX _ (oi h2).symm (gE rfl rfl))
 exact nx 5 rfl (eX _ (oi h2).symm (gE rfl rfl))
def em (n:Nat)(s_0:Bytes):Option (Int×Int) :=
 (cL n s_0).bind λ r1 =>
 if (!r1)=true then
  some (0,2)
 else
  (fy s_0 10 64).bind λ r4 =>
  (
    if r4.2=true then
     some true
    else
     (fH r4.1).bind λ r7 =>
     some (!r7)
   : Option Bool).bind λ t9 =>
  if t9=true then
   some (0,5)
  else
   some (r4.1,0)
theorem po (n:Nat)(s_0:Bytes)(r:Int×Int)(h0:em n s_0=some r):au Tryz.prog 91 [eS s_0] (·=.tuple [.p (eI r.1),.p (eI r.2)]):=by
 unfold em at h0
 refine aH good Tryz.func91 rfl rfl rfl λ w0=>mP (λ v:Int×Int=>.tuple [.p (eI v.1),.p (eI v.2)]) ?_
 refine nx 9 rfl (bd h0 λ r1 e2 h0=>?_)
 refine oK (mb _ s_0 _ e2) rfl ⟨sr,trivial⟩ Tryz.call120 rfl (nx 2 rfl ?_)
 refine fB [8] h0 rfl (λ c3 h0=>?_) λ c3 h0=>?_
 ·exact nx 7 rfl (mQ (oi h0) rfl (am ⟨sr,sr,trivial⟩))
 refine nx 5 rfl (bd h0 λ r4 e5 h0=>?_)
 refine oK (l6 s_0 10 64 _ e5) rfl ⟨sr,sr,sr,trivial⟩ Tryz.call121 (vM (ou rfl (ou (zZ _) t1))) (nx 8 rfl ?_)
 refine bd h0 λ o12 h1 h0=>kN o12 (λ v13=>⟨[(4,.p (eI r4.1)),(20,.p (eB v13))],[]⟩) ?_ ?_
 ·refine nx 1 rfl (fB [20] h0 rfl (λ c10 h0=>?_) λ c10 h0=>?_)
  ·exact nx 7 rfl (mQ (oi h0) rfl (am ⟨sr,sr,trivial⟩))
  exact nx 9 rfl (mQ (oi h0) rfl (am ⟨sr,sr,trivial⟩))
 refine nx 2 rfl (mO rfl (AF rfl rfl rfl rfl rfl rfl (.inr ⟨rfl,rfl⟩) ?_))
 refine nx 1 rfl (fB [15,16] h1 rfl (λ c6 h1=>?_) λ c6 h1=>?_)
 ·exact nx 5 rfl (eX _ (oi h1).symm (gE rfl rfl))
 refine nx 1 rfl (bd h1 λ r7 e8 h1=>?_)
 refine oK (kD r4.1 _ e8) rfl ⟨sr,trivial⟩ Tryz.call106 rfl (nx 3 rfl ?_)
 exact eX _ (oi h1).symm (gE rfl rfl)
def f0 (n_0:Int):Option Bytes :=
 (strconv_Itoa n_0).bind λ r1 =>
 some r1
theorem nK (n_0:Int)(r:Bytes)(h0:f0 n_0=some r):au Tryz.prog 50 [eI n_0] (·=.p (eS r)):=by
 unfold f0 at h0
 refine aH good Tryz.func50 rfl rfl rfl λ w0=>mP (λ v:Bytes=>.p (eS v)) ?_
 refine nx 7 rfl (bd h0 λ r1 e2 h0=>?_)
 refine oK (pg n_0 _ e2) rfl ⟨sr,trivial⟩ Tryz.call80 rfl (nx 3 rfl ?_)
 exact mQ (oi h0) rfl (sr)
def bj (s_0:Bytes):Nat→Int→Int→Option (Int×Int)
 | 0,_,_=>none
 | m+1,n11,i12 =>
 (
   if i12 < (s_0.length:Int) then
    some (decide (i12 < 6))
   else
    some false
  : Option Bool).bind λ t14 =>
 if t14=true then
  ck ((0:Int)≤i12∧i12 < (s_0.length:Int)) <|
  (strings_IndexByte ([48,49,50,51,52,53,54,55,56,57,97,98,99,100,101,102]:Bytes) (byt s_0 i12)).bind λ r17 =>
  if r17 < 0 then
   some (n11,i12)
  else
   ck (inR (i12+1)) <|
   bj s_0 m (IntKind.wrap .i32 ((IntKind.wrap .i32 (16*n11))+(IntKind.wrap .i32 (r17)))) (i12+1)
 else
  some (n11,i12)
def bU (n:Nat)(s_0:Bytes):Option (Int×Int×Int) :=
 (bj s_0 n 0 0).bind λ q39 =>
 if q39.2=(s_0.length:Int) then
  some (0,0,40)
 else
  (
    ck ((0:Int)≤q39.2∧q39.2 < (s_0.length:Int)) <|
    if byt s_0 q39.2=125 then
     if q39.2=0 then
      some true
     else
      if 1 < q39.2 then
       ck ((0:Int)≤0∧0 < (s_0.length:Int)) <|
       if byt s_0 0=48 then
        some true
       else
        (cu q39.1).bind λ r32 =>
        some (!r32)
      else
       (cu q39.1).bind λ r34 =>
       some (!r34)
    else
     some true
   : Option Bool).bind λ t36 =>
  if t36=true then
   some (0,0,2)
  else
   ck (inR (q39.2+1)) <|
   some (q39.1,q39.2+1,0)
theorem kO (n:Nat)(s_0:Bytes)(r:Int×Int×Int)(h0:bU n s_0=some r):au Tryz.prog 138 [eS s_0] (·=.tuple [.p (eK .i32 r.1),.p (eI r.2.1),.p (eI r.2.2)]):=by
 unfold bU at h0
 refine aH good Tryz.func138 rfl rfl rfl λ w0=>mP (λ v:Int×Int×Int=>.tuple [.p (eK .i32 v.1),.p (eI v.2.1),.p (eI v.2.2)]) ?_
 refine nx 13 rfl (bd h0 λ o42 h1 h0=>?_)
 refine kE 0 o42 (λ v43=>⟨[(0,.p (eS s_0)),(5,.p (eK .i32 v43.1)),(6,.p (eI v43.2))],[]⟩) ?_ ?_
 ·refine nx 6 rfl (oLs rfl ?_)
  refine nx 2 rfl (fD [32] h0 rfl (λ c25 h0=>?_) λ c25 h0=>?_)
  ·exact nx 8 rfl (mQ (oi h0) rfl (am ⟨sr,sr,sr,trivial⟩))
  refine nx 4 rfl (bd h0 λ o44 h1 h0=>?_)
  refine kN o44 (λ v45=>⟨[(5,.p (eK .i32 o42.1)),(6,.p (eI o42.2)),(54,.p (eB v45))],[]⟩) ?_ ?_
  ·refine nx 1 rfl (fB [54] h0 rfl (λ c37 h0=>?_) λ c37 h0=>?_)
   ·exact nx 8 rfl (mQ (oi h0) rfl (am ⟨sr,sr,sr,trivial⟩))
   refine nx 6 rfl (oA h0 rfl rfl λ hk38 h0=>?_)
   exact nx 5 rfl (mQ (oi h0) rfl (am ⟨sr,sr,sr,trivial⟩))
  refine nx 3 rfl (oI h1 rfl λ hk26 h1=>?_)
  refine nx 2 rfl (fN [36,37] h1 rfl (λ c27 h1=>?_) λ c27 h1=>?_)
  ·refine nx 4 rfl (fD [39,40,41] h1 rfl (λ c28 h1=>?_) λ c28 h1=>?_)
   ·exact nx 14 rfl (eX _ (oi h1).symm (gE rfl rfl))
   refine nx 3 rfl (fD [43,44] h1 rfl (λ c29 h1=>?_) λ c29 h1=>?_)
   ·refine nx 1 rfl (oI h1 rfl λ hk30 h1=>?_)
    refine nx 4 rfl (fD [47,48,49,50] h1 rfl (λ c31 h1=>?_) λ c31 h1=>?_)
    ·exact nx 5 rfl (eX _ (oi h1).symm (gE rfl rfl))
    refine nx 1 rfl (bd h1 λ r32 e33 h1=>?_)
    refine oK (fM o42.1 _ e33) rfl ⟨sr,trivial⟩ Tryz.call123 rfl (nx 3 rfl ?_)
    exact eX _ (oi h1).symm (gE rfl rfl)
   refine nx 7 rfl (bd h1 λ r34 e35 h1=>?_)
   refine oK (fM o42.1 _ e35) rfl ⟨sr,trivial⟩ Tryz.call123 rfl (nx 3 rfl ?_)
   exact eX _ (oi h1).symm (gE rfl rfl)
  exact nx 18 rfl (eX _ (oi h1).symm (gE rfl rfl))
 refine lG (λ (q46:Int×Int)=>⟨[(0,.p (eS s_0)),(5,.p (eK .i32 q46.1)),(6,.p (eI q46.2))],[]⟩) (λ m (q46:Int×Int)=>bj s_0 m q46.1 q46.2) (λ _=>rfl) (0,0) h1 (gE rfl rfl) ?_
 rintro m ⟨n11,i12⟩ h1
 replace h1:bj s_0 (m+1) n11 i12=some o42:=h1
 rw [bj] at h1
 refine nx 2 rfl (bd h1 λ o47 h2 h1=>?_)
 refine kN o47 (λ v48=>⟨[(0,.p (eS s_0)),(5,.p (eK .i32 n11)),(6,.p (eI i12)),(15,.p (eB v48))],[]⟩) ?_ ?_
 ·refine nx 1 rfl (fB [15] h1 rfl (λ c15 h1=>?_) λ c15 h1=>?_)
  ·refine nx 8 rfl (oI h1 rfl λ hk16 h1=>?_)
   refine bd h1 λ r17 e18 h1=>oK (lF ([48,49,50,51,52,53,54,55,56,57,97,98,99,100,101,102]:Bytes) (byt s_0 i12) _ e18) rfl ⟨sr,sr,trivial⟩ Tryz.call122 rfl (nx 8 rfl ?_)
   refine fD [23] h1 rfl (λ c19 h1=>?_) λ c19 h1=>?_
   ·exact nx 2 rfl (eXi _ (oi h1).symm (gE rfl rfl))
   refine nx 12 rfl (oA h1 rfl rfl λ hk20 h1=>?_)
   exact nx 2 rfl (eX (IntKind.wrap .i32 ((IntKind.wrap .i32 (16*n11))+(IntKind.wrap .i32 (r17))),i12+1) h1 (gE rfl rfl))
  exact nx 2 rfl (eXi _ (oi h1).symm (gE rfl rfl))
 refine nx 3 rfl (oLs rfl ?_)
 refine nx 2 rfl (fD [11,12] h2 rfl (λ c13 h2=>?_) λ c13 h2=>?_)
 ·exact nx 4 rfl (eX _ (oi h2).symm (gE rfl rfl))
 exact nx 4 rfl (eX _ (oi h2).symm (gE rfl rfl))
def dW (n:Nat)(s_0:Bytes):Option (Int×Int×Int) :=
 if s_0=([]:Bytes) then
  some (0,0,40)
 else
  ck ((0:Int)≤0∧0 < (s_0.length:Int)) <|
  if byt s_0 0=110 then
   some (10,1,0)
  else
   if byt s_0 0=114 then
    some (13,1,0)
   else
    if byt s_0 0=116 then
     some (9,1,0)
    else
     (
       if byt s_0 0=34 then
        some true
       else
        some (decide (byt s_0 0=92))
      : Option Bool).bind λ t7 =>
     if t7=true then
      ck ((0:Int)≤0∧0 < (s_0.length:Int)) <|
      some (IntKind.wrap .i32 (byt s_0 0),1,0)
     else
      if byt s_0 0=117 then
       if (s_0.length:Int)=1 then
        some (0,0,40)
       else
        ck ((0:Int)≤1∧1 < (s_0.length:Int)) <|
        if byt s_0 1=123 then
         ck ((0:Int)≤2∧2≤(s_0.length:Int)∧(s_0.length:Int)≤(s_0.length:Int)) <|
         (bU n (sub s_0 2 (s_0.length:Int))).bind λ r15 =>
         ck (inR (r15.2.1+2)) <|
         some (r15.1,r15.2.1+2,r15.2.2)
        else
         some (0,0,2)
      else
       some (0,0,2)
theorem oh (n:Nat)(s_0:Bytes)(r:Int×Int×Int)(h0:dW n s_0=some r):au Tryz.prog 117 [eS s_0] (·=.tuple [.p (eK .i32 r.1),.p (eI r.2.1),.p (eI r.2.2)]):=by
 unfold dW at h0
 refine aH good Tryz.func117 rfl rfl rfl λ w0=>mP (λ v:Int×Int×Int=>.tuple [.p (eK .i32 v.1),.p (eI v.2.1),.p (eI v.2.2)]) ?_
 refine nx 10 rfl (oS rfl rfl ?_)
 refine nx 1 rfl (fD [9] h0 rfl (λ c1 h0=>?_) λ c1 h0=>?_)
 ·exact nx 8 rfl (mQ (oi h0) rfl (am ⟨sr,sr,sr,trivial⟩))
 refine nx 6 rfl (oI h0 rfl λ hk2 h0=>?_)
 refine nx 7 rfl (fD [12,13] h0 rfl (λ c3 h0=>?_) λ c3 h0=>?_)
 ·exact nx 8 rfl (mQ (oi h0) rfl (am ⟨sr,sr,sr,trivial⟩))
 refine nx 6 rfl (fD [14,15] h0 rfl (λ c4 h0=>?_) λ c4 h0=>?_)
 ·exact nx 8 rfl (mQ (oi h0) rfl (am ⟨sr,sr,sr,trivial⟩))
 refine nx 6 rfl (fD [16,17] h0 rfl (λ c5 h0=>?_) λ c5 h0=>?_)
 ·exact nx 8 rfl (mQ (oi h0) rfl (am ⟨sr,sr,sr,trivial⟩))
 refine nx 2 rfl (bd h0 λ o19 h1 h0=>?_)
 refine kN o19 (λ v20=>⟨[(0,.p (eS s_0)),(11,.p (eK .u8 (byt s_0 0))),(18,.p (eB v20))],[]⟩) ?_ ?_
 ·refine nx 1 rfl (fB [18] h0 rfl (λ c8 h0=>?_) λ c8 h0=>?_)
  ·refine nx 4 rfl (oI h0 rfl λ hk9 h0=>?_)
   exact nx 6 rfl (mQ (oi h0) rfl (am ⟨sr,sr,sr,trivial⟩))
  refine nx 6 rfl (fD [24,25] h0 rfl (λ c10 h0=>?_) λ c10 h0=>?_)
  ·refine nx 5 rfl (oLs rfl ?_)
   refine nx 2 rfl (fD [28] h0 rfl (λ c11 h0=>?_) λ c11 h0=>?_)
   ·exact nx 8 rfl (mQ (oi h0) rfl (am ⟨sr,sr,sr,trivial⟩))
   refine nx 6 rfl (oI h0 rfl λ hk12 h0=>?_)
   refine nx 2 rfl (fN [31] h0 rfl (λ c13 h0=>?_) λ c13 h0=>?_)
   ·refine nx 5 rfl (oP h0 rfl rfl rfl λ hk14 h0=>?_)
    refine bd h0 λ r15 e16 h0=>oK (kO _ (sub s_0 2 (s_0.length:Int)) _ e16) rfl ⟨sr,trivial⟩ Tryz.call138 rfl (nx 12 rfl ?_)
    refine oA h0 rfl rfl λ hk17 h0=>nx 5 rfl (mG (gE (t:=⟨[(2,.p (eK .i32 r15.1)),(3,.p (eI (r15.2.1+2))),(4,.p (eI r15.2.2))],[]⟩) rfl rfl) ?_)
    exact nx 1 rfl (mQ (oi h0) rfl (am ⟨sr,sr,sr,trivial⟩))
   exact nx 8 rfl (mQ (oi h0) rfl (am ⟨sr,sr,sr,trivial⟩))
  exact nx 9 rfl (mQ (oi h0) rfl (am ⟨sr,sr,sr,trivial⟩))
 refine nx 5 rfl (fD [18,19] h1 rfl (λ c6 h1=>?_) λ c6 h1=>?_)
 ·exact nx 2 rfl (eX _ (oi h1).symm (gE rfl rfl))
 exact nx 5 rfl (eX _ (oi h1).symm (gE rfl rfl))
def bS (n:Nat)(s_0:Bytes):Nat→Int→(List UInt8)→Option ((Int×(List UInt8))⊕(Bytes×Int×Int))
 | 0,_,_=>none
 | m+1,at31,f32 =>
 (
   if at31 < (s_0.length:Int) then
    ck ((0:Int)≤at31∧at31 < (s_0.length:Int)) <|
    some (!decide (byt s_0 at31=34))
   else
    some false
  : Option Bool).bind λ t35 =>
 if t35=true then
  ck ((0:Int)≤at31∧at31≤(s_0.length:Int)∧(s_0.length:Int)≤(s_0.length:Int)) <|
  (cb (sub s_0 at31 (s_0.length:Int))).bind λ r38 =>
  jn (
    if r38.1=92 then
     ck (inR (at31+1)) <|
     ck ((0:Int)≤at31+1∧at31+1≤(s_0.length:Int)∧(s_0.length:Int)≤(s_0.length:Int)) <|
     (dW n (sub s_0 (at31+1) (s_0.length:Int))).bind λ r43 =>
     if r43.2.2=0 then
      ck (inR (r43.2.1+1)) <|
      some (.inl (r43.1,r43.2.1+1))
     else
      some (.inr (.inr (([]:Bytes),0,r43.2.2)))
    else
     (
       if r38.1=65533 then
        if r38.2=1 then
         some true
        else
         if r38.1 < 32 then
          some true
         else
          some (decide (r38.1=127))
       else
        if r38.1 < 32 then
         some true
        else
         some (decide (r38.1=127))
      : Option Bool).bind λ t51 =>
     if t51=true then
      some (.inr (.inr (([]:Bytes),0,2)))
     else
      some (.inl (r38.1,r38.2))
   : Option ((Int×Int)⊕((Int×(List UInt8))⊕(Bytes×Int×Int)))) λ q71 =>
  (cx (az.mk f32) q71.1).bind λ r55 =>
  ck (inR (at31+q71.2)) <|
  bS n s_0 m (at31+q71.2) r55.2.2.fbuf
 else
  some (.inl (at31,f32))
def dJ (n:Nat)(s_0:Bytes):Option (Bytes×Int×Int) :=
 if s_0=([]:Bytes) then
  some (([]:Bytes),0,40)
 else
  ck ((0:Int)≤0∧0 < (s_0.length:Int)) <|
  if byt s_0 0=34 then
   jn (bS n s_0 n 1 []) λ q69 =>
   if q69.1=(s_0.length:Int) then
    some (([]:Bytes),0,40)
   else
    (fP (az.mk q69.2)).bind λ r63 =>
    if 4096 < r63.1 then
     some (([]:Bytes),0,3)
    else
     (ct (az.mk r63.2.fbuf)).bind λ r66 =>
     ck (inR (q69.1+1)) <|
     some (r66.1,q69.1+1,0)
  else
   some (([]:Bytes),0,2)
theorem nq (n:Nat)(s_0:Bytes)(r:Bytes×Int×Int)(h0:dJ n s_0=some r):au Tryz.prog 90 [eS s_0] (·=.tuple [.p (eS r.1),.p (eI r.2.1),.p (eI r.2.2)]):=by
 unfold dJ at h0
 refine aH good Tryz.func90 rfl rfl rfl λ w0=>mP (λ v:Bytes×Int×Int=>.tuple [.p (eS v.1),.p (eI v.2.1),.p (eI v.2.2)]) ?_
 refine nx 10 rfl (oS rfl rfl ?_)
 refine nx 1 rfl (fD [13] h0 rfl (λ c1 h0=>?_) λ c1 h0=>?_)
 ·exact nx 8 rfl (mQ (oi h0) rfl (am ⟨sr,sr,sr,trivial⟩))
 refine nx 6 rfl (oI h0 rfl λ hk2 h0=>?_)
 refine nx 2 rfl (fN [16] h0 rfl (λ c3 h0=>?_) λ c3 h0=>?_)
 ·refine nx 4 rfl (mO rfl (om rfl rfl rfl rfl rfl rfl rfl ?_))
  refine nx 7 rfl ?_
  obtain ⟨o73,h1,hL0,hR0⟩:=cn h0
  refine kEx 0 (λ v74:Int×(List UInt8)=>o73=.inl v74) (λ v74=>⟨[(0,.p (eS s_0)),(5,.ptr 5 0),(6,.p (eI v74.1))],[(5,[.bptr 65 2 5,.vec 101000 1 (5+1) (v74.2.map eU)])]⟩) (λ v74 hv=>?_) ?_
  ·have h0:=hL0 _ hv
   refine nx 6 rfl (oLs rfl ?_)
   refine nx 2 rfl (fD [73] h0 rfl (λ c62 h0=>?_) λ c62 h0=>?_)
   ·exact nx 8 rfl (mQ (oi h0) rfl (am ⟨sr,sr,sr,trivial⟩))
   refine nx 5 rfl (bd h0 λ r63 e64 h0=>?_)
   refine mO rfl (br [5] [101000] 103000 103001 (kk (az.mk v74.2) _ e64) rfl rfl rfl rfl rfl ⟨sr,trivial⟩ rfl rfl ⟨⟨_,rfl,⟨sr,sr,trivial⟩⟩,trivial⟩ rfl rfl rfl rfl rfl rfl rfl rfl Tryz.call119 rfl rfl ?_)
   refine nx 2 rfl (fD [75] h0 rfl (λ c65 h0=>?_) λ c65 h0=>?_)
   ·exact nx 8 rfl (mQ (oi h0) rfl (am ⟨sr,sr,sr,trivial⟩))
   refine nx 4 rfl (bd h0 λ r66 e67 h0=>?_)
   refine mO rfl (br [5] [103000] 104000 104000 (ef (az.mk r63.2.fbuf) _ e67) rfl rfl rfl rfl rfl ⟨sr,trivial⟩ rfl rfl ⟨⟨_,rfl,⟨sr,sr,trivial⟩⟩,trivial⟩ rfl rfl rfl rfl rfl rfl rfl rfl Tryz.call53 rfl rfl ?_)
   refine nx 1 rfl (oA h0 rfl rfl λ hk68 h0=>?_)
   exact nx 5 rfl (mQ (oi h0) rfl (am ⟨sr,sr,sr,trivial⟩))
  refine lG (λ (q75:Int×(List UInt8))=>⟨[(0,.p (eS s_0)),(5,.ptr 5 0),(6,.p (eI q75.1))],[(5,[.bptr 65 2 5,.vec 101000 1 (5+1) (q75.2.map eU)])]⟩) (λ m (q75:Int×(List UInt8))=>bS n s_0 m q75.1 q75.2) (λ _=>rfl) (1,[]) h1 (cj (gX ⟨er rfl,er rfl,er rfl,trivial⟩ ⟨⟨_,rfl,⟨sr,AV.sub_nilvec _ _ _,trivial⟩⟩,trivial⟩)) ?_
  rintro m ⟨at31,f32⟩ h1
  replace h1:bS n s_0 (m+1) at31 f32=some o73:=h1
  rw [bS] at h1
  refine nx 2 rfl (bd h1 λ o76 h2 h1=>?_)
  refine kN o76 (λ v77=>⟨[(0,.p (eS s_0)),(5,.ptr 5 0),(6,.p (eI at31)),(26,.p (eB v77))],[(5,[.bptr 65 2 5,.vec 101000 1 (5+1) (f32.map eU)])]⟩) ?_ ?_
  ·refine nx 1 rfl (fB [26] h1 rfl (λ c36 h1=>?_) λ c36 h1=>?_)
   ·refine nx 7 rfl (oP h1 rfl rfl rfl λ hk37 h1=>?_)
    refine bd h1 λ r38 e39 h1=>oK (gm (sub s_0 at31 (s_0.length:Int)) _ e39) rfl ⟨sr,trivial⟩ Tryz.call116 rfl (nx 7 rfl ?_)
    obtain ⟨o78,h2,hL1,hR1⟩:=cn h1
    refine kX (λ v79:Int×Int=>o78=.inl v79) (λ v79=>⟨[(0,.p (eS s_0)),(5,.ptr 5 0),(6,.p (eI at31)),(7,.p (eK .i32 v79.1)),(8,.p (eI v79.2))],[(5,[.bptr 65 2 5,.vec 101000 1 (5+1) (f32.map eU)])]⟩) (λ v79 hv=>?_) ?_
    ·have h1:=hL1 _ hv
     refine nx 4 rfl (bd h1 λ r55 e56 h1=>?_)
     refine mO rfl (br [5] [101000] 102000 102001 (iW (az.mk f32) v79.1 _ e56) rfl rfl rfl rfl rfl ⟨sr,sr,trivial⟩ rfl rfl ⟨⟨_,rfl,⟨sr,sr,trivial⟩⟩,trivial⟩ rfl rfl rfl rfl rfl rfl rfl rfl Tryz.call118 rfl rfl ?_)
     refine nx 4 rfl (oA h1 rfl rfl λ hk57 h1=>?_)
     exact nx 2 rfl (eX (at31+v79.2,r55.2.2.fbuf) h1 (aN (bf 102000 101000 rfl rfl rfl rfl rfl) (gE rfl rfl)))
    refine nx 5 rfl (fD [35] h2 rfl (λ c40 h2=>?_) λ c40 h2=>?_)
    ·refine nx 5 rfl (oA h2 rfl rfl λ hk41 h2=>?_)
     refine oP h2 rfl rfl rfl λ hk42 h2=>bd h2 λ r43 e44 h2=>oK (oh _ (sub s_0 (at31+1) (s_0.length:Int)) _ e44) rfl ⟨sr,trivial⟩ Tryz.call117 rfl (nx 14 rfl ?_)
     refine fN [46] h2 rfl (λ c45 h2=>?_) λ c45 h2=>?_
     ·refine nx 5 rfl (oA h2 rfl rfl λ hk46 h2=>?_)
      exact nx 3 rfl (eX _ (oi h2).symm (gE rfl rfl))
     refine nx 8 rfl (mG (gE (t:=⟨[(2,.p (eS ([]:Bytes))),(3,.p (eI 0)),(4,.p (eI r43.2.2))],[]⟩) rfl rfl) ?_)
     exact nx 1 rfl (mQ (hR0 _ (hR1 _ (oi h2).symm).symm) rfl (am ⟨sr,sr,sr,trivial⟩))
    refine nx 2 rfl (bd h2 λ o80 h3 h2=>?_)
    refine kN o80 (λ v81=>⟨[(0,.p (eS s_0)),(5,.ptr 5 0),(6,.p (eI at31)),(7,.p (eK .i32 r38.1)),(8,.p (eI r38.2)),(64,.p (eB v81))],[(5,[.bptr 65 2 5,.vec 101000 1 (5+1) (f32.map eU)])]⟩) ?_ ?_
    ·refine nx 1 rfl (fB [64] h2 rfl (λ c52 h2=>?_) λ c52 h2=>?_)
     ·exact nx 8 rfl (mQ (hR0 _ (hR1 _ (oi h2).symm).symm) rfl (am ⟨sr,sr,sr,trivial⟩))
     exact nx 2 rfl (eX _ (oi h2).symm (gE rfl rfl))
    refine nx 4 rfl (fD [52,53] h3 rfl (λ c47 h3=>?_) λ c47 h3=>?_)
    ·refine nx 4 rfl (fD [55,56,57] h3 rfl (λ c48 h3=>?_) λ c48 h3=>?_)
     ·exact nx 8 rfl (eX _ (oi h3).symm (gE rfl rfl))
     refine nx 4 rfl (fD [59,60,61] h3 rfl (λ c49 h3=>?_) λ c49 h3=>?_)
     ·exact nx 4 rfl (eX _ (oi h3).symm (gE rfl rfl))
     exact nx 4 rfl (eX _ (oi h3).symm (gE rfl rfl))
    refine nx 8 rfl (fD [59,60,61] h3 rfl (λ c50 h3=>?_) λ c50 h3=>?_)
    ·exact nx 4 rfl (eX _ (oi h3).symm (gE rfl rfl))
    exact nx 4 rfl (eX _ (oi h3).symm (gE rfl rfl))
   exact nx 2 rfl (eXi _ (oi h1).symm (gE rfl rfl))
  refine nx 3 rfl (oLs rfl ?_)
  refine nx 2 rfl (fD [20,21] h2 rfl (λ c33 h2=>?_) λ c33 h2=>?_)
  ·refine nx 2 rfl (oI h2 rfl λ hk34 h2=>?_)
   exact nx 3 rfl (eX _ (oi h2).symm (gE rfl rfl))
  exact nx 6 rfl (eX _ (oi h2).symm (gE rfl rfl))
 exact nx 8 rfl (mQ (oi h0) rfl (am ⟨sr,sr,sr,trivial⟩))
def en (s_0:Bytes):Option Bool :=
 (
   if (s_0.length:Int)≤4096 then
    (dx s_0).bind λ r2 =>
    some r2
   else
    some false
  : Option Bool).bind λ t4 =>
 some t4
theorem iU (s_0:Bytes)(r:Bool)(h0:en s_0=some r):au Tryz.prog 48 [eS s_0] (·=.p (eB r)):=by
 unfold en at h0
 refine aH good Tryz.func48 rfl rfl rfl λ w0=>mP (λ v:Bool=>.p (eB v)) ?_
 refine nx 5 rfl (bd h0 λ o6 h1 h0=>?_)
 refine kN o6 (λ v7=>⟨[(2,.p (eB v7))],[]⟩) ?_ ?_
 ·exact nx 2 rfl (mQ (oi h0) rfl (sr))
 refine nx 2 rfl (oLs rfl ?_)
 refine nx 2 rfl (fD [5,6] h1 rfl (λ c1 h1=>?_) λ c1 h1=>?_)
 ·refine nx 1 rfl (bd h1 λ r2 e3 h1=>?_)
  refine oK (jd s_0 _ e3) rfl ⟨sr,trivial⟩ Tryz.call78 rfl (nx 3 rfl ?_)
  exact eX _ (oi h1).symm (gE rfl rfl)
 exact nx 5 rfl (eX _ (oi h1).symm (gE rfl rfl))
def bY (s_0:Bytes):Nat→Int→(List UInt8)→Option (List UInt8)
 | 0,_,_=>none
 | m+1,t37,f38 =>
 if t37 < (s_0.length:Int) then
  ck ((0:Int)≤t37∧t37 < (s_0.length:Int)) <|
  (
    if byt s_0 t37=10 then
     (aJ (az.mk f38) ([92,110]:Bytes)).bind λ r42 =>
     some r42.2.2.fbuf
    else
     if byt s_0 t37=13 then
      (aJ (az.mk f38) ([92,114]:Bytes)).bind λ r45 =>
      some r45.2.2.fbuf
     else
      if byt s_0 t37=9 then
       (aJ (az.mk f38) ([92,116]:Bytes)).bind λ r48 =>
       some r48.2.2.fbuf
      else
       (
         if byt s_0 t37=34 then
          some true
         else
          some (decide (byt s_0 t37=92))
        : Option Bool).bind λ t51 =>
       if t51=true then
        (bi (az.mk f38) 92).bind λ r53 =>
        (bi (az.mk r53.2.fbuf) (byt s_0 t37)).bind λ r55 =>
        some r55.2.fbuf
       else
        (
          if byt s_0 t37 < 32 then
           some true
          else
           some (decide (byt s_0 t37=127))
         : Option Bool).bind λ t58 =>
        if t58=true then
         ck (inR (byt s_0 t37)) <|
         (fc (byt s_0 t37) 16).bind λ r61 =>
         ck (([92,117,123]:Bytes).length+r61.length≤9223372036854775807) <|
         ck ((([92,117,123]:Bytes)++r61).length+([125]:Bytes).length≤9223372036854775807) <|
         (aJ (az.mk f38) ((([92,117,123]:Bytes)++r61)++([125]:Bytes))).bind λ r65 =>
         some r65.2.2.fbuf
        else
         (bi (az.mk f38) (byt s_0 t37)).bind λ r67 =>
         some r67.2.fbuf
   : Option (List UInt8)).bind λ f69 =>
  ck (inR (t37+1)) <|
  bY s_0 m (t37+1) f69
 else
  some f38
def ep (n:Nat)(s_0:Bytes):Option Bytes :=
 (bi (az.mk []) 34).bind λ r1 =>
 (bY s_0 n 0 r1.2.fbuf).bind λ f73 =>
 (bi (az.mk f73) 34).bind λ r74 =>
 (ct (az.mk r74.2.fbuf)).bind λ r76 =>
 some r76.1
theorem pk (n:Nat)(s_0:Bytes)(r:Bytes)(h0:ep n s_0=some r):au Tryz.prog 52 [eS s_0] (·=.p (eS r)):=by
 unfold ep at h0
 refine aH good Tryz.func52 rfl rfl rfl λ w0=>mP (λ v:Bytes=>.p (eS v)) ?_
 refine nx 6 rfl (mO rfl (om rfl rfl rfl rfl rfl rfl rfl ?_))
 refine nx 3 rfl (bd h0 λ r1 e2 h0=>?_)
 refine mO rfl (br [3] [890000] 101000 101001 (b7 (az.mk []) 34 _ e2) rfl rfl rfl rfl rfl ⟨sr,sr,trivial⟩ rfl rfl ⟨⟨_,rfl,⟨sr,AV.sub_nilvec _ _ _,trivial⟩⟩,trivial⟩ rfl rfl rfl rfl rfl rfl rfl rfl Tryz.call81 rfl rfl ?_)
 refine nx 5 rfl (oLs rfl ?_)
 refine nx 3 rfl (bd h0 λ o82 h1 h0=>?_)
 refine kE 0 o82 (λ v83=>⟨[(3,.ptr 3 0)],[(3,[.bptr 65 2 3,.vec 108000 1 (5+1) (v83.map eU)])]⟩) ?_ ?_
 ·refine nx 3 rfl (bd h0 λ r74 e75 h0=>?_)
  refine mO rfl (br [3] [108000] 116000 116001 (b7 (az.mk o82) 34 _ e75) rfl rfl rfl rfl rfl ⟨sr,sr,trivial⟩ rfl rfl ⟨⟨_,rfl,⟨sr,sr,trivial⟩⟩,trivial⟩ rfl rfl rfl rfl rfl rfl rfl rfl Tryz.call81 rfl rfl ?_)
  refine nx 3 rfl (bd h0 λ r76 e77 h0=>?_)
  refine mO rfl (br [3] [116000] 117000 117000 (ef (az.mk r74.2.fbuf) _ e77) rfl rfl rfl rfl rfl ⟨sr,trivial⟩ rfl rfl ⟨⟨_,rfl,⟨sr,sr,trivial⟩⟩,trivial⟩ rfl rfl rfl rfl rfl rfl rfl rfl Tryz.call53 rfl rfl ?_)
  exact nx 3 rfl (mQ (oi h0) rfl (sr))
 refine lG (λ (q84:Int×(List UInt8))=>⟨[(0,.p (eS s_0)),(3,.ptr 3 0),(8,.p (eI (s_0.length:Int))),(9,.p (eI q84.1))],[(3,[.bptr 65 2 3,.vec 108000 1 (5+1) (q84.2.map eU)])]⟩) (λ m (q84:Int×(List UInt8))=>bY s_0 m q84.1 q84.2) (λ _=>rfl) (0,r1.2.fbuf) h1 (aN (bf 101000 108000 rfl rfl rfl rfl rfl) (gE rfl rfl)) ?_
 rintro m ⟨t37,f38⟩ h1
 replace h1:bY s_0 (m+1) t37 f38=some o82:=h1
 rw [bY] at h1
 refine nx 5 rfl (fD [10] h1 rfl (λ c39 h1=>?_) λ c39 h1=>?_)
 ·refine nx 13 rfl (oI h1 rfl λ hk40 h1=>?_)
  refine nx 2 rfl (bd h1 λ o85 h2 h1=>?_)
  refine kN o85 (λ v86=>⟨[(0,.p (eS s_0)),(3,.ptr 3 0),(8,.p (eI (s_0.length:Int))),(9,.p (eI t37))],[(3,[.bptr 65 2 3,.vec 115000 1 (5+1) (v86.map eU)])]⟩) ?_ ?_
  ·refine nx 2 rfl (oA h1 rfl rfl λ hk70 h1=>?_)
   exact nx 2 rfl (eX (t37+1,o85) h1 (aN (bf 115000 108000 rfl rfl rfl rfl rfl) (gE rfl rfl)))
  refine nx 7 rfl (fD [17,19] h2 rfl (λ c41 h2=>?_) λ c41 h2=>?_)
  ·refine nx 2 rfl (bd h2 λ r42 e43 h2=>?_)
   refine mO rfl (br [3] [108000] 109000 109001 (aY (az.mk f38) ([92,110]:Bytes) _ e43) rfl rfl rfl rfl rfl ⟨sr,sr,trivial⟩ rfl rfl ⟨⟨_,rfl,⟨sr,sr,trivial⟩⟩,trivial⟩ rfl rfl rfl rfl rfl rfl rfl rfl Tryz.call49 rfl rfl ?_)
   exact nx 1 rfl (eX _ (oi h2).symm (aN (bf 109000 115000 rfl rfl rfl rfl rfl) (gE rfl rfl)))
  refine nx 7 rfl (fD [21,23] h2 rfl (λ c44 h2=>?_) λ c44 h2=>?_)
  ·refine nx 2 rfl (bd h2 λ r45 e46 h2=>?_)
   refine mO rfl (br [3] [108000] 110000 110001 (aY (az.mk f38) ([92,114]:Bytes) _ e46) rfl rfl rfl rfl rfl ⟨sr,sr,trivial⟩ rfl rfl ⟨⟨_,rfl,⟨sr,sr,trivial⟩⟩,trivial⟩ rfl rfl rfl rfl rfl rfl rfl rfl Tryz.call49 rfl rfl ?_)
   exact nx 1 rfl (eX _ (oi h2).symm (aN (bf 110000 115000 rfl rfl rfl rfl rfl) (gE rfl rfl)))
  refine nx 7 rfl (fD [25,27] h2 rfl (λ c47 h2=>?_) λ c47 h2=>?_)
  ·refine nx 2 rfl (bd h2 λ r48 e49 h2=>?_)
   refine mO rfl (br [3] [108000] 111000 111001 (aY (az.mk f38) ([92,116]:Bytes) _ e49) rfl rfl rfl rfl rfl ⟨sr,sr,trivial⟩ rfl rfl ⟨⟨_,rfl,⟨sr,sr,trivial⟩⟩,trivial⟩ rfl rfl rfl rfl rfl rfl rfl rfl Tryz.call49 rfl rfl ?_)
   exact nx 1 rfl (eX _ (oi h2).symm (aN (bf 111000 115000 rfl rfl rfl rfl rfl) (gE rfl rfl)))
  refine nx 2 rfl (bd h2 λ o87 h3 h2=>?_)
  refine kN o87 (λ v88=>⟨[(0,.p (eS s_0)),(3,.ptr 3 0),(5,.p (eK .u8 (byt s_0 t37))),(8,.p (eI (s_0.length:Int))),(9,.p (eI t37)),(29,.p (eB v88))],[(3,[.bptr 65 2 3,.vec 108000 1 (5+1) (f38.map eU)])]⟩) ?_ ?_
  ·refine nx 1 rfl (fB [29] h2 rfl (λ c52 h2=>?_) λ c52 h2=>?_)
   ·refine nx 3 rfl (bd h2 λ r53 e54 h2=>?_)
    refine mO rfl (br [3] [108000] 112000 112001 (b7 (az.mk f38) 92 _ e54) rfl rfl rfl rfl rfl ⟨sr,sr,trivial⟩ rfl rfl ⟨⟨_,rfl,⟨sr,sr,trivial⟩⟩,trivial⟩ rfl rfl rfl rfl rfl rfl rfl rfl Tryz.call81 rfl rfl ?_)
    refine nx 3 rfl (bd h2 λ r55 e56 h2=>?_)
    refine mO rfl (br [3] [112000] 113000 113001 (b7 (az.mk r53.2.fbuf) (byt s_0 t37) _ e56) rfl rfl rfl rfl rfl ⟨sr,sr,trivial⟩ rfl rfl ⟨⟨_,rfl,⟨sr,sr,trivial⟩⟩,trivial⟩ rfl rfl rfl rfl rfl rfl rfl rfl Tryz.call81 rfl rfl ?_)
    exact nx 1 rfl (eX _ (oi h2).symm (aN (bf 113000 115000 rfl rfl rfl rfl rfl) (gE rfl rfl)))
   refine nx 2 rfl (bd h2 λ o89 h3 h2=>?_)
   refine kN o89 (λ v90=>⟨[(0,.p (eS s_0)),(3,.ptr 3 0),(5,.p (eK .u8 (byt s_0 t37))),(8,.p (eI (s_0.length:Int))),(9,.p (eI t37)),(39,.p (eB v90))],[(3,[.bptr 65 2 3,.vec 108000 1 (5+1) (f38.map eU)])]⟩) ?_ ?_
   ·refine nx 1 rfl (fB [39] h2 rfl (λ c59 h2=>?_) λ c59 h2=>?_)
    ·refine nx 3 rfl (cc' h2 λ hk60 h2=>?_)
     refine mO rfl (cy rfl rfl rfl rfl rfl rfl rfl rfl (ey hk60) ?_)
     refine bd h2 λ r61 e62 h2=>oK (lE (byt s_0 t37) 16 _ e62) rfl ⟨sr,sr,trivial⟩ Tryz.call82 rfl (oC h2 rfl λ hk63 h2=>?_)
     refine oC h2 rfl λ hk64 h2=>bd h2 λ r65 e66 h2=>mO rfl (br [3] [108000] 114000 114001 (aY (az.mk f38) ((([92,117,123]:Bytes)++r61)++([125]:Bytes)) _ e66) rfl rfl rfl rfl rfl ⟨sr,sr,trivial⟩ rfl rfl ⟨⟨_,rfl,⟨sr,sr,trivial⟩⟩,trivial⟩ rfl rfl rfl rfl rfl rfl rfl rfl Tryz.call49 rfl rfl ?_)
     exact nx 1 rfl (eX _ (oi h2).symm (aN (bf 114000 115000 rfl rfl rfl rfl rfl) (gE rfl rfl)))
    refine nx 3 rfl (bd h2 λ r67 e68 h2=>?_)
    refine mO rfl (br [3] [108000] 115000 115001 (b7 (az.mk f38) (byt s_0 t37) _ e68) rfl rfl rfl rfl rfl ⟨sr,sr,trivial⟩ rfl rfl ⟨⟨_,rfl,⟨sr,sr,trivial⟩⟩,trivial⟩ rfl rfl rfl rfl rfl rfl rfl rfl Tryz.call81 rfl rfl ?_)
    exact nx 1 rfl (eX _ (oi h2).symm (gE rfl rfl))
   refine nx 4 rfl (fD [41,42] h3 rfl (λ c57 h3=>?_) λ c57 h3=>?_)
   ·exact nx 5 rfl (eX _ (oi h3).symm (gE rfl rfl))
   exact nx 5 rfl (eX _ (oi h3).symm (gE rfl rfl))
  refine nx 4 rfl (fD [31,32] h3 rfl (λ c50 h3=>?_) λ c50 h3=>?_)
  ·exact nx 5 rfl (eX _ (oi h3).symm (gE rfl rfl))
  exact nx 5 rfl (eX _ (oi h3).symm (gE rfl rfl))
 exact nx 2 rfl (eXi _ (oi h1).symm (gE rfl rfl))
end Go.Ab.R06
end
section
namespace Go.Ab.R06
open Go.Ab Go.Ab.RB
section
variable {α β:Type} {P:α→Prop}
theorem al {g:Nat→Nat→Option β}{k:Nat→Nat→β→Option α}(x:β)(h:Ev2 g (·=x))(hk:Ev2 (λ n m=>k n m x) P):Ev2 (λ n m=>(g n m).bind (k n m)) P :=
 bD (·=x) h λ y hy=>by subst hy; exact hk
end
def kM (b:UInt8):Bool:=(decide (97≤b.toNat)&&decide (b.toNat≤122))||(decide (65≤b.toNat)&&decide (b.toNat≤90))||decide (b.toNat=95)
def eh (b:UInt8):Bool:=decide (48≤b.toNat)&&decide (b.toNat≤57)
def idB (b:UInt8):Bool:=kM b||eh b
def eN:Bytes→Bool
 | []=>false
 | b::r=>decide ((b::r).length≤64)&&kM b&&r.all idB
def tn (s:Bytes)(i:Nat):Bool:=kM (s.getD i 0)||(decide (i≠0)&&eh (s.getD i 0))
def eC (p:Nat→Bool):Nat→Nat→Bool
 | _,0=>true
 | i,k+1=>p i&&eC p (i+1) k
theorem kS (p:Nat→Bool):∀ (k i:Nat),eC p i k=true↔∀ j,i≤j→j < i+k→p j=true
 | 0,i=>by simp [eC]; intro j h1 h2; omega
 | k+1,i=>by
  rw [eC,Bool.and_eq_true,kS p k (i+1)]
  constructor
  ·rintro ⟨h1,h2⟩ j h3 h4
   by_cases e:j=i
   ·rw [e]; exact h1
   ·exact h2 j (by omega) (by omega)
  ·intro h
   exact ⟨h i (by omega) (by omega),λ j h1 h2=>h j (by omega) (by omega)⟩
theorem or32:(List.range 256).all (λ n=>(decide ((97:Int)≤iOr .u8 (n:Int) 32)&&decide (iOr .u8 (n:Int) 32≤122)) == ((decide (97≤n)&&decide (n≤122))||(decide (65≤n)&&decide (n≤90))))=true:=by kernel_rfl
theorem zV (b:UInt8):(97≤iOr .u8 ((b.toNat:Nat):Int) 32∧iOr .u8 ((b.toNat:Nat):Int) 32≤122)↔((97≤b.toNat∧b.toNat≤122)∨(65≤b.toNat∧b.toNat≤90)):=by
 have h:=List.all_eq_true.1 or32 b.toNat (List.mem_range.2 b.toNat_lt)
 have h:=eq_of_beq h
 rw [Bool.eq_iff_iff] at h
 simpa using h
theorem pH (b:UInt8):kM b=true↔(97≤b.toNat∧b.toNat≤122)∨(65≤b.toNat∧b.toNat≤90)∨b.toNat=95:=by
 simp [kM,or_assoc]
theorem jF (b:UInt8):eh b=true↔48≤b.toNat∧b.toNat≤57:=by simp [eh]
theorem eqB {a b:Bool}(h:a=true↔b=true):a=b:=Bool.eq_iff_iff.2 h
theorem jG (s:Bytes)(i:Nat):tn s i=true↔kM (s.getD i 0)=true∨(i≠0∧eh (s.getD i 0)=true):=by simp [tn]
theorem pX (s:Bytes):eN s=true↔s≠[]∧s.length≤64∧eC (tn s) 0 s.length=true:=by
 rw [kS]
 cases s with
 | nil=>simp [eN]
 | cons b r =>
  simp only [eN,Bool.and_eq_true,decide_eq_true_eq,List.all_eq_true]
  constructor
  ·rintro ⟨⟨h1,h2⟩,h3⟩
   refine ⟨by simp,h1,λ j _ hj=>?_⟩
   rw [jG]
   cases j with
   | zero=>exact .inl h2
   | succ j =>
    have hm:r.getD j 0∈r:=by
     rw [List.getD_eq_getElem?_getD,List.getElem?_eq_getElem (by simp at hj; omega)]
     exact List.getElem_mem _
    have:=h3 _ hm
    simp only [idB,Bool.or_eq_true] at this
    rcases this with h | h
    ·exact .inl h
    ·exact .inr ⟨by omega,h⟩
  ·rintro ⟨_,h1,h2⟩
   refine ⟨⟨h1,?_⟩,λ x hx=>?_⟩
   ·have:=(jG _ _).1 (h2 0 (by omega) (by simp))
    simpa using this
   ·obtain ⟨j,hj,rfl⟩:=List.getElem_of_mem hx
    have:=(jG _ _).1 (h2 (j+1) (by omega) (by simp; omega))
    rw [show (b::r).getD (j+1) 0=r[j] by simp [hj]] at this
    simp only [idB,Bool.or_eq_true]
    rcases this with h | h
    ·exact .inl h
    ·exact .inr h.2
theorem tl (s:Bytes):eN s=true↔s≠[]∧s.length≤64∧kM (s.getD 0 0)=true∧eC (λ j=>idB (s.getD j 0)) 0 s.length=true:=by
 rw [pX,kS,kS]
 constructor
 ·rintro ⟨h1,h2,h3⟩
  have hl:0 < s.length:=List.length_pos_iff.2 h1
  refine ⟨h1,h2,?_,λ j _ hj=>?_⟩
  ·have:=(jG s 0).1 (h3 0 (by omega) (by omega))
   simpa using this
  ·have:=(jG s j).1 (h3 j (by omega) hj)
   simp only [idB,Bool.or_eq_true]
   rcases this with h | h
   ·exact .inl h
   ·exact .inr h.2
 ·rintro ⟨h1,h2,h3,h4⟩
  refine ⟨h1,h2,λ j _ hj=>(jG s j).2 ?_⟩
  have:=h4 j (by omega) hj
  simp only [idB,Bool.or_eq_true] at this
  by_cases e:j=0
  ·subst e; exact .inl h3
  ·rcases this with h | h
   ·exact .inl h
   ·exact .inr ⟨e,h⟩
end Go.Ab.R06
namespace Go.Ab.R06
open Go.Ab Go.Ab.RB Go.Lib
def ed (acc:Nat)(l:Bytes):Nat:=l.foldl (λ a b=>a*10+(b.toNat - 48)) acc
theorem j1 (a:Nat):ed a []=a:=rfl
theorem lU (a:Nat)(b:UInt8)(l:Bytes):ed a (b::l)=ed (a*10+(b.toNat - 48)) l:=by simp only [ed,List.foldl_cons]
theorem tC (a:Nat)(l m:Bytes):ed a (l++m)=ed (ed a l) m:=by simp [ed]
theorem nQ (a:Nat)(l:Bytes)(b:UInt8):ed a (l++[b])=ed a l*10+(b.toNat - 48):=by rw [tC]; rfl
theorem vv:∀ (l:Bytes) (a:Nat),a≤ed a l
 | [],a=>Nat.le_of_eq (j1 a).symm
 | b::r,a=>by
  rw [lU]
  have:=vv r (a*10+(b.toNat - 48))
  generalize ed (a*10+(b.toNat - 48)) r=v at this ⊢
  omega
theorem ki {l:Bytes}(h:l.all eh=true){b:UInt8}(hb:b∈l):48≤b.toNat∧b.toNat≤57:=(jF b).1 (List.all_eq_true.1 h b hb)
theorem x6:∀ (l:Bytes) (acc:Nat),l.all eh=true→(ed acc l≤18446744073709551615→parseUintM 18446744073709551615 acc l=.ok (ed acc l))∧(18446744073709551615 < ed acc l→acc≤18446744073709551615→parseUintM 18446744073709551615 acc l=.range)
 | [],acc,_=>by
  rw [j1]
  exact ⟨λ _=>rfl,λ h h'=>by omega⟩
 | b::r,acc,h=>by
  have hb:=ki h List.mem_cons_self
  have hr:r.all eh=true:=by simp only [List.all_cons,Bool.and_eq_true] at h; exact h.2
  rw [parseUintM,if_pos hb,lU]
  have hg:=vv r (acc*10+(b.toNat - 48))
  have ih:=x6 r (acc*10+(b.toNat - 48)) hr
  generalize ed (acc*10+(b.toNat - 48)) r=v at hg ih ⊢
  by_cases h1:1844674407370955162≤acc
  ·rw [if_pos h1]
   exact ⟨λ h2=>by omega,λ _ _=>rfl⟩
  ·rw [if_neg h1]
   by_cases h2:18446744073709551615 < acc*10+(b.toNat - 48)
   ·rw [if_pos h2]
    exact ⟨λ h3=>by omega,λ _ _=>rfl⟩
   ·rw [if_neg h2]
    exact ⟨ih.1,λ h3 _=>ih.2 h3 (by omega)⟩
theorem Aj (l:Bytes)(hne:l≠[])(h:l.all eh=true):parseUintB 64 l=if ed 0 l≤18446744073709551615 then .ok (ed 0 l) else .range:=by
 rw [parseUintB,if_neg hne]
 show parseUintM (2 ^ 64 - 1) 0 l=_
 rw [show (2 ^ 64 - 1:Nat)=18446744073709551615 from rfl]
 have:=x6 l 0 h
 generalize ed 0 l=v at this ⊢
 by_cases q:v≤18446744073709551615
 ·rw [if_pos q]; exact this.1 q
 ·rw [if_neg q]; exact this.2 (by omega) (by omega)
def lh (l:Bytes):Bool:=!l.isEmpty&&l.all eh&&(decide (l.getD 0 0≠48)||decide (l.length=1))
theorem gU (l:Bytes):lh l=true↔l≠[]∧l.all eh=true∧(l.getD 0 0≠48∨l.length=1):=by
 simp [lh,and_assoc]
def kJ (s:Bytes):Bool:=decide (0 < s.length)&&decide (s.getD 0 0=45)
def digits (s:Bytes):Bytes:=if kJ s=true then s.drop 1 else s
def mc (s:Bytes):Bool:=!(kJ s&&decide (s.drop 1=[48]))&&lh (digits s)
def jU (s:Bytes):Int:=if kJ s=true then -(ed 0 (digits s):Int) else (ed 0 (digits s):Int)
def ga:Int:=9007199254740992
def hZ (s:Bytes):Int×Int:=if mc s=true then (if -ga≤jU s∧jU s≤ga then (jU s,0) else (0,5)) else (0,2)
theorem xg (s:Bytes)(hs:s.length≤1000000000):∀ (k i:Nat),i+k=s.length→Ev2 (λ _ m=>bn s m (i:Int)) (·=if eC (λ j=>eh (s.getD j 0)) i k then .inl () else .inr false):=by
 intro k
 induction k with
 | zero =>
  intro i hi
  refine aA ?_
  simp only [bn]
  refine ax (by omega) (ac rfl)
 | succ k ih =>
  intro i hi
  refine aA ?_
  simp only [bn]
  refine aw (by omega) ?_
  have hb:byt s i=((s.getD i 0).toNat:Int):=b9 s i
  rw [hb]
  refine al (!eh (s.getD i 0)) ?_ ?_
  ·have h:=jF (s.getD i 0)
   generalize s.getD i 0=b at h ⊢
   refine ai (by omega) (ak (λ h1=>ac ?_) (λ h1=>ai (by omega) (ac ?_)))
   ·have:eh b=false:=by rw [← Bool.not_eq_true,h]; omega
    simp [this]
   ·refine eqB ?_
    rw [decide_eq_true_eq,Bool.not_eq_true',← Bool.not_eq_true,h]
    omega
  ·cases hk:eh (s.getD i 0) with
   | false=>exact aw rfl (ac (by simp only [eC,hk,Bool.false_and]; rfl))
   | true =>
    refine ax (by simp) (ai (aC (by omega) (by omega)) ?_)
    have:=ih (i+1) (by omega)
    rw [Int.natCast_add,Int.natCast_one] at this
    simp only [eC,hk,Bool.true_and]
    exact this
theorem sS (s:Bytes)(p:UInt8→Bool):eC (λ j=>p (s.getD j 0)) 0 s.length=s.all p:=by
 refine eqB ?_
 rw [kS,List.all_eq_true]
 constructor
 ·intro h x hx
  obtain ⟨j,hj,rfl⟩:=List.getElem_of_mem hx
  have:=h j (by omega) (by omega)
  simpa [hj] using this
 ·intro h j _ hj
  have hj:j < s.length:=by omega
  have:=h s[j] (List.getElem_mem hj)
  simpa [hj] using this
theorem rQ (s:Bytes)(hs:s.length≤1000000000):Ev2 (λ n _=>cL n s) (·=mc s):=by
 simp only [cL]
 have hb:byt s 0=((s.getD 0 0).toNat:Int):=b9 s 0
 have hneg:kJ s=true↔0 < s.length∧s.getD 0 0=45:=by simp [kJ]
 have h45:(s.getD 0 0).toNat=45↔s.getD 0 0=45:=⟨λ h=>UInt8.toNat_inj.1 h,λ h=>by rw [h]; rfl⟩
 have body:∀ t:Bytes,t.length≤1000000000→Ev2 (λ n m=>jn (bn t n 0) λ q31 =>
   ((if t=([]:Bytes) then some false else ck ((0:Int)≤0∧0 < (t.length:Int)) <| if byt t 0=48 then some (decide ((t.length:Int)=1)) else some true):Option Bool).bind λ t28=>some t28) (·=lh t):=by
  intro t ht
  have l:=xg t ht t.length 0 (by omega)
  rw [sS] at l
  have hc:=gU t
  have hb':byt t 0=((t.getD 0 0).toNat:Int):=b9 t 0
  have h48:(t.getD 0 0).toNat=48↔t.getD 0 0=48:=⟨λ h=>UInt8.toNat_inj.1 h,λ h=>by rw [h]; rfl⟩
  cases ha:t.all eh with
  | false =>
   rw [ha] at l hc
   refine dU false (aT l) (eqB ?_)
   rw [hc]; simp
  | true =>
   rw [ha] at l hc
   refine cP () (aT l) (bD (·=lh t) ?_ (λ x hx=>ac hx))
   refine ak (λ h=>ac (eqB ?_)) (λ h=>ai ?_ ?_)
   ·rw [hc]; simp [h]
   ·have:=List.length_pos_iff.2 h; omega
   ·rw [hb']
    refine ak (λ h1=>ac (eqB ?_)) (λ h1=>ac (eqB ?_))
    ·have h2:=h48.1 (by omega)
     rw [hc,decide_eq_true_eq]
     constructor
     ·intro q; exact ⟨h,by simp,.inr (by omega)⟩
     ·rintro ⟨_,_,q | q⟩
      ·exact absurd h2 q
      ·omega
    ·rw [hc]; simp only [true_iff]
     exact ⟨h,by simp,.inl λ q=>h1 (by have:=h48.2 q; omega)⟩
 refine oD (al (kJ s) ?_ ?_)
 ·refine ak (λ h=>ai (by omega) (ac (eqB ?_))) (λ h=>ac (eqB ?_))
  ·rw [hneg,hb,decide_eq_true_eq]
   constructor
   ·intro q; exact ⟨by omega,h45.1 (by omega)⟩
   ·rintro ⟨_,q⟩; have:=h45.2 q; omega
  ·rw [hneg]
   constructor
   ·intro q; cases q
   ·rintro ⟨q,_⟩; omega
 ·rw [iI]
  show Ev2 (λ n m=>if kJ s=true then ck _ (if s.drop 1=[48] then some (Sum.inr false) else some (Sum.inl (s.drop 1))) else some (Sum.inl s)) _
  refine ak (λ h=>ai ?_ (ak (λ h1=>ac ?_) (λ h1=>ac ?_))) (λ h=>ac ?_)
  ·have:=hneg.1 h; omega
  ·simp [mc,h,h1]
  ·have e:mc s=lh (s.drop 1):=by unfold mc digits; rw [if_pos h,decide_eq_false h1]; simp
   rw [e]
   exact body _ (by simp; omega)
  ·have e:mc s=lh s:=by simp [mc,h,digits]
   rw [e]
   exact body _ hs
theorem Ay (v:Int):fH v=some (decide (-ga≤v∧v≤ga)):=by
 simp only [fH]
 by_cases h:(-9007199254740992:Int)≤v
 ·rw [if_pos h]
  by_cases h2:v≤9007199254740992
  ·simp [h2,ga,h]
  ·simp [h2,ga]
 ·rw [if_neg h,Option.bind_some]
  refine congrArg some (eqB ?_)
  rw [decide_eq_true_eq]; unfold ga
  constructor
  ·intro q; cases q
  ·intro q; exact absurd q.1 h
theorem oW {s:Bytes}(h:mc s=true):digits s≠[]∧(digits s).all eh=true:=by
 simp only [mc,Bool.and_eq_true] at h
 have:=(gU _).1 h.2
 exact ⟨this.1,this.2.1⟩
theorem AU (s:Bytes)(h:mc s=true):parseIntB 64 s=if (if kJ s=true then 9223372036854775808 < ed 0 (digits s) else 9223372036854775808≤ed 0 (digits s)) then .range else .ok (jU s):=by
 obtain ⟨h1,h2⟩:=oW h
 cases s with
 | nil=>exact absurd (by simp [digits,kJ]) h1
 | cons c r =>
  have e45:c.toNat=45↔c=45:=⟨λ h=>UInt8.toNat_inj.1 h,λ h=>by rw [h]; rfl⟩
  have hneg:kJ (c::r)=decide (c=45):=by simp [kJ]
  have hd:(if c.toNat=43∨c.toNat=45 then r else c::r)=digits (c::r):=by
   unfold digits
   rw [hneg]
   by_cases q:c=45
   ·rw [if_pos (.inr (e45.2 q)),if_pos (by simp [q])]; rfl
   ·have e:digits (c::r)=c::r:=by unfold digits; rw [hneg,if_neg (by simp [q])]
    have e2:(if decide (c=45)=true then List.drop 1 (c::r) else c::r)=c::r:=if_neg (by simp [q])
    rw [e2,if_neg]
    rintro (k | k)
    ·rw [e] at h2
     have:=ki h2 List.mem_cons_self
     omega
    ·exact q (e45.1 k)
  have hp:=Aj _ h1 h2
  unfold parseIntB
  simp only [hd,hp]
  rw [hneg]
  unfold jU
  rw [hneg]
  generalize ed 0 (digits (c::r))=v
  by_cases q:c=45
  ·subst q
   by_cases hv:v≤18446744073709551615
   ·simp only [hv,if_true]
    by_cases hw:9223372036854775808 < v
    ·simp [hw]
    ·simp [hw]
   ·simp only [hv,if_false]
    rw [if_pos]; simp; omega
  ·have q':¬ c.toNat=45:=λ k=>q (e45.1 k)
   by_cases hv:v≤18446744073709551615
   ·simp only [hv,if_true]
    by_cases hw:9223372036854775808≤v
    ·simp [q,q',hw]
    ·simp [q,q',hw]
   ·simp only [hv,if_false]
    rw [if_pos]; simp [q]; omega
theorem oT (s:Bytes)(hs:s.length≤1000000000):Ev2 (λ n _=>em n s) (·=hZ s):=by
 simp only [em]
 refine al _ (rQ s hs) ?_
 cases hc:mc s with
 | false=>exact aw rfl (ac (by simp [hZ,hc]))
 | true =>
  refine ax (by simp) ?_
  have hp:fy s 10 64=some (match parseIntB 64 s with | .ok v=>(v,false) | .range=>(intSat 64 s,true) | _=>(0,true)):=by
   unfold fy
   exact bm ⟨rfl,rfl,by omega⟩
  rw [AU s hc] at hp
  have e:hZ s=(if -ga≤jU s∧jU s≤ga then (jU s,0) else (0,5)):=by simp [hZ,hc]
  rw [e]
  by_cases hr:(if kJ s=true then 9223372036854775808 < ed 0 (digits s) else 9223372036854775808≤ed 0 (digits s))
  ·rw [if_pos hr] at hp
   refine al _ (aO hp rfl) ?_
   refine al true (aw rfl (ac rfl)) (aw rfl (ac ?_))
   rw [if_neg]
   unfold jU ga
   cases hn:kJ s with
   | true=>rw [hn,if_pos rfl] at hr; rw [if_pos rfl]; omega
   | false=>rw [hn,if_neg (by simp)] at hr; rw [if_neg (by simp)]; omega
  ·rw [if_neg hr] at hp
   refine al _ (aO hp rfl) ?_
   refine al (!decide (-ga≤jU s∧jU s≤ga)) ?_ ?_
   ·exact ax (by simp) (al _ (aO (Ay _) rfl) (ac rfl))
   ·by_cases q:-ga≤jU s∧jU s≤ga
    ·rw [if_pos q]
     exact ax (by simp [q]) (ac rfl)
    ·rw [if_neg q]
     exact aw (by simp only [q,decide_false,Bool.not_false]) (ac rfl)
theorem sd:∀ (n u:Nat),u < n→ed 0 (decDigits u)=u∧(decDigits u).all eh=true∧decDigits u≠[]∧((decDigits u).getD 0 0≠48∨(decDigits u).length=1)∧(1≤u→(decDigits u).getD 0 0≠48):=by
 intro n
 induction n with
 | zero=>intro u h; omega
 | succ n ih =>
  intro u hu
  have hdig:∀ k,k < 10→(UInt8.ofNat (48+k)).toNat=48+k:=λ k hk=>by
   rw [UInt8.toNat_ofNat']; omega
  rw [decDigits]
  by_cases h:u < 10
  ·rw [dif_pos h]
   have:=hdig u h
   refine ⟨by rw [lU,j1,this]; omega,by simp only [List.all_cons,List.all_nil,Bool.and_true,jF,this]; omega,by simp,.inr rfl,λ h1=>?_⟩
   intro q
   have q':(UInt8.ofNat (48+u))=48:=q
   rw [q'] at this
   have:(48:UInt8).toNat=48:=rfl
   omega
  ·rw [dif_neg h]
   obtain ⟨a1,a2,a3,a4,a5⟩:=ih (u / 10) (by omega)
   have hd:=hdig (u % 10) (by omega)
   have hh:(decDigits (u / 10)++[UInt8.ofNat (48+u % 10)]).getD 0 0=(decDigits (u / 10)).getD 0 0:=by
    cases hx:decDigits (u / 10) with
    | nil=>exact absurd hx a3
    | cons c r=>rfl
   refine ⟨?_,?_,by simp,?_,?_⟩
   ·rw [nQ,a1,hd]; omega
   ·rw [List.all_append,a2]; simp only [List.all_cons,List.all_nil,Bool.and_true,Bool.true_and,jF,hd]; omega
   ·rw [hh]; exact .inl (a5 (by omega))
   ·rw [hh]; exact λ _=>a5 (by omega)
theorem oL:∀ (n:Nat) (l:Bytes),l.length≤n→lh l=true→decDigits (ed 0 l)=l∧(l.getD 0 0≠48→1≤ed 0 l):=by
 intro n
 induction n with
 | zero=>intro l hl h; have:=((gU l).1 h).1; cases l <;> simp_all
 | succ n ih =>
  intro l hl h
  obtain ⟨h1,h2,h3⟩:=(gU l).1 h
  have hof:∀ b:UInt8,48≤b.toNat→UInt8.ofNat (48+(b.toNat - 48))=b:=λ b hb=>by
   rw [show 48+(b.toNat - 48)=b.toNat by omega]; simp
  rcases List.eq_nil_or_concat l with rfl | ⟨m,b,rfl⟩
  ·exact absurd rfl h1
  ·simp only [List.concat_eq_append] at *
   have hb:=ki h2 (b:=b) (by simp)
   rw [nQ]
   by_cases hm:m=[]
   ·subst hm
    rw [j1,decDigits,dif_pos (by omega)]
    refine ⟨by simp [hof b hb.1],λ q=>?_⟩
    have q:b≠48:=q
    have:b.toNat≠48:=λ k=>q (UInt8.toNat_inj.1 k)
    omega
   ·have hcm:lh m=true:=by
     rw [gU]
     refine ⟨hm,?_,?_⟩
     ·rw [List.all_append,Bool.and_eq_true] at h2; exact h2.1
     ·rcases h3 with q | q
      ·left
       cases m with
       | nil=>exact absurd rfl hm
       | cons c r=>exact q
      ·cases m with
       | nil=>exact absurd rfl hm
       | cons c r=>simp at q
    obtain ⟨i1,i2⟩:=ih m (by simp at hl; omega) hcm
    have hne:m.getD 0 0≠48:=by
     rcases h3 with q | q
     ·cases m with
      | nil=>exact absurd rfl hm
      | cons c r=>exact q
     ·cases m with
      | nil=>exact absurd rfl hm
      | cons c r=>simp at q
    have hpos:=i2 hne
    refine ⟨?_,λ _=>by omega⟩
    rw [decDigits,dif_neg (by omega)]
    rw [show (ed 0 m*10+(b.toNat - 48)) / 10=ed 0 m by omega,show (ed 0 m*10+(b.toNat - 48)) % 10=b.toNat - 48 by omega,i1,hof b hb.1]
theorem q6 (v:Int)(h0:0≤v)(h1:v≤ga):hZ (itoa v)=(v,0):=by
 obtain ⟨u,rfl⟩:∃ u:Nat,v=u:=⟨v.toNat,by omega⟩
 have e:itoa (u:Int)=decDigits u:=by unfold itoa; rw [if_neg (by omega)]; simp
 obtain ⟨a1,a2,a3,a4,a5⟩:=sd (u+1) u (by omega)
 have hn:kJ (decDigits u)=false:=by
  rw [← Bool.not_eq_true]
  intro q
  simp only [kJ,Bool.and_eq_true,decide_eq_true_eq] at q
  have hm:(decDigits u).getD 0 0∈decDigits u:=by
   rw [List.getD_eq_getElem?_getD,List.getElem?_eq_getElem q.1]; exact List.getElem_mem _
  have:=ki a2 hm
  rw [q.2] at this
  have:(45:UInt8).toNat=45:=rfl
  omega
 have hd:digits (decDigits u)=decDigits u:=by simp [digits,hn]
 have hc:mc (decDigits u)=true:=by
  simp only [mc,hn,hd,Bool.false_and,Bool.not_false,Bool.true_and]
  exact (gU _).2 ⟨a3,a2,a4⟩
 have hv:jU (decDigits u)=u:=by simp [jU,hn,hd,a1]
 rw [e,hZ,if_pos hc,hv,if_pos ⟨by unfold ga at *; omega,h1⟩]
theorem wk (s:Bytes)(v:Int)(h:hZ s=(v,0))(h0:0≤v):itoa v=s∧v≤ga:=by
 unfold hZ at h
 split at h
 ·rename_i hc
  split at h
  ·rename_i hr
   have hv:jU s=v:=congrArg Prod.fst h
   obtain ⟨h1,h2⟩:=oW hc
   simp only [mc,Bool.and_eq_true] at hc
   have hb:=(oL _ (digits s) (Nat.le_refl _) hc.2)
   have hcn:=(gU _).1 hc.2
   cases hn:kJ s with
   | true =>
    exfalso
    have hv2:jU s=-(ed 0 (digits s):Int):=by simp [jU,hn]
    have hz:ed 0 (digits s)=0:=by omega
    have:decDigits 0=digits s:=by rw [← hz]; exact hb.1
    rw [decDigits,dif_pos (by omega)] at this
    have hd:digits s=s.drop 1:=by simp [digits,hn]
    rw [hd] at this
    have h48:s.drop 1=[48]:=this.symm
    simp [hn,h48] at hc
   | false =>
    have hd:digits s=s:=by simp [digits,hn]
    have hv2:jU s=(ed 0 s:Int):=by simp [jU,hn,hd]
    rw [hd] at hb
    refine ⟨?_,by rw [← hv]; exact hr.2⟩
    rw [← hv,hv2]
    unfold itoa
    rw [if_neg (by omega)]
    simpa using hb.1
  ·have:=congrArg Prod.snd h; simp at this
 ·have:=congrArg Prod.snd h; simp at this
end Go.Ab.R06
namespace Go.Ab.R06
open Go.Ab Go.Ab.RB Go.Lib
theorem nD (x:Int):IntKind.wrap .u8 x=x % 256:=by simp [IntKind.wrap,IntKind.bits,IntKind.signed]
theorem wrap32 (x:Int):IntKind.wrap .u32 x=x % 4294967296:=by simp [IntKind.wrap,IntKind.bits,IntKind.signed]
theorem shr6 (x:Int):bM .i32 x 6=x / 64:=by
 show x.fdiv (2 ^ 6)=x / 64
 rw [Int.fdiv_eq_ediv_of_nonneg _ (by decide)]; rfl
theorem A7 (x:Int):bM .i32 x 12=x / 4096:=by
 show x.fdiv (2 ^ 12)=x / 4096
 rw [Int.fdiv_eq_ediv_of_nonneg _ (by decide)]; rfl
theorem A6 (x:Int):bM .i32 x 18=x / 262144:=by
 show x.fdiv (2 ^ 18)=x / 262144
 rw [Int.fdiv_eq_ediv_of_nonneg _ (by decide)]; rfl
theorem t63:(List.range 256).all (λ n=>bh .u8 (n:Int) 63 == ((n % 64:Nat):Int))=true:=by kernel_rfl
theorem t128:(List.range 64).all (λ n=>iOr .u8 128 (n:Int) == ((128+n:Nat):Int))=true:=by kernel_rfl
theorem t192:(List.range 32).all (λ n=>iOr .u8 192 (n:Int) == ((192+n:Nat):Int))=true:=by kernel_rfl
theorem t224:(List.range 16).all (λ n=>iOr .u8 224 (n:Int) == ((224+n:Nat):Int))=true:=by kernel_rfl
theorem t240:(List.range 8).all (λ n=>iOr .u8 240 (n:Int) == ((240+n:Nat):Int))=true:=by kernel_rfl
theorem tab {f g:Nat→Int}{m:Nat}(h:(List.range m).all (λ n=>f n == g n)=true)(n:Nat)(hn:n < m):f n=g n:=eq_of_beq (List.all_eq_true.1 h n (List.mem_range.2 hn))
theorem xa (x:Int):bh .u8 (IntKind.wrap .u8 x) 63=x % 64:=by
 rw [nD]
 obtain ⟨n,hn⟩:∃ n:Nat,x % 256=n:=⟨(x % 256).toNat,by omega⟩
 rw [hn,tab t63 n (by omega)]; omega
theorem yf {x:Int}(h0:0≤x)(h1:x < 64):iOr .u8 128 x=128+x:=by
 obtain ⟨n,rfl⟩:∃ n:Nat,x=n:=⟨x.toNat,by omega⟩
 rw [tab t128 n (by omega)]; omega
theorem A9 {x:Int}(h0:0≤x)(h1:x < 32):iOr .u8 192 x=192+x:=by
 obtain ⟨n,rfl⟩:∃ n:Nat,x=n:=⟨x.toNat,by omega⟩
 rw [tab t192 n (by omega)]; omega
theorem Bf {x:Int}(h0:0≤x)(h1:x < 16):iOr .u8 224 x=224+x:=by
 obtain ⟨n,rfl⟩:∃ n:Nat,x=n:=⟨x.toNat,by omega⟩
 rw [tab t224 n (by omega)]; omega
theorem Bi {x:Int}(h0:0≤x)(h1:x < 8):iOr .u8 240 x=240+x:=by
 obtain ⟨n,rfl⟩:∃ n:Nat,x=n:=⟨x.toNat,by omega⟩
 rw [tab t240 n (by omega)]; omega
def ee (r:Int):Prop:=(0≤r∧r < 55296)∨(57343 < r∧r≤1114111)
theorem tq (p:Bytes)(r:Int)(h:ee r)(hp:p.length≤100000000000):cM p r=some (p++encodeRune r):=by
 have h0:0≤r∧r≤1114111:=by unfold ee at h; omega
 have hw:IntKind.wrap .u32 r=r:=by rw [wrap32]; omega
 unfold cM
 rw [hw]
 by_cases h1:r≤127
 ·have hw8:IntKind.wrap .u8 r=r:=by rw [nD]; omega
  rw [if_pos h1,hw8,bm (by omega),bm (by simp; omega)]
  simp only [encodeRune,encodeRuneZ,if_pos (show 0≤r∧r≤127 from ⟨h0.1,h1⟩),List.map_cons,List.map_nil,u8]
 rw [if_neg h1]
 unfold ce
 rw [hw,xa,shr6,A7,A6,xa,xa]
 have o1:iOr .u8 128 (r % 64)=128+r % 64:=yf (by omega) (by omega)
 have o2:iOr .u8 128 (r / 64 % 64)=128+r / 64 % 64:=yf (by omega) (by omega)
 have o3:iOr .u8 128 (r / 4096 % 64)=128+r / 4096 % 64:=yf (by omega) (by omega)
 rw [o1,o2,o3]
 have n1:¬ (0≤r∧r≤127):=by omega
 by_cases h2:r≤2047
 ·have hw8:IntKind.wrap .u8 (r / 64)=r / 64:=by rw [nD]; omega
  rw [if_pos h2,hw8,A9 (by omega) (by omega),bm (by omega),bm (by omega),bm (by omega),bm (by simp; omega)]
  simp only [encodeRune,encodeRuneZ,if_neg n1,if_pos (show 128≤r∧r≤2047 by omega),List.map_cons,List.map_nil,u8,Option.bind_some]
 rw [if_neg h2]
 have n2:¬ (128≤r∧r≤2047):=by omega
 by_cases h3:r < 55296∨(57343 < r∧r≤65535)
 ·have hw8:IntKind.wrap .u8 (r / 4096)=r / 4096:=by rw [nD]; omega
  have e:((if r < 55296 then some true else if 57343 < r then some (decide (r≤65535)) else some false):Option Bool)=some true:=by
   rcases h3 with q | q
   ·rw [if_pos q]
   ·rw [if_neg (by omega),if_pos q.1]; simp [q.2]
  rw [e,Option.bind_some,if_pos rfl,hw8,Bf (by omega) (by omega),bm (by omega),bm (by omega),bm (by omega),bm (by omega),bm (by omega),bm (by simp; omega)]
  simp only [encodeRune,encodeRuneZ,if_neg n1,if_neg n2,if_pos (show (2048≤r∧r < 55296)∨(57343 < r∧r≤65535) by omega),List.map_cons,List.map_nil,u8,Option.bind_some]
 ·have h4:65535 < r:=by unfold ee at h; omega
  have hw8:IntKind.wrap .u8 (r / 262144)=r / 262144:=by rw [nD]; omega
  have e:((if r < 55296 then some true else if 57343 < r then some (decide (r≤65535)) else some false):Option Bool)=some false:=by
   rw [if_neg (by omega),if_pos (by omega)]; simp; omega
  have e2:((if 65535 < r then some (decide (r≤1114111)) else some false):Option Bool)=some true:=by rw [if_pos h4]; simp; omega
  rw [e,Option.bind_some,if_neg (by simp),e2,Option.bind_some,if_pos rfl,hw8,Bi (by omega) (by omega),bm (by omega),bm (by omega),bm (by omega),bm (by omega),bm (by omega),bm (by omega),bm (by omega),bm (by simp; omega)]
  simp only [encodeRune,encodeRuneZ,if_neg n1,if_neg n2,if_neg (show ¬ ((2048≤r∧r < 55296)∨(57343 < r∧r≤65535)) by omega),if_pos (show 65536≤r∧r≤1114111 by omega),List.map_cons,List.map_nil,u8,Option.bind_some]
theorem lY (l:Bytes)(h:l≠[]):decodeGo (str l)=decodeL l:=by
 unfold decodeGo
 rw [if_neg]
 ·rfl
 ·rw [fp]; intro q; exact h (List.length_eq_zero_iff.1 q)
theorem jP (r:Int)(_h:ee r):1≤(encodeRune r).length∧(encodeRune r).length≤4:=by
 unfold encodeRune encodeRuneZ
 rw [List.length_map]
 repeat' split
 all_goals simp
theorem vn (r:Int)(h:ee r)(t:Bytes):decodeL (encodeRune r++t)=(r.toNat,(encodeRune r).length):=by
 have h0:0≤r∧r≤1114111:=by unfold ee at h; omega
 have hb:∀ x:Int,0≤x→x < 256→(x.toNat.toUInt8).toNat=x.toNat:=λ x a b=>by
  show (UInt8.ofNat x.toNat).toNat=_
  rw [UInt8.toNat_ofNat']; omega
 rw [decodeL_N]
 by_cases h1:r≤127
 ·have e:encodeRune r=[r.toNat.toUInt8]:=by simp only [encodeRune,encodeRuneZ,if_pos (show 0≤r∧r≤127 from ⟨h0.1,h1⟩),List.map_cons,List.map_nil]
  rw [e]
  have b0:=hb r (by omega) (by omega)
  simp only [List.cons_append,List.getD_cons_zero,b0]
  unfold decodeN
  rw [if_pos (by omega)]; rfl
 have n1:¬ (0≤r∧r≤127):=by omega
 by_cases h2:r≤2047
 ·have e:encodeRune r=[(192+r / 64).toNat.toUInt8,(128+r % 64).toNat.toUInt8]:=by
   simp only [encodeRune,encodeRuneZ,if_neg n1,if_pos (show 128≤r∧r≤2047 by omega),List.map_cons,List.map_nil]
  rw [e]
  have b0:=hb (192+r / 64) (by omega) (by omega)
  have b1:=hb (128+r % 64) (by omega) (by omega)
  simp only [List.cons_append,List.getD_cons_zero,List.getD_cons_succ,b0,b1,List.length_cons,List.nil_append]
  unfold decodeN
  rw [if_neg (by omega),if_pos (by omega),if_pos (by omega)]
  refine Prod.ext ?_ rfl
  show _=r.toNat
  simp only; omega
 have n2:¬ (128≤r∧r≤2047):=by omega
 by_cases h3:r < 55296∨(57343 < r∧r≤65535)
 ·have e:encodeRune r=[(224+r / 4096).toNat.toUInt8,(128+r / 64 % 64).toNat.toUInt8,(128+r % 64).toNat.toUInt8]:=by
   simp only [encodeRune,encodeRuneZ,if_neg n1,if_neg n2,if_pos (show (2048≤r∧r < 55296)∨(57343 < r∧r≤65535) by omega),List.map_cons,List.map_nil]
  rw [e]
  have b0:=hb (224+r / 4096) (by omega) (by omega)
  have b1:=hb (128+r / 64 % 64) (by omega) (by omega)
  have b2:=hb (128+r % 64) (by omega) (by omega)
  simp only [List.cons_append,List.getD_cons_zero,List.getD_cons_succ,b0,b1,b2,List.length_cons,List.nil_append]
  unfold decodeN
  rw [if_neg (by omega),if_neg (by omega),if_pos (by omega),if_pos (by omega)]
  refine Prod.ext ?_ rfl
  show _=r.toNat
  simp only; omega
 ·have h4:65535 < r:=by unfold ee at h; omega
  have e:encodeRune r=[(240+r / 262144).toNat.toUInt8,(128+r / 4096 % 64).toNat.toUInt8,(128+r / 64 % 64).toNat.toUInt8,(128+r % 64).toNat.toUInt8]:=by
   simp only [encodeRune,encodeRuneZ,if_neg n1,if_neg n2,if_neg (show ¬ ((2048≤r∧r < 55296)∨(57343 < r∧r≤65535)) by omega),if_pos (show 65536≤r∧r≤1114111 by omega),List.map_cons,List.map_nil]
  rw [e]
  have b0:=hb (240+r / 262144) (by omega) (by omega)
  have b1:=hb (128+r / 4096 % 64) (by omega) (by omega)
  have b2:=hb (128+r / 64 % 64) (by omega) (by omega)
  have b3:=hb (128+r % 64) (by omega) (by omega)
  simp only [List.cons_append,List.getD_cons_zero,List.getD_cons_succ,b0,b1,b2,b3,List.length_cons,List.nil_append]
  unfold decodeN
  rw [if_neg (by omega),if_neg (by omega),if_neg (by omega),if_pos (by omega),if_pos (by omega)]
  refine Prod.ext ?_ rfl
  show _=r.toNat
  simp only; omega
theorem rD (r:Int)(h:ee r)(t:Bytes):validD (encodeRune r++t)=validD t:=by
 have hl:=jP r h
 have hne:encodeRune r++t≠[]:=by
  intro q; rw [List.append_eq_nil_iff] at q; rw [q.1] at hl; simp at hl
 rw [validD_step _ hne,vn r h t,if_neg]
 ·simp
 ·rintro ⟨a,b⟩
  have hr:r=65533:=by omega
  subst hr
  simp [encodeRune,encodeRuneZ] at b
theorem jm (l:Bytes)(h:l≠[]):1≤(decodeL l).2∧(decodeL l).2≤l.length∧(¬ ((decodeL l).1=65533∧(decodeL l).2=1)→ee ((decodeL l).1:Int)∧encodeRune ((decodeL l).1:Int)=l.take (decodeL l).2):=by
 have hl:0 < l.length:=List.length_pos_iff.2 h
 have hd:=zi l.length (l.getD 0 0).toNat (l.getD 1 0).toNat (l.getD 2 0).toNat (l.getD 3 0).toNat (by omega) (UInt8.toNat_lt _)
 rw [← decodeL_N] at hd
 refine ⟨hd.1,hd.2.1,λ q=>⟨?_,encode_decode l h q⟩⟩
 have:=hd.2.2.2.2.2
 unfold ee; omega
theorem pL (l:Bytes)(h:l≠[]):validD l=true↔¬ ((decodeL l).1=65533∧(decodeL l).2=1)∧validD (l.drop (decodeL l).2)=true:=by
 rw [validD_step l h]
 by_cases q:(decodeL l).1=65533∧(decodeL l).2=1
 ·simp [q]
 ·simp [q]
end Go.Ab.R06
namespace Go.Ab.R06
open Go.Ab Go.Ab.RB Go.Lib
theorem tG (f x:Bytes)(h:f.length+x.length≤100000000000):aJ (az.mk f) x=some ((x.length:Int),false,az.mk (f++x)):=by
 unfold aJ bI
 rw [Option.bind_some,bm (by simp only; omega)]
theorem tE (f:Bytes)(b:UInt8)(h:f.length≤100000000000):bi (az.mk f) (b.toNat:Int)=some (false,az.mk (f++[b])):=by
 have:=b.toNat_lt
 unfold bi bI
 rw [Option.bind_some,bm (by omega),bm (by simp; omega),xV]
theorem zP (f:Bytes)(r:Int)(hr:ee r)(h:f.length≤10000000000):cx (az.mk f) r=some (((encodeRune r).length:Int),false,az.mk (f++encodeRune r)):=by
 have hl:=jP r hr
 unfold cx bI
 rw [Option.bind_some,tq f r hr (by omega),Option.bind_some]
 have e:((f++encodeRune r).length:Int) - (f.length:Int)=(encodeRune r).length:=by rw [List.length_append]; omega
 rw [e,bm (aC (by omega) (by omega))]
theorem AK (f:Bytes)(h:f.length≤1000000000000):ct (az.mk f)=some (f,az.mk f):=by
 unfold ct
 rw [bm (by simp only; omega)]
def ew (b:UInt8):Bytes :=
 if b.toNat=10 then [92,110] else if b.toNat=13 then [92,114] else if b.toNat=9 then [92,116]
 else if b.toNat=34∨b.toNat=92 then [92,b] else if b.toNat < 32∨b.toNat=127 then [92,117,123]++cA b.toNat++[125] else [b]
def eg (s:Bytes):Bytes:=34::(s.flatMap ew++[34])
theorem vg {b:UInt8}(h:b.toNat=10):ew b=[92,110]:=by unfold ew; rw [if_pos h]
theorem vA {b:UInt8}(h:b.toNat=13):ew b=[92,114]:=by unfold ew; rw [if_neg (by omega),if_pos h]
theorem vj {b:UInt8}(h:b.toNat=9):ew b=[92,116]:=by unfold ew; rw [if_neg (by omega),if_neg (by omega),if_pos h]
theorem x9 {b:UInt8}(h:b.toNat=34∨b.toNat=92):ew b=[92,b]:=by unfold ew; rw [if_neg (by omega),if_neg (by omega),if_neg (by omega),if_pos h]
theorem vh {b:UInt8}(h1:b.toNat≠10)(h2:b.toNat≠13)(h3:b.toNat≠9)(h:b.toNat < 32∨b.toNat=127):ew b=[92,117,123]++cA b.toNat++[125]:=by
 unfold ew; rw [if_neg h1,if_neg h2,if_neg h3,if_neg (by omega),if_pos h]
theorem tg {b:UInt8}(h1:b.toNat≠34)(h2:b.toNat≠92)(h:¬ (b.toNat < 32∨b.toNat=127)):ew b=[b]:=by
 unfold ew; rw [if_neg (by omega),if_neg (by omega),if_neg (by omega),if_neg (by omega),if_neg h]
theorem lb (n:Nat):1≤(cA n).length∧(cA n).length≤2:=by
 unfold cA; split <;> simp
theorem nh (b:UInt8):1≤(ew b).length∧(ew b).length≤6:=by
 have:=lb b.toNat
 unfold ew
 repeat' split
 all_goals (simp; try omega)
theorem qn (s:Bytes):s.length≤(s.flatMap ew).length∧(s.flatMap ew).length≤6*s.length:=by
 induction s with
 | nil=>simp
 | cons b r ih=>have:=nh b; simp only [List.flatMap_cons,List.length_append,List.length_cons]; omega
theorem xO (s:Bytes)(hs:s.length≤1000000000):∀ (k i:Nat) (f:Bytes),i+k=s.length→f.length≤6*i+1→Ev2 (λ _ m=>bY s m (i:Int) f) (·=f++(s.drop i).flatMap ew):=by
 intro k
 induction k with
 | zero =>
  intro i f hi hf
  refine aA ?_
  simp only [bY]
  refine ax (by omega) (ac ?_)
  rw [List.drop_of_length_le (by omega)]; simp
 | succ k ih =>
  intro i f hi hf
  refine aA ?_
  simp only [bY]
  refine aw (by omega) (ai (by omega) ?_)
  have hb:byt s i=((s.getD i 0).toNat:Int):=b9 s i
  rw [hb]
  have hd:s.drop i=s.getD i 0::s.drop (i+1):=by
   rw [List.getD_eq_getElem?_getD,List.getElem?_eq_getElem (by omega),Option.getD_some]
   exact List.drop_eq_getElem_cons (by omega)
  rw [hd,List.flatMap_cons]
  generalize s.getD i 0=b
  have hbl:=b.toNat_lt
  have he:=nh b
  refine al (f++ew b) ?_ ?_
  ·refine ak (λ h1=>?_) (λ h1=>ak (λ h2=>?_) (λ h2=>ak (λ h3=>?_) (λ h3=>?_)))
   ·rw [vg (by omega)]
    exact al _ (aO (tG f [92,110] (by simp only [List.length_cons,List.length_nil]; omega)) rfl) (ac rfl)
   ·rw [vA (by omega)]
    exact al _ (aO (tG f [92,114] (by simp only [List.length_cons,List.length_nil]; omega)) rfl) (ac rfl)
   ·rw [vj (by omega)]
    exact al _ (aO (tG f [92,116] (by simp only [List.length_cons,List.length_nil]; omega)) rfl) (ac rfl)
   refine al (decide (b.toNat=34∨b.toNat=92)) ?_ ?_
   ·by_cases h:b.toNat=34
    ·exact aw (by omega) (ac (by simp [h]))
    ·exact ax (by omega) (ac (eqB (by rw [decide_eq_true_eq,decide_eq_true_eq]; omega)))
   by_cases h4:b.toNat=34∨b.toNat=92
   ·rw [x9 h4]
    refine aw (by simp [h4]) ?_
    refine al _ (aO (tE f 92 (by omega)) rfl) (al _ (aO (tE (f++[92]) b (by simp only [List.length_append,List.length_cons,List.length_nil]; omega)) rfl) (ac ?_))
    simp
   refine ax (by simp only [decide_eq_true_eq]; exact h4) ?_
   refine al (decide (b.toNat < 32∨b.toNat=127)) ?_ ?_
   ·by_cases h:b.toNat < 32
    ·exact aw (by omega) (ac (by simp [h]))
    ·exact ax (by omega) (ac (eqB (by rw [decide_eq_true_eq,decide_eq_true_eq]; omega)))
   by_cases h5:b.toNat < 32∨b.toNat=127
   ·rw [vh (by omega) (by omega) (by omega) h5]
    refine aw (by simp [h5]) (ai (aC (by omega) (by omega)) ?_)
    have hx:fc (b.toNat:Int) 16=some (cA b.toNat):=by
     unfold fc
     rw [bm ⟨rfl,by omega,by omega⟩]; rfl
    have hxl:=lb b.toNat
    refine al _ (aO hx rfl) (ai (by simp only [List.length_cons,List.length_nil]; omega) (ai (by simp only [List.length_append,List.length_cons,List.length_nil]; omega) ?_))
    exact al _ (aO (tG f _ (by simp only [List.length_append,List.length_cons,List.length_nil]; omega)) rfl) (ac (by simp))
   ·rw [tg (by omega) (by omega) h5]
    refine ax (by simp only [decide_eq_true_eq]; exact h5) ?_
    exact al _ (aO (tE f b (by omega)) rfl) (ac rfl)
  ·refine ai (aC (by omega) (by omega)) ?_
   have:=ih (i+1) (f++ew b) (by omega) (by rw [List.length_append]; omega)
   rw [Int.natCast_add,Int.natCast_one] at this
   simpa using this
theorem xf (s:Bytes)(hs:s.length≤1000000000):Ev2 (λ n _=>ep n s) (·=eg s):=by
 simp only [ep]
 have hf:=qn s
 refine al _ (aO (tE [] 34 (by simp)) rfl) ?_
 have l:=xO s hs s.length 0 [34] (by omega) (by simp)
 rw [List.drop_zero] at l
 refine al _ (aT l) ?_
 refine al _ (aO (tE _ 34 (by simp only [List.length_append,List.length_cons,List.length_nil]; omega)) rfl) (al _ (aO (AK _ (by simp only [List.length_append,List.length_cons,List.length_nil]; omega)) rfl) (ac ?_))
 simp [eg]
theorem AG (s:Bytes):en s=some (decide (s.length≤4096)&&validD s):=by
 unfold en
 by_cases h:(s.length:Int)≤4096
 ·have hv:dx s=some (validD s):=by unfold dx; exact bm (by omega)
  rw [if_pos h,hv]
  simp; omega
 ·rw [if_neg h]
  simp; intro q; omega
end Go.Ab.R06
namespace Go.Ab.R06
open Go.Ab Go.Ab.RB Go.Lib
def nN (b:UInt8):Option Nat:=if 48≤b.toNat∧b.toNat≤57 then some (b.toNat - 48) else if 97≤b.toNat∧b.toNat≤102 then some (b.toNat - 87) else none
def zw:Bytes:=[48,49,50,51,52,53,54,55,56,57,97,98,99,100,101,102]
theorem hexT:(List.range 256).all (λ n=>indexByte zw (UInt8.ofNat n) == (match nN (UInt8.ofNat n) with | some d=>(d:Int) | none=>-1))=true:=by kernel_rfl
theorem wE (b:UInt8):indexByte zw b=match nN b with | some d=>(d:Int) | none=>-1:=by
 have:=eq_of_beq (List.all_eq_true.1 hexT b.toNat (List.mem_range.2 b.toNat_lt))
 simpa using this
theorem vu {b:UInt8}{d:Nat}(h:nN b=some d):d < 16:=by
 unfold nN at h
 split at h
 ·cases h; omega
 ·split at h
  ·cases h; omega
  ·cases h
def cm:Nat→Bytes→Nat→Nat×Nat
 | 0,_,a=>(a,0)
 | _+1,[],a=>(a,0)
 | k+1,b::r,a=>match nN b with
  | some d=>((cm k r (16*a+d)).1,(cm k r (16*a+d)).2+1)
  | none=>(a,0)
theorem lW:∀ (k:Nat) (l:Bytes) (a:Nat),(cm k l a).2≤k∧(cm k l a).2≤l.length
 | 0,_,_=>⟨Nat.le_refl _,Nat.zero_le _⟩
 | _+1,[],_=>⟨Nat.zero_le _,Nat.le_refl _⟩
 | k+1,b::r,a=>by
  unfold cm
  cases nN b with
  | none=>exact ⟨Nat.zero_le _,Nat.zero_le _⟩
  | some d=>have:=lW k r (16*a+d); simp only [List.length_cons]; omega
theorem l5 (n:Int)(h0:0≤n)(h1:n < 2147483648):IntKind.wrap .i32 n=n:=by
 simp [IntKind.wrap,IntKind.bits,IntKind.signed]
 omega
theorem Ai (s:Bytes)(_hs:s.length≤1000000000):∀ (k i a:Nat),i+k=6→i≤s.length→a < 16 ^ i→Ev2 (λ _ m=>bj s m (a:Int) (i:Int))
  (·=(((cm k (s.drop i) a).1:Int),((i+(cm k (s.drop i) a).2:Nat):Int))):=by
 intro k
 induction k with
 | zero =>
  intro i a hi hl ha
  refine aA ?_
  simp only [bj]
  refine al false ?_ (ax (by simp) (ac (by simp [cm])))
  exact ak (λ h=>ac (by simp; omega)) (λ h=>ac rfl)
 | succ k ih =>
  intro i a hi hl ha
  refine aA ?_
  simp only [bj]
  by_cases h:i < s.length
  ·refine al true (aw (by omega) (ac (by simp; omega))) (aw rfl (ai (by omega) ?_))
   have hb:byt s i=((s.getD i 0).toNat:Int):=b9 s i
   rw [hb]
   have hd:s.drop i=s.getD i 0::s.drop (i+1):=by
    rw [List.getD_eq_getElem?_getD,List.getElem?_eq_getElem h,Option.getD_some]
    exact List.drop_eq_getElem_cons h
   rw [hd]
   generalize s.getD i 0=b
   have hx:strings_IndexByte ([48,49,50,51,52,53,54,55,56,57,97,98,99,100,101,102]:Bytes) (b.toNat:Int)=some (indexByte zw b):=by
    unfold strings_IndexByte
    have:((b.toNat:Int).toNat.toUInt8)=b:=by simp
    rw [this]; rfl
   refine al _ (aO hx rfl) ?_
   rw [wE]
   unfold cm
   cases hh:nN b with
   | none=>exact aw (by decide) (ac (by simp))
   | some d =>
    have hlt:=vu hh
    have hp:16 ^ i≤16 ^ 5:=Nat.pow_le_pow_right (by decide) (by omega)
    have hp5:(16:Nat) ^ 5=1048576:=rfl
    refine ax (by simp) (ai (aC (by omega) (by omega)) ?_)
    have e1:IntKind.wrap .i32 (16*(a:Int))=16*(a:Int):=l5 _ (by omega) (by omega)
    have e2:IntKind.wrap .i32 (d:Int)=(d:Int):=l5 _ (by omega) (by omega)
    have e3:IntKind.wrap .i32 (16*(a:Int)+(d:Int))=((16*a+d:Nat):Int):=by
     rw [l5 _ (by omega) (by omega)]; omega
    rw [e1,e2,e3]
    have:=ih (i+1) (16*a+d) (by omega) (by omega) (by rw [Nat.pow_succ]; omega)
    rw [show (((i+1:Nat)):Int)=(i:Int)+1 by omega] at this
    refine eZ this λ r hr=>?_
    rw [hr]
    refine Prod.ext rfl ?_
    show ((i+1+_:Nat):Int)=((i+(_+1):Nat):Int)
    omega
  ·refine al false (ax (by omega) (ac rfl)) (ax (by simp) (ac ?_))
   rw [List.drop_of_length_le (by omega)]
   simp [cm]
def gO (s:Bytes):Int×Int×Int :=
 let h:=cm 6 s 0
 if h.2=s.length then (0,0,40)
 else if s.getD h.2 0≠125∨h.2=0∨(1 < h.2∧s.getD 0 0=48)∨validRune (h.1:Int)=false then (0,0,2)
 else ((h.1:Int),((h.2+1:Nat):Int),0)
theorem mn {b:UInt8}{n:Nat}(hn:n < 256):b.toNat=n↔b=UInt8.ofNat n:=by
 constructor
 ·intro h; apply UInt8.toNat_inj.1; rw [h,UInt8.toNat_ofNat']; omega
 ·intro h; rw [h,UInt8.toNat_ofNat']; omega
theorem pz {s:Bytes}{v c:Nat}(h:cm 6 s 0=(v,c)):gO s=if c=s.length then (0,0,40) else if s.getD c 0≠125∨c=0∨(1 < c∧s.getD 0 0=48)∨validRune (v:Int)=false then (0,0,2) else ((v:Int),((c+1:Nat):Int),0):=by
 unfold gO; rw [h]
theorem zG (s:Bytes)(hs:s.length≤1000000000):Ev2 (λ n _=>bU n s) (·=gO s):=by
 simp only [bU]
 have l:=Ai s hs 6 0 0 rfl (Nat.zero_le _) (by decide)
 rw [List.drop_zero,Nat.zero_add] at l
 have hle:=lW 6 s 0
 refine al _ (aT l) ?_
 obtain ⟨v,c,hh⟩:∃ v c,cm 6 s 0=(v,c):=⟨_,_,rfl⟩
 have hP:=pz hh
 rw [hh] at hle ⊢
 simp only at hle ⊢
 refine ak (λ h=>ac ?_) (λ h=>?_)
 ·rw [hP,if_pos (by omega)]
 rw [if_neg (show ¬ c=s.length by omega)] at hP
 have hb:byt s c=((s.getD c 0).toNat:Int):=b9 s c
 have hb0:byt s 0=((s.getD 0 0).toNat:Int):=b9 s 0
 have h125:(s.getD c 0).toNat=125↔s.getD c 0=125:=mn (by decide)
 have h48:(s.getD 0 0).toNat=48↔s.getD 0 0=48:=mn (by decide)
 have hv:cu (v:Int)=some (validRune (v:Int)):=rfl
 have key:Ev2 (λ _ _=>(ck ((0:Int)≤(c:Int)∧(c:Int) < (s.length:Int)) <|
  if byt s c=125 then
   if (c:Int)=0 then some true
   else
   if 1 < (c:Int) then
    ck ((0:Int)≤0∧0 < (s.length:Int)) <|
    if byt s 0=48 then some true
    else (cu (v:Int)).bind λ r32=>some (!r32)
   else (cu (v:Int)).bind λ r34=>some (!r34)
  else some true:Option Bool)) (·=decide (s.getD c 0≠125∨c=0∨(1 < c∧s.getD 0 0=48)∨validRune (v:Int)=false)):=by
  refine ai (by omega) ?_
  rw [hb,hb0]
  refine ak (λ h1=>ak (λ h2=>ac ?_) (λ h2=>ak (λ h3=>ai (by omega) (ak (λ h4=>ac ?_) (λ h4=>?_))) (λ h3=>?_))) (λ h1=>ac ?_)
  ·symm; rw [decide_eq_true_eq]; right; left; omega
  ·symm; rw [decide_eq_true_eq]; right; right; left; exact ⟨by omega,h48.1 (by omega)⟩
  ·have q1:¬ s.getD c 0≠125:=λ q=>q (h125.1 (by omega))
   have q2:¬ (1 < c∧s.getD 0 0=48):=λ q=>h4 (by have:=h48.2 q.2; omega)
   refine al _ (aO hv rfl) (ac (eqB ?_))
   rw [decide_eq_true_eq]
   have:¬ c=0:=by omega
   simp only [q1,q2,false_or,this,Bool.not_eq_true']
  ·have q1:¬ s.getD c 0≠125:=λ q=>q (h125.1 (by omega))
   refine al _ (aO hv rfl) (ac (eqB ?_))
   rw [decide_eq_true_eq]
   have a1:¬ c=0:=by omega
   have a2:¬ 1 < c:=by omega
   simp only [q1,a1,a2,false_or,false_and,Bool.not_eq_true']
  ·symm; rw [decide_eq_true_eq]; left; intro q; exact h1 (by have:=h125.2 q; omega)
 refine al _ key ?_
 refine ak (λ h1=>ac ?_) (λ h1=>ai (aC (by omega) (by omega)) (ac ?_))
 ·rw [hP,if_pos (of_decide_eq_true h1)]
 ·rw [hP,if_neg (λ q=>h1 (decide_eq_true q))]
  refine Prod.ext rfl (Prod.ext ?_ rfl)
  show (c:Int)+1=((c+1:Nat):Int)
  omega
def ik (s:Bytes):Int×Int×Int:=match s with
 | []=>(0,0,40)
 | b::r=>if b.toNat=110 then (10,1,0) else if b.toNat=114 then (13,1,0) else if b.toNat=116 then (9,1,0)
  else if b.toNat=34∨b.toNat=92 then ((b.toNat:Int),1,0)
  else if b.toNat=117 then (match r with
   | []=>(0,0,40)
   | c::t=>if c.toNat=123 then ((gO t).1,(gO t).2.1+2,(gO t).2.2) else (0,0,2))
  else (0,0,2)
theorem lZ (b:UInt8)(r:Bytes):ik (b::r)=if b.toNat=110 then (10,1,0) else if b.toNat=114 then (13,1,0) else if b.toNat=116 then (9,1,0)
  else if b.toNat=34∨b.toNat=92 then ((b.toNat:Int),1,0)
  else if b.toNat=117 then (match r with
   | []=>(0,0,40)
   | c::t=>if c.toNat=123 then ((gO t).1,(gO t).2.1+2,(gO t).2.2) else (0,0,2))
  else (0,0,2):=rfl
theorem rL (s:Bytes):0≤(gO s).2.1∧(gO s).2.1≤s.length∧((gO s).2.2=0→ee (gO s).1)∧0≤(gO s).2.2:=by
 have hle:=lW 6 s 0
 unfold gO
 generalize cm 6 s 0=h at hle ⊢
 obtain ⟨v,c⟩:=h
 simp only at hle ⊢
 split
 ·simp <;> omega
 ·split
  ·simp <;> omega
  ·rename_i h1 h2
   refine ⟨by simp only; omega,by simp only; omega,λ _=>?_,by simp⟩
   have:validRune (v:Int)=true:=by
    cases hv:validRune (v:Int) with
    | true=>rfl
    | false=>exact absurd (.inr (.inr (.inr hv))) h2
   simp only [validRune,decide_eq_true_eq] at this
   unfold ee; simp only; omega
theorem rV (s:Bytes):0≤(ik s).2.1∧(ik s).2.1≤s.length+1∧((ik s).2.2=0→ee (ik s).1∧(ik s).2.1≤s.length)∧0≤(ik s).2.2:=by
 unfold ik
 split
 ·simp
 ·rename_i b r
  have hb:=b.toNat_lt
  split
  ·simp [ee] <;> omega
  split
  ·simp [ee] <;> omega
  split
  ·simp [ee] <;> omega
  split
  ·simp [ee] <;> omega
  split
  ·split
   ·simp
   ·rename_i c t
    have:=rL t
    split
    ·refine ⟨by simp only; omega,by simp only [List.length_cons]; omega,λ q=>⟨this.2.2.1 q,by simp only [List.length_cons]; omega⟩,this.2.2.2⟩
    ·simp <;> omega
  ·simp <;> omega
theorem zu (s:Bytes)(hs:s.length≤1000000000):Ev2 (λ n _=>dW n s) (·=ik s):=by
 simp only [dW]
 cases s with
 | nil=>exact aw rfl (ac rfl)
 | cons b r =>
  have hl:((b::r).length:Int)=(r.length:Int)+1:=by simp
  refine ax (by simp) (ai (by omega) ?_)
  have hb:byt (b::r) 0=(b.toNat:Int):=rfl
  have hbl:=b.toNat_lt
  rw [hb]
  have hP:=lZ b r
  refine ak (λ h=>ac (by rw [hP,if_pos (by omega)])) (λ h1=>?_)
  rw [if_neg (show ¬ b.toNat=110 by omega)] at hP
  refine ak (λ h=>ac (by rw [hP,if_pos (by omega)])) (λ h2=>?_)
  rw [if_neg (show ¬ b.toNat=114 by omega)] at hP
  refine ak (λ h=>ac (by rw [hP,if_pos (by omega)])) (λ h3=>?_)
  rw [if_neg (show ¬ b.toNat=116 by omega)] at hP
  refine al (decide (b.toNat=34∨b.toNat=92)) ?_ ?_
  ·by_cases h:b.toNat=34
   ·exact aw (by omega) (ac (by simp [h]))
   ·exact ax (by omega) (ac (eqB (by rw [decide_eq_true_eq,decide_eq_true_eq]; omega)))
  by_cases h4:b.toNat=34∨b.toNat=92
  ·rw [if_pos h4] at hP
   rw [hP]
   refine aw (by simp [h4]) (ai (by omega) (ac ?_))
   rw [l5 _ (by omega) (by omega)]
  rw [if_neg h4] at hP
  refine ax (by simp only [decide_eq_true_eq]; exact h4) ?_
  refine ak (λ h5=>?_) (λ h5=>ac (by rw [hP,if_neg (by omega)]))
  rw [if_pos (show b.toNat=117 by omega)] at hP
  rw [hP]
  cases r with
  | nil=>exact aw (by simp) (ac rfl)
  | cons c t =>
   have hl2:((b::c::t).length:Int)=(t.length:Int)+2:=by simp <;> omega
   refine ax (by omega) (ai (by omega) ?_)
   have hc:byt (b::c::t) 1=(c.toNat:Int):=rfl
   rw [hc]
   refine ak (λ h6=>ai (by omega) ?_) (λ h6=>ac (by show _=if c.toNat=123 then _ else _; rw [if_neg (by omega)]))
   have e6:(if c.toNat=123 then ((gO t).1,(gO t).2.1+2,(gO t).2.2) else ((0,0,2):Int×Int×Int))=((gO t).1,(gO t).2.1+2,(gO t).2.2):=if_pos (by omega)
   show Ev2 _ (·=if c.toNat=123 then ((gO t).1,(gO t).2.1+2,(gO t).2.2) else ((0,0,2):Int×Int×Int))
   rw [e6,iI]
   show Ev2 (λ n m=>(bU n t).bind _) _
   have hle:=rL t
   have htl:t.length≤1000000000:=by simp at hs; omega
   exact al _ (zG t htl) (ai (aC (by omega) (by omega)) (ac rfl))
end Go.Ab.R06
namespace Go.Ab.R06
open Go.Ab Go.Ab.RB Go.Lib
def mM (c:Nat×Nat):Prop:=(c.1=65533∧c.2=1)∨c.1 < 32∨c.1=127
instance (c:Nat×Nat):Decidable (mM c):=inferInstanceAs (Decidable (_∨_))
def jf:Nat→Bytes→Nat→Bytes→(Int×Bytes)⊕(Bytes×Int×Int)
 | 0,_,at',acc=>.inl ((at':Int),acc)
 | _+1,[],at',acc=>.inl ((at':Int),acc)
 | n+1,b::r,at',acc=>if b.toNat=34 then .inl ((at':Int),acc)
  else if (decodeL (b::r)).1=92 then
   (if (ik r).2.2=0 then jf n (r.drop (ik r).2.1.toNat) (at'+((ik r).2.1.toNat+1)) (acc++encodeRune (ik r).1) else .inr ([],0,(ik r).2.2))
  else if mM (decodeL (b::r)) then .inr ([],0,2)
  else jf n ((b::r).drop (decodeL (b::r)).2) (at'+(decodeL (b::r)).2) (acc++encodeRune ((decodeL (b::r)).1:Int))
theorem gK (n:Nat)(b:UInt8)(r:Bytes)(at':Nat)(acc:Bytes):jf (n+1) (b::r) at' acc=if b.toNat=34 then .inl ((at':Int),acc)
  else if (decodeL (b::r)).1=92 then
   (if (ik r).2.2=0 then jf n (r.drop (ik r).2.1.toNat) (at'+((ik r).2.1.toNat+1)) (acc++encodeRune (ik r).1) else .inr ([],0,(ik r).2.2))
  else if mM (decodeL (b::r)) then .inr ([],0,2)
  else jf n ((b::r).drop (decodeL (b::r)).2) (at'+(decodeL (b::r)).2) (acc++encodeRune ((decodeL (b::r)).1:Int)):=by rw [jf]
theorem Ag (s:Bytes)(hs:s.length≤1000000000):∀ (k:Nat) (l:Bytes) (i:Nat) (f:Bytes),l.length < k→s.drop i=l→i+l.length=s.length→f.length≤4*i→Ev2 (λ n m=>bS n s m (i:Int) f) (·=jf k l i f):=by
 intro k
 induction k with
 | zero=>intro l i f h; omega
 | succ k ih =>
  intro l i f hk hl hi hf
  refine aA ?_
  simp only [bS]
  cases l with
  | nil =>
   simp only [List.length_nil] at hi
   refine al false (ax (by omega) (ac rfl)) (ax (by simp) (ac ?_))
   rw [jf]
  | cons b r =>
   have hil:i < s.length:=by simp only [List.length_cons] at hi; omega
   have hb:byt s i=(b.toNat:Int):=by
    rw [b9]
    have:s.getD i 0=b:=by
     have:=List.drop_eq_getElem_cons hil
     rw [hl] at this
     rw [List.getD_eq_getElem?_getD,List.getElem?_eq_getElem hil]
     exact (List.cons.inj this).1.symm
    rw [this]
   have hr:s.drop (i+1)=r:=by
    have:=List.drop_eq_getElem_cons hil
    rw [hl] at this
    exact (List.cons.inj this).2.symm
   have hlr:r.length+i+1=s.length:=by simp only [List.length_cons] at hi; omega
   have hU:=gK k b r i f
   rw [hb]
   by_cases h34:b.toNat=34
   ·rw [if_pos h34] at hU
    exact al false (aw (by omega) (ai (by omega) (ac (by simp; omega)))) (ax (by simp) (ac hU.symm))
   rw [if_neg h34] at hU
   refine al true (aw (by omega) (ai (by omega) (ac (by simp; omega)))) (aw rfl (ai (by omega) ?_))
   rw [iI,Int.toNat_natCast,hl]
   have hd:cb (b::r)=some (((decodeL (b::r)).1:Int),((decodeL (b::r)).2:Int)):=by
    unfold cb
    rw [lY _ (by simp)]
   refine al _ (aO hd rfl) ?_
   have hdf:=jm (b::r) (by simp)
   generalize hD:decodeL (b::r)=D at hU hdf ⊢
   obtain ⟨c,w⟩:=D
   simp only at hU hdf ⊢
   by_cases h92:c=92
   ·rw [if_pos h92] at hU
    have hes:=rV r
    have hev:=zu r (by omega)
    have sub1:sub s ((i:Int)+1) (s.length:Int)=r:=by
     rw [iI,show ((i:Int)+1).toNat=i+1 by omega,hr]
    generalize ik r=E at hU hes hev
    obtain ⟨x,y,z⟩:=E
    simp only at hU hes hev
    by_cases hz:z=0
    ·rw [if_pos hz] at hU
     refine oD (aw (by omega) (ai (aC (by omega) (by omega)) (ai (by omega) ?_)))
     rw [sub1]
     obtain ⟨e1,e2⟩:=hes.2.2.1 hz
     obtain ⟨y',rfl⟩:∃ y':Nat,y=y':=⟨y.toNat,by omega⟩
     rw [Int.toNat_natCast] at hU
     refine al _ hev (aw hz (ai (aC (by dsimp only; omega) (by dsimp only; omega)) (ac ?_)))
     refine al _ (aO (zP f x e1 (by omega)) rfl) (ai (aC (by dsimp only; omega) (by dsimp only; omega)) ?_)
     have hle:=jP x e1
     have:=ih (r.drop y') (i+(y'+1)) (f++encodeRune x) (by rw [List.length_drop]; simp only [List.length_cons] at hk; omega) (by rw [← hr,List.drop_drop]; congr 1; omega) (by rw [List.length_drop]; omega) (by rw [List.length_append]; omega)
     rw [← hU] at this
     rw [show ((i+(y'+1):Nat):Int)=(i:Int)+((y':Int)+1) by omega] at this
     exact this
    ·rw [if_neg hz] at hU
     refine oD (aw (by omega) (ai (aC (by omega) (by omega)) (ai (by omega) ?_)))
     rw [sub1]
     refine al _ hev (ax hz (ac ?_))
     exact hU.symm
   ·rw [if_neg h92] at hU
    have hbad:Ev2 (λ _ _=>(if (c:Int)=65533 then if (w:Int)=1 then some true else if (c:Int) < 32 then some true else some (decide ((c:Int)=127)) else if (c:Int) < 32 then some true else some (decide ((c:Int)=127)):Option Bool)) (·=decide (mM (c,w))):=by
     refine ak (λ h1=>ak (λ h2=>ac ?_) (λ h2=>ak (λ h3=>ac ?_) (λ h3=>ac (eqB ?_)))) (λ h1=>ak (λ h3=>ac ?_) (λ h3=>ac (eqB ?_)))
     ·symm; rw [decide_eq_true_eq]; left; simp only; omega
     ·symm; rw [decide_eq_true_eq]; right; left; simp only; omega
     ·rw [decide_eq_true_eq,decide_eq_true_eq]; unfold mM; simp only; omega
     ·symm; rw [decide_eq_true_eq]; right; left; simp only; omega
     ·rw [decide_eq_true_eq,decide_eq_true_eq]; unfold mM; simp only; omega
    by_cases hbd:mM (c,w)
    ·rw [if_pos hbd] at hU
     refine oD (ax (by omega) (al _ hbad (aw (by simp only [decide_eq_true_eq]; exact hbd) (ac ?_))))
     exact hU.symm
    ·rw [if_neg hbd] at hU
     refine oD (ax (by omega) (al _ hbad (ax (by simp only [decide_eq_true_eq]; exact hbd) (ac ?_))))
     have hgood:=hdf.2.2 (λ q=>hbd (.inl q))
     refine al _ (aO (zP f c hgood.1 (by omega)) rfl) (ai (aC (by simp only [List.length_cons] at hdf; omega) (by simp only [List.length_cons] at hdf; omega)) ?_)
     have hle:=jP c hgood.1
     have hw:w≤r.length+1:=by simpa using hdf.2.1
     have hw1:=hdf.1
     have:=ih ((b::r).drop w) (i+w) (f++encodeRune (c:Int)) (by rw [List.length_drop]; simp only [List.length_cons] at hk ⊢; omega) (by rw [← hl,List.drop_drop]) (by rw [List.length_drop]; simp only [List.length_cons]; omega) (by rw [List.length_append]; omega)
     rw [← hU] at this
     rw [show ((i+w:Nat):Int)=(i:Int)+(w:Int) by omega] at this
     exact this
def gq:Bytes→Bytes×Int×Int
 | []=>([],0,40)
 | b::r=>if b.toNat=34 then (match jf (r.length+1) r 1 [] with
   | .inl q=>if q.1=((r.length+1:Nat):Int) then ([],0,40) else if 4096 < q.2.length then ([],0,3) else (q.2,q.1+1,0)
   | .inr e=>e)
  else ([],0,2)
theorem j7 (b:UInt8)(r:Bytes):gq (b::r)=if b.toNat=34 then (match jf (r.length+1) r 1 [] with
   | .inl q=>if q.1=((r.length+1:Nat):Int) then ([],0,40) else if 4096 < q.2.length then ([],0,3) else (q.2,q.1+1,0)
   | .inr e=>e)
  else ([],0,2):=rfl
theorem si:∀ (k:Nat) (l:Bytes) (i:Nat) (f:Bytes),(∀ a g,jf k l i f=.inl (a,g)→(i:Int)≤a∧a≤((i+l.length:Nat):Int)∧g.length≤f.length+4*l.length∧((∀ t,validD (f++t)=validD t)→∀ t,validD (g++t)=validD t))∧(∀ x,jf k l i f=.inr x→x.1=[]∧x.2.1=0∧x.2.2≠0):=by
 intro k
 induction k with
 | zero =>
  intro l i f
  refine ⟨λ a g h=>?_,λ x h=>(by rw [jf] at h; cases h)⟩
  rw [jf] at h; cases h
  exact ⟨by omega,by omega,by omega,λ q=>q⟩
 | succ k ih =>
  intro l i f
  cases l with
  | nil =>
   refine ⟨λ a g h=>?_,λ x h=>(by rw [jf] at h; cases h)⟩
   rw [jf] at h; cases h
   exact ⟨by omega,by simp,by simp,λ q=>q⟩
  | cons b r =>
   rw [gK]
   have hdf:=jm (b::r) (by simp)
   have hes:=rV r
   split
   ·refine ⟨λ a g h=>?_,λ x h=>(by cases h)⟩
    cases h
    exact ⟨by omega,by simp only [List.length_cons]; omega,by omega,λ q=>q⟩
   split
   ·split
    ·rename_i hz
     obtain ⟨e1,e2⟩:=hes.2.2.1 hz
     have hle:=jP _ e1
     have hi:=ih (r.drop (ik r).2.1.toNat) (i+((ik r).2.1.toNat+1)) (f++encodeRune (ik r).1)
     refine ⟨λ a g h=>?_,hi.2⟩
     have:=hi.1 a g h
     rw [List.length_drop,List.length_append] at this
     refine ⟨by omega,by simp only [List.length_cons]; omega,by simp only [List.length_cons]; omega,λ q=>this.2.2.2 λ t=>?_⟩
     rw [List.append_assoc,q,rD _ e1]
    ·rename_i hz
     refine ⟨λ a g h=>(by cases h),λ x h=>?_⟩
     cases h
     exact ⟨rfl,rfl,hz⟩
   split
   ·refine ⟨λ a g h=>(by cases h),λ x h=>?_⟩
    cases h
    exact ⟨rfl,rfl,by decide⟩
   ·rename_i hbd
    have hgood:=hdf.2.2 (λ q=>hbd (.inl q))
    have hle:=jP _ hgood.1
    have hi:=ih ((b::r).drop (decodeL (b::r)).2) (i+(decodeL (b::r)).2) (f++encodeRune ((decodeL (b::r)).1:Int))
    refine ⟨λ a g h=>?_,hi.2⟩
    have:=hi.1 a g h
    rw [List.length_drop,List.length_append] at this
    simp only [List.length_cons] at this hdf ⊢
    refine ⟨by omega,by omega,by omega,λ q=>this.2.2.2 λ t=>?_⟩
    rw [List.append_assoc,q,rD _ hgood.1]
theorem yj (s:Bytes)(hs:s.length≤1000000000):Ev2 (λ n _=>dJ n s) (·=gq s):=by
 simp only [dJ]
 cases s with
 | nil=>exact aw rfl (ac rfl)
 | cons b r =>
  have hl:((b::r).length:Int)=(r.length:Int)+1:=by simp
  have hln:(b::r).length=r.length+1:=by simp
  refine ax (by simp) (ai (by omega) ?_)
  have hb:byt (b::r) 0=(b.toNat:Int):=rfl
  rw [hb]
  rw [j7]
  refine ak (λ h=>?_) (λ h=>ac (by rw [if_neg (show ¬ b.toNat=34 by omega)]))
  have l:=Ag (b::r) hs (r.length+1) r 1 [] (by omega) rfl (by omega) (by simp)
  have hle:=si (r.length+1) r 1 []
  have e34:b.toNat=34:=by omega
  simp only [e34,if_true]
  generalize jf (r.length+1) r 1 []=U at l hle ⊢
  cases U with
  | inr e=>exact dU e (aT l) rfl
  | inl q =>
   obtain ⟨a,g⟩:=q
   have hq:=hle.1 a g rfl
   simp only [List.length_nil,Nat.zero_add] at hq
   refine cP (a,g) (aT l) ?_
   refine ak (λ h=>ac (by simp only at h ⊢; rw [if_pos (by omega)])) (λ h=>?_)
   simp only at h ⊢
   rw [if_neg (by omega)]
   refine al _ (aO rfl rfl) (ak (λ h1=>ac (by simp only at h1; rw [if_pos (by omega)])) (λ h1=>?_))
   simp only at h1
   rw [if_neg (by omega)]
   refine al _ (aO (AK g (by omega)) rfl) (ai (aC (by omega) (by omega)) (ac rfl))
theorem y6 {s x:Bytes}{n:Int}(h:gq s=(x,n,0)):x.length≤4096∧validD x=true∧2≤n∧n≤s.length:=by
 cases s with
 | nil=>cases h
 | cons b r =>
  rw [j7] at h
  split at h
  ·have hle:=si (r.length+1) r 1 []
   split at h
   ·rename_i q hq
    obtain ⟨a,g⟩:=q
    have hg:=hle.1 a g hq
    simp only at h
    split at h
    ·cases h
    ·split at h
     ·cases h
     ·rename_i h1 h2
      cases h
      simp only [List.length_cons]
      refine ⟨by omega,?_,by omega,by omega⟩
      have:=hg.2.2.2 (λ t=>by simp) []
      simpa [validD_nil] using this
   ·rename_i e he
    subst h
    exact absurd rfl (hle.2 _ he).2.2
  ·cases h
theorem vb (s:Bytes):0≤(gq s).2.1∧(gq s).2.1≤s.length∧((gq s).2.2≠0→(gq s).1=[]∧(gq s).2.1=0)∧(gq s).1.length≤4096:=by
 cases s with
 | nil=>exact ⟨Int.le_refl _,Int.le_refl _,λ _=>⟨rfl,rfl⟩,Nat.zero_le _⟩
 | cons b r =>
  rw [j7]
  split
  ·have hle:=si (r.length+1) r 1 []
   split
   ·rename_i q hq
    obtain ⟨a,g⟩:=q
    have hg:=hle.1 a g hq
    simp only
    split
    ·simp; omega
    ·split
     ·simp; omega
     ·rename_i h1 h2
      simp only [List.length_cons] at *
      exact ⟨by omega,by omega,λ q=>absurd rfl q,by omega⟩
   ·rename_i e he
    have:=hle.2 _ he
    rw [this.1,this.2.1]
    simp; omega
  ·simp; omega
theorem pT:∀ n:Fin 16,nN (hexDigit n.1)=some n.1∧((hexDigit n.1)=48→n.1=0):=by decide
theorem qy {n:Nat}(h:n < 16):nN (hexDigit n)=some n:=(pT ⟨n,h⟩).1
theorem xd (u:Nat)(h:u < 256)(t:Bytes):gO (cA u++125::t)=((u:Int),(((cA u).length+1:Nat):Int),0):=by
 have hv:validRune (u:Int)=true:=by simp only [validRune,decide_eq_true_eq]; omega
 have h125:nN 125=none:=by decide
 by_cases h1:u < 16
 ·have e:cA u=[hexDigit u]:=if_pos h1
  have hr:cm 6 (cA u++125::t) 0=(u,1):=by
   rw [e]
   show cm (5+1) (hexDigit u::125::t) 0=_
   rw [cm,qy h1]
   show ((cm (4+1) (125::t) (16*0+u)).1,(cm (4+1) (125::t) (16*0+u)).2+1)=_
   rw [cm,h125]; simp
  rw [pz hr,e,if_neg (by simp),if_neg]
  ·simp
  ·rintro (q | q | q | q)
   ·exact q rfl
   ·cases q
   ·omega
   ·rw [hv] at q; cases q
 ·have e:cA u=[hexDigit (u / 16),hexDigit (u % 16)]:=if_neg h1
  have hr:cm 6 (cA u++125::t) 0=(u,2):=by
   rw [e]
   show cm (5+1) (hexDigit (u / 16)::hexDigit (u % 16)::125::t) 0=_
   rw [cm,qy (by omega)]
   show ((cm (4+1) (hexDigit (u % 16)::125::t) (16*0+u / 16)).1,(cm (4+1) (hexDigit (u % 16)::125::t) (16*0+u / 16)).2+1)=_
   rw [cm,qy (by omega)]
   show ((cm (3+1) (125::t) (16*(16*0+u / 16)+u % 16)).1,(cm (3+1) (125::t) (16*(16*0+u / 16)+u % 16)).2+1+1)=_
   rw [cm,h125]
   refine Prod.ext ?_ rfl
   show 16*(16*0+u / 16)+u % 16=u
   omega
  rw [pz hr,e,if_neg (by simp),if_neg]
  ·simp
  ·rintro (q | q | q | q)
   ·exact q rfl
   ·cases q
   ·have:=(pT ⟨u / 16,by omega⟩).2 q.2
    simp only at this; omega
   ·rw [hv] at q; cases q
theorem nG (b:UInt8)(h:b.toNat < 128):encodeRune (b.toNat:Int)=[b]:=by
 simp only [encodeRune,encodeRuneZ,if_pos (show (0:Int)≤(b.toNat:Int)∧(b.toNat:Int)≤127 by omega),List.map_cons,List.map_nil]
 simp
theorem xH (b:UInt8)(h:b.toNat < 128)(c:UInt8)(rest:Bytes)(he:ew b=92::c::rest)(t:Bytes):ik (c::rest++t)=((b.toNat:Int),((rest.length+1:Nat):Int),0):=by
 have hl:∀ x y:UInt8,([x,y]:Bytes)=92::c::rest→c=y∧rest=[]:=λ x y q=>by
  have:=(List.cons.inj q).2
  exact ⟨((List.cons.inj this).1).symm,((List.cons.inj this).2).symm⟩
 by_cases h10:b.toNat=10
 ·rw [vg h10] at he
  obtain ⟨rfl,rfl⟩:=hl _ _ he
  rw [h10]; rfl
 by_cases h13:b.toNat=13
 ·rw [vA h13] at he
  obtain ⟨rfl,rfl⟩:=hl _ _ he
  rw [h13]; rfl
 by_cases h9:b.toNat=9
 ·rw [vj h9] at he
  obtain ⟨rfl,rfl⟩:=hl _ _ he
  rw [h9]; rfl
 by_cases hq:b.toNat=34∨b.toNat=92
 ·rw [x9 hq] at he
  obtain ⟨rfl,rfl⟩:=hl _ _ he
  rw [List.cons_append,lZ,if_neg (by omega),if_neg (by omega),if_neg (by omega),if_pos hq]
  rfl
 by_cases hu:b.toNat < 32∨b.toNat=127
 ·rw [vh h10 h13 h9 hu] at he
  have he:(92:UInt8)::117::(123::(cA b.toNat++[125]))=92::c::rest:=he
  obtain ⟨hc,hr⟩:=List.cons.inj (List.cons.inj he).2
  subst hc
  subst hr
  have hh:=xd b.toNat (by omega) t
  have e2:(123::(cA b.toNat++[125]):Bytes)++t=123::(cA b.toNat++125::t):=by simp
  rw [List.cons_append,e2,lZ,if_neg (by decide),if_neg (by decide),if_neg (by decide),if_neg (by decide),if_pos (by decide)]
  show (if (123:UInt8).toNat=123 then _ else _)=_
  rw [if_pos (by decide),hh]
  refine Prod.ext rfl (Prod.ext ?_ rfl)
  simp only [List.length_cons,List.length_append,List.length_nil]
  omega
 ·rw [tg (by omega) (by omega) hu] at he
  cases he
theorem qW:∀ p:Bytes,(∀ y∈p,128≤y.toNat)→p.flatMap ew=p
 | [],_=>rfl
 | y::r,h=>by
  have hy:=h y List.mem_cons_self
  rw [List.flatMap_cons,qW r (λ z hz=>h z (List.mem_cons_of_mem _ hz)),tg (by omega) (by omega) (by omega)]
  rfl
theorem uD:∀ (n:Nat) (x:Bytes) (k i:Nat) (acc t:Bytes),x.length≤n→validD x=true→(x.flatMap ew++34::t).length < k →
  jf k (x.flatMap ew++34::t) i acc=.inl (((i+(x.flatMap ew).length:Nat):Int),acc++x):=by
 intro n
 induction n with
 | zero =>
  intro x k i acc t hx hv hk
  obtain rfl:x=[]:=by cases x <;> simp_all
  obtain ⟨k,rfl⟩:∃ k',k=k'+1:=⟨k - 1,by omega⟩
  show jf (k+1) (34::t) i acc=_
  rw [gK,if_pos (by decide)]
  simp
 | succ n ih =>
  intro x k i acc t hx hv hk
  obtain ⟨k,rfl⟩:∃ k',k=k'+1:=⟨k - 1,by omega⟩
  cases x with
  | nil =>
   show jf (k+1) (34::t) i acc=_
   rw [gK,if_pos (by decide)]
   simp
  | cons b r =>
   by_cases hb:b.toNat < 128
   ·have hvr:validD r=true:=by rw [← validD_cons b r hb]; exact hv
    rw [List.flatMap_cons] at hk ⊢
    have hlen:=nh b
    have hxr:r.length≤n:=by simpa using hx
    by_cases hp:b.toNat≠34∧b.toNat≠92∧¬ (b.toNat < 32∨b.toNat=127)
    ·rw [tg hp.1 hp.2.1 hp.2.2] at hk ⊢
     show jf (k+1) (b::(r.flatMap ew++34::t)) i acc=_
     rw [gK,if_neg hp.1,decodeL_ascii b _ hb,if_neg (by simp only; omega),if_neg]
     ·have:=ih r k (i+1) (acc++[b]) t hxr hvr (by simp only [List.length_append,List.length_cons,List.length_nil] at hk ⊢; omega)
      simp only [List.drop_succ_cons,List.drop_zero]
      rw [nG b hb,this]
      refine congrArg Sum.inl (Prod.ext ?_ ?_)
      ·simp only [List.length_append,List.length_cons,List.length_nil]; omega
      ·simp
     ·unfold mM; simp only; omega
    ·obtain ⟨c,rest,he⟩:∃ c rest,ew b=92::c::rest:=by
      by_cases h10:b.toNat=10
      ·exact ⟨_,_,vg h10⟩
      by_cases h13:b.toNat=13
      ·exact ⟨_,_,vA h13⟩
      by_cases h9:b.toNat=9
      ·exact ⟨_,_,vj h9⟩
      by_cases hq:b.toNat=34∨b.toNat=92
      ·exact ⟨_,_,x9 hq⟩
      ·exact ⟨_,_,vh h10 h13 h9 (by omega)⟩
     have hesc:=xH b hb c rest he (r.flatMap ew++34::t)
     rw [he] at hk ⊢
     have e:(92::c::rest++r.flatMap ew)++34::t=92::(c::rest++(r.flatMap ew++34::t)):=by simp
     rw [e,gK,if_neg (by decide),decodeL_ascii 92 _ (by decide),if_pos (by decide),hesc]
     simp only [if_true,Int.toNat_natCast]
     have hd:(c::rest++(r.flatMap ew++34::t)).drop (rest.length+1)=r.flatMap ew++34::t:=by
      have:rest.length+1=(c::rest).length:=by simp
      rw [this,List.drop_left]
     rw [hd,nG b hb]
     have:=ih r k (i+(rest.length+1+1)) (acc++[b]) t hxr hvr (by simp only [List.length_append,List.length_cons] at hk ⊢; omega)
     rw [this]
     refine congrArg Sum.inl (Prod.ext ?_ ?_)
     ·simp only [List.length_append,List.length_cons]; omega
     ·simp
   ·have hne:b::r≠[]:=by simp
    obtain ⟨hnb,hvr⟩:=(pL _ hne).1 hv
    have hdf:=jm _ hne
    have hgood:=hdf.2.2 hnb
    have hN:=zi (b::r).length ((b::r).getD 0 0).toNat ((b::r).getD 1 0).toNat ((b::r).getD 2 0).toNat ((b::r).getD 3 0).toNat (by simp) (UInt8.toNat_lt _)
    rw [← decodeL_N] at hN
    generalize hD:decodeL (b::r)=D at hnb hvr hdf hgood hN
    obtain ⟨c,w⟩:=D
    simp only at hnb hvr hdf hgood hN
    have hc:128≤c:=by
     rcases Nat.lt_or_ge c 128 with q | q
     ·have:=(hN.2.2.2.1 q).2
      have hb0:((b::r).getD 0 0).toNat=b.toNat:=rfl
      omega
     ·exact q
    have hhigh:=hN.2.2.2.2.1 hc
    have hp:∀ y∈(b::r).take w,128≤y.toNat:=by
     intro y hy
     obtain ⟨j,hj,rfl⟩:=List.getElem_of_mem hy
     rw [List.length_take] at hj
     have hj2:j < (b::r).length:=by omega
     have hg:((b::r).getD j 0)=((b::r).take w)[j]'(by rw [List.length_take]; exact hj):=by
      rw [List.getElem_take,List.getD_eq_getElem?_getD,List.getElem?_eq_getElem hj2]; rfl
     rw [← hg]
     obtain rfl | rfl | rfl | rfl:j=0∨j=1∨j=2∨j=3:=by omega
     ·exact hhigh.1
     ·exact hhigh.2.1 (by omega)
     ·exact hhigh.2.2.1 (by omega)
     ·exact hhigh.2.2.2 (by omega)
    have hsplit:(b::r).flatMap ew=encodeRune (c:Int)++((b::r).drop w).flatMap ew:=by
     conv=>lhs; rw [← List.take_append_drop w (b::r)]
     rw [List.flatMap_append,qW _ hp,hgood.2]
    have hel:(encodeRune (c:Int)).length=w:=by
     rw [hgood.2,List.length_take]; omega
    obtain ⟨y,p',hp'⟩:∃ y p',encodeRune (c:Int)=y::p':=by
     cases hx:encodeRune (c:Int) with
     | nil=>rw [hx] at hel; simp at hel; omega
     | cons y p'=>exact ⟨y,p',rfl⟩
    have hy:128≤y.toNat:=hp y (by rw [← hgood.2,hp']; exact List.mem_cons_self)
    have hdec:=vn (c:Int) hgood.1 (((b::r).drop w).flatMap ew++34::t)
    rw [hsplit,List.append_assoc] at hk ⊢
    have hlk:(encodeRune (c:Int)++(((b::r).drop w).flatMap ew++34::t)).drop w=((b::r).drop w).flatMap ew++34::t:=by
     rw [← hel,List.drop_left]
    have:=ih ((b::r).drop w) k (i+w) (acc++encodeRune (c:Int)) t (by rw [List.length_drop]; simp only [List.length_cons] at hx ⊢; omega) hvr (by rw [List.length_append] at hk; omega)
    rw [hp',List.cons_append] at hdec hlk ⊢
    rw [gK,if_neg (by omega),hdec]
    simp only [Int.toNat_natCast]
    rw [if_neg (by omega),if_neg]
    ·rw [← hp',hel,hlk,this]
     refine congrArg Sum.inl (Prod.ext ?_ ?_)
     ·rw [hp'] at hel
      simp only [List.length_append,hel,hp']; omega
     ·rw [List.append_assoc,hgood.2,List.take_append_drop]
    ·rw [← hp',hel]
     unfold mM; simp only; omega
theorem uI (x t:Bytes)(hv:validD x=true)(hl:x.length≤4096):gq (eg x++t)=(x,((eg x).length:Int),0):=by
 have e:eg x++t=34::(x.flatMap ew++34::t):=by simp [eg]
 rw [e,j7,if_pos (by decide),uD x.length x _ 1 [] t (Nat.le_refl _) hv (by omega)]
 simp only
 rw [if_neg (by simp only [List.length_append,List.length_cons]; omega),if_neg (by simp only [List.nil_append]; omega)]
 refine Prod.ext (by simp) (Prod.ext ?_ rfl)
 simp only [eg,List.length_cons,List.length_append,List.length_nil]; omega
theorem zt:∀ (k u:Nat),u < 10 ^ (k+1)→(decDigits u).length≤k+1:=by
 intro k
 induction k with
 | zero=>intro u h; rw [decDigits,dif_pos (by simpa using h)]; simp
 | succ k ih =>
  intro u h
  rw [decDigits]
  split
  ·simp
  ·have:=ih (u / 10) (by rw [Nat.pow_succ] at h; omega)
   rw [List.length_append]; simp; omega
theorem mT {v:Int}(h0:0≤v)(h1:v≤ga):(itoa v).length≤16:=by
 obtain ⟨u,rfl⟩:∃ u:Nat,v=u:=⟨v.toNat,by omega⟩
 unfold itoa
 rw [if_neg (by omega),Int.toNat_natCast]
 exact zt 15 u (by unfold ga at h1; omega)
end Go.Ab.R06
end
