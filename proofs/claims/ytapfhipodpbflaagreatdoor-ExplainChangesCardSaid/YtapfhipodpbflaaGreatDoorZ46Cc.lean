/- Texts of the proof, one behind the other. No statement is proved here. -/
import Derived.WalkKit
import Derived.Lib.Builder
import Derived.Lib.UnsafeStr
import Derived.Laws.Externs
import Derived.Shelf.RegionOpenPlain
import Derived.Below
import Derived.Lib.LaidTab
import Derived.Shelf.Lays
import Derived.Shelf.Small.Utf8
import Derived.Shelf.Small.Strs
import Derived.Shelf.Strings.Prefix
import Derived.Shelf.Small.Wraps
import Derived.Shelf.LaysM
import Derived.Shelf.Strconv.Itoa3
import Derived.Shelf.LaysC
import Derived.Shelf.Strconv.ParseIntPublic10
import Derived.Shelf.Unicode.DecodeAny
import Derived.Shelf.Strings.OnBuilder
import Derived.Shelf.Strings.IndexAnyAll
import Derived.Shelf.Strings.Runes
import Derived.Shelf.Strings.IndexAny
import Derived.Test.YtapfhipodpbflaaGreatDoorProg
import Derived.Lib.AppendIntMem
import Derived.Deep.LoopGhost
import Derived.Laws.Runes
import Derived.Scope
import Derived.Deep.QuietTactic
import Derived.BigQuiet
import Derived.Laws.RangeString
import Derived.Lib.IndexAny
import Derived.Lib.TrimU
import Derived.MapKept
import Derived.Lib.AppendZeros
import Derived.Lib.OthersKept
import Derived.Defers
import Derived.Lib.AppendZerosOnto
import Derived.Lib.Overlaps
import Derived.Laws.CopyRow
import Derived.Shelf.Spec.SlicesInsert
import Derived.Lib.MapLaws
import Derived.Lib.ValidLaws
import Derived.Lib.ParseIntB
import Derived.Test.YtapfhipodpbflaaGreatDoorZ46Ca
import Derived.Test.YtapfhipodpbflaaGreatDoorZ46Cb
set_option maxHeartbeats 4000000
section
namespace Go.Ab
open Go.Proofs Go.RowKit Go
structure aH where
 CV:Bk
def dy (b:aH):Option aH:=some b
def eg (b:aH):Option (Bk×aH):=ck (b.CV.length<=9223372036854775807)<|some (b.CV,b)
theorem Bq:∃ j,Tryz.prog.info? 140=some j/\j.size=2:=by
 have h:(Tryz.prog.info? 140).map (·.size)=some 2:=by kernel_rfl
 obtain ⟨j,hj,hs⟩:=n8.1 h;exact ⟨j,hj,hs⟩
set_option maxRecDepth 100000 in
theorem rM (b:Nat)(w:World)(h0:w.cell? ⟨b,0,none⟩=some (.pointer (some ⟨b,0,none⟩))) :
  Calls Tryz.prog 111 #[.pointer (some ⟨b,0,none⟩)] w λ e w'=>e=.returned (.tuple #[])/\w'=w:=by
 obtain ⟨j,hj,_⟩:=Bq
 go_enter Tryz.func111,Tryz.ntmps111
 go_wp2
 rw [Lib.run_neq_ptr_same w _ Tryz.underlying137 hj]
 go_wp2
 go_end0
 exact ⟨Z,Z⟩
set_option maxRecDepth 100000 in
theorem qg (b:Nat)(w:World)(h0:w.cell? ⟨b,0,none⟩=some (.pointer none))(hsh:w.shape? b=some (140,2))(hfz:w.frozen? ⟨b,0,none⟩=false) :
  Calls Tryz.prog 111 #[.pointer (some ⟨b,0,none⟩)] w λ e w'=>e=.returned (.tuple #[])/\w'=w.setCell ⟨b,0,none⟩ (.pointer (some ⟨b,0,none⟩)):=by
 obtain ⟨j,hj,hjs⟩:=Bq
 go_enter Tryz.func111,Tryz.ntmps111
 go_wp2
 rw [Lib.run_to_unsafe w ⟨b,0,none⟩ Tryz.underlying137 Tryz.underlying196 hj (by rw [hjs]; decide) hsh (Nat.zero_lt_succ 1)];simp only [Result.andThen];rw [Oper.upon_value]
 go_wp2
 rw [run_callFunc_extern Tryz.func143 (by kernel_rfl) (by kernel_rfl) (by kernel_rfl) (e:=Extern.AbiNoEscape.same) (by kernel_rfl)];rw [Lib.run_noEscape];simp only [Result.andThen];rw [Oper.upon_value]
 go_wp2
 rw [Lib.run_from_unsafe w ⟨b,0,none⟩ Tryz.underlying196 Tryz.underlying137 hj hsh (by kernel_rfl)];simp only [Result.andThen];rw [Oper.upon_value]
 go_wp2
 go_end0
 exact ⟨Z,Z⟩
structure xg (b:Nat)(w w':World):Prop where
 os:w'.os=w.os
 out:w'.output=w.output
 tape:w'.tape=w.tape
 size:w'.heap.size=w.heap.size
 other:∀ k,k≠b->w'.heap[k]? = w.heap[k]?
def back (i:Nat):Option Nat:=if i=900000 then some 2000000 else if i=1000000 then some 1000000 else none
def ghB (g:Gh):Gh:=⟨g.st,λ i=>if i=2000000 then g.ow 900000 else if M1<=i/\i<2*M1 then g.ow i else none⟩
theorem ud {g:Gh}{i b:Nat}(h:(ghB g).ow i=some b):(i=2000000/\g.ow 900000=some b)\/(M1<=i/\i<2*M1/\g.ow i=some b):=by
 simp only [ghB] at h;split at h
 ·exact .inl ⟨‹_›,h⟩
 ·split at h
  ·rename_i h1; exact .inr ⟨h1.1,h1.2,h⟩
  ·cases h
theorem uB {g:Gh}:∀ i j b,back i=some j->g.ow i=some b->(ghB g).ow j=some b:=by
 intro i j b h hb;unfold back at h;split at h
 ·cases h; subst_vars; simp only [ghB,if_true]; exact hb
 ·split at h
  ·cases h; subst_vars
   simp only [ghB];rw [if_neg (by decide),if_pos (by decide)]; exact hb
  ·cases h
theorem xn {w w':World}{g:Gh}{b:Nat}(hok:Ok0 w g.st)(hown:∀ i b,g.ow i=some b->b<w.heap.size/\i<2*M1)
  (hinj:∀ i j b,g.ow i=some b->g.ow j=some b->i=j) (hnst:∀ i b,M1<=i->g.ow i=some b->∀ o,¬ g.st b o)
  (hb:g.ow 1000000=some b) (h:xg b w w')
  (hsh:∀ (c:Array Value) (e:TypeId),w.heap[b]? = some (.cells c e (0,0))->∃ c':Array Value,w'.heap[b]? = some (.cells c' e (0,0))/\c'.size=c.size):lZ w g w' (ghB g):=by
 have hbs:∀ o,¬ g.st b o:=hnst _ b (n7 _) hb
 have DT:Ev w g.st w' g.st:=λ k o hk=>⟨hk,by
  have:k≠b:=λ e=>hbs o (e ▸ hk)
  simp only [World.cell?,h.other k this]⟩
 refine ⟨h.os,h.out,h.tape,by rw [h.size]; exact n7 _,λ k hk hno=>h.other k (λ e=>hno 1000000 (e ▸ hb)),λ i k hi=>?_,λ i j k hi hj=>?_,λ k o hk=>by rw [h.size]; exact hok.lt k o hk,λ k hk _ o=>Iff.rfl,λ i h1 h2=>?_,λ i k c e h1 h2 h3=>?_,λ i k hi hk o=>hnst i k hi hk o,DT⟩
 ·rcases ud hi with ⟨_,h1⟩|⟨_,_,h1⟩
  ·exact ⟨by rw [h.size]; exact (hown _ _ h1).1,.inr ⟨_,h1⟩⟩
  ·exact ⟨by rw [h.size]; exact (hown _ _ h1).1,.inr ⟨_,h1⟩⟩
 ·rcases ud hi with ⟨e1,h1⟩|⟨a1,a2,h1⟩ <;> rcases ud hj with ⟨e2,h2⟩|⟨b1,b2,h2⟩
  ·omega
  ·have:=hinj _ _ _ h1 h2; unfold M1 at *; omega
  ·have:=hinj _ _ _ h1 h2; unfold M1 at *; omega
  ·exact hinj _ _ _ h1 h2
 ·simp only [ghB];rw [if_neg (by unfold M1 at *; omega),if_pos ⟨h1,h2⟩]
 ·by_cases e1:k=b
  ·subst e1; exact hsh c e h3
  ·exact ⟨c,(h.other k e1).trans h3,Z⟩
theorem CC {w w':World}{g:Gh}{b:Nat}(hbs:∀ o,¬ g.st b o)(h:xg b w w')(hc:∃ c e,w.heap[b]? = some (.cells c e (0,0)))
  (hsh:∀ (c:Array Value) (e:TypeId),w.heap[b]? = some (.cells c e (0,0))->∃ c':Array Value,w'.heap[b]? = some (.cells c' e (0,0))/\c'.size=c.size):EvO (λ _=>false) w g w' g:=by
 refine ⟨λ k o hk=>⟨hk,?_⟩,λ _ _ _ h=>h,λ id k c e _ _ hk=>?_,λ _ _ _ _ _ h=>h,λ id k es k' _ _ hk=>(h.other k (λ e=>by subst e; obtain ⟨c,t,hc⟩:=hc; rw [hc] at hk; cases hk)).trans hk,λ _ _=>rfl,λ id k o _ _ ho=>h.other k (λ e=>hbs o (e ▸ ho))⟩
 ·have:k≠b:=λ e=>hbs o (e ▸ hk);simp only [World.cell?,h.other k this]
 ·by_cases e1:k=b
  ·subst e1; exact hsh c e hk
  ·exact ⟨c,(h.other k e1).trans hk,Z⟩
theorem zC {w:World}{g:Gh}{es:List PV}{vs:Array Value}{T ty:Nat}(DG:vs.size=1)
  (hargs:∀ (i:Nat) c v,[AV.ptr 1000000 0][i]? = some c->vs[i]? = some v->ARep w g c v)
  (hobs:∀ id cs,look [(1000000,[AV.bptr T 2 1000000,AV.vec 900000 1 ty es])] id=some cs->jf w g id cs) :
  ∃ b p q,g.ow 1000000=some b/\vs=#[.pointer (some ⟨b,0,none⟩)]/\w.heap[b]? = some (.cells #[p,q] T (0,0))/\(∀ o,¬ g.st b o) /\
   (p=.pointer none\/p=.pointer (some ⟨b,0,none⟩))/\ARep w g (.vec 900000 1 ty es) q:=by
 obtain ⟨b,c,e,h1,h2,h3,h4,h5⟩:=hobs 1000000 _ rfl;obtain ⟨p,hp,hpr⟩:=h5 0 _ rfl;obtain ⟨q,hq,hqr⟩:=h5 1 _ rfl;have hv0:vs[0]? = some vs[0]:=Array.getElem?_eq_getElem O;have ha:=hargs 0 _ _ rfl hv0
 have hvs:vs=#[vs[0]]:=by
  apply Array.ext
  ·simp [DG]
  ·intro i h1 h2;have:i=0:=by omega
   subst this; rfl
 have hc:∀ c1:Array Value,c1=c->c1.size=2->c=#[p,q]:=by
  rintro c1 rfl h;apply Array.ext
  ·simp [h]
  ·intro i k1 k2
   match i,k2 with
   | 0,_=>rw [Array.getElem?_eq_getElem k1] at hp; simpa using hp
   | 1,_=>rw [Array.getElem?_eq_getElem k1] at hq; simpa using hq
 have hav:vs[0]=.pointer (some ⟨b,0,none⟩):=by
  generalize vs[0]=v at ha
  cases ha with
  | ptr how=>rw [h1] at how; cases how; rfl
 refine ⟨b,p,q,h1,by rw [hvs,hav],?_,h4,?_,hqr⟩
 ·cases hpr with
  | bptrn how hb DN=>rw [h1] at how; cases how; rw [h2] at hb; cases hb; rw [h2,hc _ rfl DN]
  | bptr how hb DN=>rw [h1] at how; cases how; rw [h2] at hb; cases hb; rw [h2,hc _ rfl DN]
 ·cases hpr with
  | bptrn how hb DN=>exact .inl Z
  | bptr how hb DN=>rw [h1] at how; cases how; exact .inr rfl
theorem ob_B {w':World}{g:Gh}{es:List PV}{T ty b:Nat}{p q:Value}(hb:g.ow 1000000=some b)(h4:∀ o,¬ g.st b o)(h:w'.heap[b]? = some (.cells #[p,q] T (0,0)))
  (hp:p=.pointer none\/p=.pointer (some ⟨b,0,none⟩)) (hq:ARep w' g (.vec 900000 1 ty es) q):jf w' (ghB g) 1000000 [.bptr T 2 1000000,.vec 2000000 1 ty es]:=by
 have how:(ghB g).ow 1000000=some b:=uB 1000000 1000000 b Z hb;refine ⟨b,#[p,q],T,how,h,by simp,h4,λ i x hx=>?_⟩
 match i,hx with
 | 0,hx=>
  simp only [List.getElem?_cons_zero,aq] at hx; subst hx;refine ⟨p,rfl,?_⟩;rcases hp with rfl|rfl
  ·exact .bptrn how h Z
  ·exact .bptr how h Z
 | 1,hx=>
  simp only [List.getElem?_cons_succ,List.getElem?_cons_zero,aq] at hx; subst hx;exact ⟨q,rfl,jj (m:=back) (g:=g) (g':=ghB g) rfl uB hq rfl⟩
 | n+2,hx=>simp at hx
theorem gz (b_0:aH)(r:aH)(h0:dy b_0=some r):dh Tryz.prog 111 [.ptr 1000000 0] [(1000000,[.bptr 140 2 1000000,.vec 900000 1 (5+1) (b_0.CV.map eU)])]
  (λ x y=>x=.tuple []/\y=[(1000000,[.bptr 140 2 1000000,.vec 2000000 1 (5+1) (r.CV.map eU)])]):=by
 cases h0
 intro w g vs hok hown hinj hnst DG hargs hobs;obtain ⟨b,p,q,hb,rfl,hheap,hbs,hp,hq⟩:=zC DG hargs hobs;have hc0:w.cell? ⟨b,0,none⟩=some p:=by simp [World.cell?,hheap]
 rcases hp with rfl|rfl
 ·refine (qg b w hc0 (by simp [World.shape?,hheap]) (by simp [World.frozen?,hheap])).mono ?_;rintro e w' ⟨rfl,rfl⟩;have hO:xg b w (w.setCell ⟨b,0,none⟩ (.pointer (some ⟨b,0,none⟩))):=⟨rfl,rfl,rfl,by simp [World.setCell],λ k hk=>Below.heap_setCell _ _ _ _ hk⟩
  have hheap':(w.setCell ⟨b,0,none⟩ (.pointer (some ⟨b,0,none⟩))).heap[b]? = some (.cells #[.pointer (some ⟨b,0,none⟩),q] 140 (0,0)):=by
   simp [World.setCell,Array.getElem?_modify,hheap]
  have hsh:∀ (c:Array Value) (e:TypeId),w.heap[b]? = some (.cells c e (0,0))->∃ c':Array Value,(w.setCell ⟨b,0,none⟩ (.pointer (some ⟨b,0,none⟩))).heap[b]? = some (.cells c' e (0,0))/\c'.size=c.size:=λ c e h=>by
   rw [hheap] at h; cases h; exact ⟨_,hheap',rfl⟩
  refine ⟨_,_,_,ghB g,Z,⟨Z,Z⟩,.tuple Z G,λ x hx=>?_,xn hok hown hinj hnst hb hO hsh⟩;simp only [List.mem_singleton] at hx; subst hx;exact ob_B hb hbs hheap' (.inr Z) (hq.mono (CC hbs hO ⟨_,_,hheap⟩ hsh))
 ·refine (rM b w hc0).mono ?_;rintro e w' ⟨rfl,rfl⟩;have hO:xg b w' w':=⟨rfl,rfl,rfl,rfl,λ k hk=>rfl⟩
  refine ⟨_,_,_,ghB g,Z,⟨Z,Z⟩,.tuple Z G,λ x hx=>?_,xn hok hown hinj hnst hb hO (λ c e h=>⟨c,h,Z⟩)⟩;simp only [List.mem_singleton] at hx; subst hx;exact ob_B hb hbs hheap (.inr Z) hq
theorem uf:Tryz.prog.follows .mixedOrders=true:=by kernel_rfl
theorem ot (w:World):Below w.heap.size w w.drew:=Below.drew (Below.refl _ w)
set_option maxRecDepth 100000 in
theorem vP (b:Nat)(p:Value)(w:World)(hbk:w.heap[b]? = some (.cells #[p,.slice none 0 0] 140 (0,0))) :
  Calls Tryz.prog 78 #[.pointer (some ⟨b,0,none⟩)] w λ e w'=>e=.returned (.string ⟨#[]⟩)/\Below w.heap.size w w':=by
 have mixed:=uf;have hUS:∀ (W:World) (q:Option Addr),(Builtin.unsafeString_ #[171,3] 9 #[.pointer q,.int .i64 0]).run Tryz.prog W=.ok (.string .empty) W:=λ W q=>Lib.run_unsafeString_none W _ _ _ q
 have c1:w.drew.cell? ⟨b,1,none⟩=some (.slice none 0 0):=by
  have:w.drew.heap[b]? = some (.cells #[p,.slice none 0 0] 140 (0,0)):=hbk;rw [Lib.cell_of_heap this]; rfl
 have hSD:(Builtin.unsafeSliceData_ #[138] 171 #[.slice none 0 0]).run Tryz.prog w.drew=.ok (.pointer none) w.drew:=rfl
 go_enter Tryz.func78,Tryz.ntmps78
 go_wp2
 go_region_o
 all_goals (go_wp2; go_ret; exact ⟨Z,ot w⟩)
set_option maxRecDepth 100000 in
theorem uI (b g cap:Nat)(p:Value)(w:World)(hc0:cap≠0)(hbk:w.heap[b]? = some (.cells #[p,.slice (some ⟨g,0,none⟩) 0 cap] 140 (0,0))) :
  Calls Tryz.prog 78 #[.pointer (some ⟨b,0,none⟩)] w λ e w'=>e=.returned (.string ⟨#[]⟩)/\Below w.heap.size w w':=by
 have mixed:=uf;have hUS:∀ (W:World) (q:Option Addr),(Builtin.unsafeString_ #[171,3] 9 #[.pointer q,.int .i64 0]).run Tryz.prog W=.ok (.string .empty) W:=λ W q=>Lib.run_unsafeString_none W _ _ _ q
 have c1:w.drew.cell? ⟨b,1,none⟩=some (.slice (some ⟨g,0,none⟩) 0 cap):=by
  have:w.drew.heap[b]? = some (.cells #[p,.slice (some ⟨g,0,none⟩) 0 cap] 140 (0,0)):=hbk;rw [Lib.cell_of_heap this]; rfl
 have hSD:(Builtin.unsafeSliceData_ #[138] 171 #[.slice (some ⟨g,0,none⟩) 0 cap]).run Tryz.prog w.drew=.ok (.pointer (some ⟨g,0,none⟩)) w.drew:=Lib.run_unsafeSliceData_row _ _ _ _ _ _ hc0
 clear hc0
 go_enter Tryz.func78,Tryz.ntmps78
 go_wp2
 go_region_o
 all_goals (go_wp2; go_ret; exact ⟨Z,ot w⟩)
set_option maxRecDepth 100000 in
theorem sE (b g:Nat)(p:Value)(cur:Array Value)(w:World)(hbk:w.heap[b]? = some (.cells #[p,.slice (some ⟨g,0,none⟩) 0 0] 140 (0,0)))(hg:w.heap[g]? = some (.cells cur 5 (0,0))) :
  Calls Tryz.prog 78 #[.pointer (some ⟨b,0,none⟩)] w λ e w'=>e=.returned (.string ⟨#[]⟩)/\Below w.heap.size w w':=by
 have mixed:=uf;have hUS:∀ (W:World) (q:Option Addr),(Builtin.unsafeString_ #[171,3] 9 #[.pointer q,.int .i64 0]).run Tryz.prog W=.ok (.string .empty) W:=λ W q=>Lib.run_unsafeString_none W _ _ _ q
 have hlt:b<w.heap.size:=by
  rcases Nat.lt_or_ge b w.heap.size with h'|h'
  ·exact h'
  ·simp [Array.getElem?_eq_none h'] at hbk
 have c1:w.drew.cell? ⟨b,1,none⟩=some (.slice (some ⟨g,0,none⟩) 0 0):=by
  have:w.drew.heap[b]? = some (.cells #[p,.slice (some ⟨g,0,none⟩) 0 0] 140 (0,0)):=hbk;rw [Lib.cell_of_heap this]; rfl
 have hSD:(Builtin.unsafeSliceData_ #[138] 171 #[.slice (some ⟨g,0,none⟩) 0 0]).run Tryz.prog w.drew=.ok (.pointer (some ⟨w.drew.heap.size,0,none⟩)) (w.drew.alloc (.view ⟨g,0,none⟩ 5)) :=
  Lib.run_unsafeSliceData_zero w.drew _ _ 5 Tryz.underlying171 ⟨g,0,none⟩ 0 (5,cur.size) (by have hg':w.drew.heap[g]? = some (.cells cur 5 (0,0)):=hg; simp [World.shape?,hg'])
 have c2:(w.drew.alloc (.view ⟨g,0,none⟩ 5)).cell? ⟨b,1,none⟩=some (.slice (some ⟨g,0,none⟩) 0 0):=by
  have:(w.drew.alloc (.view ⟨g,0,none⟩ 5)).heap[b]? = _:=(Lib.alloc_old w.drew _ b hlt).trans hbk;rw [Lib.cell_of_heap this]; rfl
 have c3:(w.alloc (.view ⟨g,0,none⟩ 5)).drew.cell? ⟨b,1,none⟩=some (.slice (some ⟨g,0,none⟩) 0 0):=c2;have c0:w.cell? ⟨b,1,none⟩=some (.slice (some ⟨g,0,none⟩) 0 0):=c1
 go_enter Tryz.func78,Tryz.ntmps78
 go_wp2
 go_region_o
 all_goals (go_wp2; go_ret; exact ⟨Z,(ot w).alloc (n7 _) _⟩)
set_option maxRecDepth 100000 in
theorem ww (b g cap:Nat)(p:Value)(cur:Array Value)(l:List UInt8)(w:World)(h0:l≠[])(hbk:w.heap[b]? = some (.cells #[p,.slice (some ⟨g,0,none⟩) l.length cap] 140 (0,0)))(hg:w.heap[g]? = some (.cells cur 5 (0,0)))
  (hnc:l.length<=cap) (DN:cur.size=cap) (hcm:l.length<=9223372036854775807) (DO:∀ (j:Nat) x,l[j]? = some x->w.cell? ⟨g,j,none⟩=some (.int .u8 x.toNat)) :
  Calls Tryz.prog 78 #[.pointer (some ⟨b,0,none⟩)] w λ e w'=>e=.returned (.string ⟨l.toArray⟩)/\w'=(w.drew.freeze ⟨g,0,none⟩ l.length):=by
 have mixed:=uf;have hl0:l.length≠0:=by simpa using h0
 have c1:w.drew.cell? ⟨b,1,none⟩=some (.slice (some ⟨g,0,none⟩) l.length cap):=by
  have:w.drew.heap[b]? = some (.cells #[p,.slice (some ⟨g,0,none⟩) l.length cap] 140 (0,0)):=hbk;rw [Lib.cell_of_heap this]; rfl
 have hSD:(Builtin.unsafeSliceData_ #[138] 171 #[.slice (some ⟨g,0,none⟩) l.length cap]).run Tryz.prog w.drew=.ok (.pointer (some ⟨g,0,none⟩)) w.drew:=Lib.run_unsafeSliceData_row _ _ _ _ _ _ O
 have hUS:(Builtin.unsafeString_ #[171,3] 9 #[.pointer (some ⟨g,0,none⟩),.int .i64 l.length]).run Tryz.prog w.drew=.ok (.string ⟨l.toArray⟩) (w.drew.freeze ⟨g,0,none⟩ l.length):=by
  refine Lib.run_unsafeString_row w.drew 171 3 9 5 Tryz.underlying171 (by kernel_rfl) g cur.size (by have hg':w.drew.heap[g]? = some (.cells cur 5 (0,0)):=hg; simp [World.shape?,hg']) l h0 O hcm ?_;intro j x hx;have:=DO j x hx;rw [add_lit,th,World.cell?_drew]; exact this
 clear DO DN hcm hnc h0 hl0
 go_enter Tryz.func78,Tryz.ntmps78
 go_wp2
 go_region_o
 all_goals (go_wp2; go_ret; exact ⟨Z,Z⟩)
theorem tN (w:World)(g n k:Nat)(h:k≠g):(w.freeze ⟨g,0,none⟩ n).heap[k]? = w.heap[k]?:=by
 unfold World.freeze;split
 ·rfl
 ·simp only [Array.getElem?_modify];rw [if_neg (λ e=>h e.symm)]
theorem uR (w:World)(g n:Nat)(a:Addr):(w.freeze ⟨g,0,none⟩ n).cell? a=w.cell? a:=by
 unfold World.freeze;split
 ·rfl
 ·simp only [World.cell?,Array.getElem?_modify];by_cases h:g=a.block
  ·simp only [h,if_true]
   cases w.heap[a.block]? with
   | none=>rfl
   | some o=>cases o <;> rfl
  ·simp only [h,if_false]
theorem uU (w:World)(g n:Nat):(w.freeze ⟨g,0,none⟩ n).heap.size=w.heap.size:=by
 unfold World.freeze; split <;> simp
theorem vd (w:World)(g n:Nat):(w.freeze ⟨g,0,none⟩ n).os=w.os/\(w.freeze ⟨g,0,none⟩ n).output=w.output/\(w.freeze ⟨g,0,none⟩ n).tape=w.tape:=by
 unfold World.freeze; split <;> exact ⟨Z,Z,Z⟩
def ghS (g:Gh):Gh:=⟨g.st,λ i=>if M1<=i/\i<2*M1 then g.ow i else none⟩
theorem tJ {g:Gh}{i b:Nat}(h:(ghS g).ow i=some b):M1<=i/\i<2*M1/\g.ow i=some b:=by
 simp only [ghS] at h;split at h
 ·rename_i h1; exact ⟨h1.1,h1.2,h⟩
 ·cases h
theorem xa {w w':World}{g:Gh}{q:Nat}(hok:Ok0 w g.st)(hown:∀ i b,g.ow i=some b->b<w.heap.size/\i<2*M1)
  (hinj:∀ i j b,g.ow i=some b->g.ow j=some b->i=j) (hnst:∀ i b,M1<=i->g.ow i=some b->∀ o,¬ g.st b o)
  (hq:g.ow 900000=some q\/w.heap.size<=q) (os:w'.os=w.os) (out:w'.output=w.output) (tape:w'.tape=w.tape) (size:w.heap.size<=w'.heap.size)
  (other:∀ k,k<w.heap.size->k≠q->w'.heap[k]? = w.heap[k]?) (cell:∀ b o,b<w.heap.size->w'.cell? ⟨b,o,none⟩=w.cell? ⟨b,o,none⟩):lZ w g w' (ghS g):=by
 have DT:Ev w g.st w' g.st:=λ k o hk=>⟨hk,cell k o (hok.lt k o hk)⟩
 refine ⟨os,out,tape,size,λ k hk hno=>other k hk (λ e=>?_),λ i k hi=>?_,λ i j k hi hj=>?_,λ k o hk=>Nat.lt_of_lt_of_le (hok.lt k o hk) size,λ k hk _ o=>Iff.rfl,λ i h1 h2=>?_,λ i k c e h1 h2 h3=>?_,λ i k hi hk o=>hnst i k hi hk o,DT⟩
 ·rcases hq with hq|hq
  ·exact hno _ (e ▸ hq)
  ·omega
 ·obtain ⟨_,_,h1⟩:=tJ hi;exact ⟨Nat.lt_of_lt_of_le (hown _ _ h1).1 size,.inr ⟨_,h1⟩⟩
 ·exact hinj _ _ _ (tJ hi).2.2 (tJ hj).2.2
 ·simp only [ghS]; rw [if_pos ⟨h1,h2⟩]
 ·refine ⟨c,(other k (hown _ _ h2).1 (λ e=>?_)).trans h3,rfl⟩;rcases hq with hq|hq
  ·have:=hinj _ _ _ h2 (e ▸ hq); unfold M1 at *; omega
  ·have:=(hown _ _ h2).1; omega
theorem ob_S {w':World}{g:Gh}{es:List PV}{T b:Nat}{p q:Value}(hb:g.ow 1000000=some b)(h4:∀ o,¬ g.st b o)(h:w'.heap[b]? = some (.cells #[p,q] T (0,0)))
  (hp:p=.pointer none\/p=.pointer (some ⟨b,0,none⟩)) (hq:PRep w' g.st (.slice es) q):jf w' (ghS g) 1000000 [.bptr T 2 1000000,.p (.slice es)]:=by
 have how:(ghS g).ow 1000000=some b:=by simp only [ghS]; rw [if_pos (by decide)]; exact hb
 refine ⟨b,#[p,q],T,how,h,by simp,h4,λ i x hx=>?_⟩
 match i,hx with
 | 0,hx=>
  simp only [List.getElem?_cons_zero,aq] at hx; subst hx;refine ⟨p,rfl,?_⟩;rcases hp with rfl|rfl
  ·exact .bptrn how h Z
  ·exact .bptr how h Z
 | 1,hx=>
  simp only [List.getElem?_cons_succ,List.getElem?_cons_zero,aq] at hx; subst hx;exact ⟨q,rfl,.p hq⟩
 | n+2,hx=>simp at hx
theorem ij (b_0:aH)(r:Bk×aH)(h0:eg b_0=some r):dh Tryz.prog 78 [.ptr 1000000 0] [(1000000,[.bptr 140 2 1000000,.vec 900000 1 (5+1) (b_0.CV.map eU)])]
  (λ x y=>x=.p (eS r.1)/\y=[(1000000,[.bptr 140 2 1000000,.p (eL eU r.2.CV)])]):=by
 obtain ⟨hmax,h0⟩:=iq h0
 cases h0
 intro w g vs hok hown hinj hnst DG hargs hobs;obtain ⟨b,p,q,hb,rfl,hheap,hbs,hp,hq⟩:=zC DG hargs hobs;have hbl:b<w.heap.size:=(hown _ _ hb).1;obtain ⟨l,hl⟩:∃ l,l=b_0.CV:=⟨_,rfl⟩
 rw [<- hl] at hq ⊢
 -- a builder that holds nothing
 have none_:∀ q0,l=[]->q=q0->(Calls Tryz.prog 78 #[.pointer (some ⟨b,0,none⟩)] w λ e w'=>e=.returned (.string ⟨#[]⟩)/\Below w.heap.size w w')->PRep w g.st (.slice []) q0 ->
   Calls Tryz.prog 78 #[.pointer (some ⟨b,0,none⟩)] w λ e w'=>∃ v r obs' g',e=.returned v/\(r=.p (eS l)/\obs'=[(1000000,[.bptr 140 2 1000000,.p (eL eU l)])])/\ARep w' g' r v/\(∀ p∈obs',jf w' g' p.1 p.2)/\lZ w g w' g':=by
  rintro q0 rfl rfl hc hr;refine hc.mono ?_;rintro e w' ⟨rfl,hB⟩;have DO:∀ b o,b<w.heap.size->w'.cell? ⟨b,o,none⟩=w.cell? ⟨b,o,none⟩:=λ b o h=>hB.cell (p:=⟨b,o,none⟩) h;refine ⟨_,_,_,ghS g,rfl,⟨rfl,rfl⟩,.p (.val _),λ x hx=>?_,xa (q:=w.heap.size) hok hown hinj hnst (.inr (n7 _)) hB.os hB.output hB.tape hB.size (λ k hk _=>hB.block k hk) DO⟩;simp only [List.mem_singleton] at hx; subst hx;exact ob_S hb hbs ((hB.block b hbl).trans hheap) hp (hr.mono (w':=w') (st':=g.st) (λ k o hk=>⟨hk,DO k o (hok.lt k o hk)⟩))
 generalize hes:l.map eU=es at hq
 cases hq with
 | vecn=>
  have e:l=[]:=by simpa using hes
  exact none_ _ e Z (vP b p w hheap) .nils
 | vec how hb2 DN hsz2 DW hr hty=>
  rename_i g2 off2 cap c e2
  have he2:e2=5/\off2=0:=by
   rcases hty with h|h
   ·cases h
   ·exact ⟨(Nat.succ.inj h.1).symm,h.2⟩
  obtain ⟨rfl,rfl⟩:=he2;rw [th] at DN;simp only [th] at DW;have hgl:g2<w.heap.size:=(hown _ _ how).1;subst hes;simp only [cl] at hheap;by_cases hl0:l=[]
  ·subst hl0;by_cases hc0:cap=0
   ·subst hc0;exact none_ _ Z Z (sE b g2 p c w hheap hb2) (by simpa using hr)
   ·exact none_ _ Z Z (uI b g2 cap p w hc0 hheap) (by simpa using hr)
  ·have hcap:l.length<=cap:=by
    obtain ⟨a',cap',he,hle⟩:=mL hr
    cases he
    simpa using hle
   have DO:∀ (j:Nat) x,l[j]? = some x->w.cell? ⟨g2,j,none⟩=some (.int .u8 x.toNat):=by
    intro j x hx;have hinv:=Av hsz2 hb2 hr;obtain ⟨_,u,hu,hru⟩:=hinv j (eU x) 0 (eU x) (by simp [hx]) rfl
    cases hru
    simp only [World.cell?,hb2];simpa using hu
   refine (ww b g2 cap p c l w hl0 (by simpa using hheap) hb2 hcap (by simpa using DN) ?_ DO).mono ?_
   ·rw [hl]; exact hmax
   rintro e w' ⟨rfl,rfl⟩;have hother:∀ k,k≠g2->(w.drew.freeze ⟨g2,0,none⟩ l.length).heap[k]? = w.heap[k]?:=λ k hk=>tN w.drew g2 _ k hk;have hcell2:∀ b o,(w.drew.freeze ⟨g2,0,none⟩ l.length).cell? ⟨b,o,none⟩=w.cell? ⟨b,o,none⟩:=λ b o=>uR w.drew g2 _ _;obtain ⟨r1,r2,r3⟩:=vd w.drew g2 l.length;refine ⟨_,_,_,ghS g,rfl,⟨rfl,rfl⟩,.p (.val _),λ x hx=>?_,xa (q:=g2) hok hown hinj hnst (.inl how) r1 r2 r3 (by rw [uU]; exact n7 _) (λ k _ hk=>hother k hk) (λ b o _=>hcell2 b o)⟩;simp only [List.mem_singleton] at hx; subst hx;have DZ:b≠g2:=λ e=>by subst e; have:=hinj _ _ _ hb how; omega
   exact ob_S hb hbs ((hother b DZ).trans (by simpa using hheap)) hp (by simpa using hr.mono (w':=w.drew.freeze ⟨g2,0,none⟩ l.length) (st':=g.st) (λ k o hk=>⟨hk,hcell2 k o⟩))
end Go.Ab
end
section
namespace Go.Ab.RB
open Go.Proofs Go.Ab
attribute [local irreducible] awp iJ bw aB dh AV.sub M dQ
def aZ (b_0:aH)(s_1:Bk):Option (Int×Bool×aH) :=(dy (aH.mk b_0.CV)).bind λ r1=>ck ((r1.CV.length+s_1.length)*1<=140737488355328)<|some ((s_1.length:Int),false,(aH.mk (r1.CV++s_1)))
theorem bu (b_0:aH)(s_1:Bk)(r:Int×Bool×aH)(h0:aZ b_0 s_1=some r):dh Tryz.prog 77 [.ptr 1000000 0,.p (eS s_1)] [(1000000,[.bptr 140 2 1000000,.vec 900000 1 (5+1) (b_0.CV.map eU)])] (λ x y=>x=.tuple [.p (eI r.1),.p (eE r.2.1)]/\y=[(1000000,[.bptr 140 2 1000000,.vec 2000000 1 (5+1) (r.2.2.CV.map eU)])]):=by
 unfold aZ at h0;refine ln good [800000] [1000000] Tryz.func77 Z Z Z Z Z λ w0 F=>mPo (λ v:Int×Bool×aH=>.tuple [.p (eI v.1),.p (eE v.2.1)]) (λ v=>[(1000000,[.bptr 140 2 1000000,.vec 2000000 1 (5+1) (v.2.2.CV.map eU)])]) ?_;refine nx 8 Z (bd h0 λ r1 e2 h0=>?_);refine mO Z (bN [1000000] [900000] 101000 101001 (gz (aH.mk b_0.CV) _ e2) Z Z Z Z Z ⟨sr,trivial⟩ Z Z ⟨⟨_,Z,⟨sr,sr,trivial⟩⟩,trivial⟩ Z Z Z Z Z Z Z Z Tryz.call111 Z Z ?_);refine nx 9 Z (cc' h0 λ GK h0=>?_);refine mO Z (yG r1.CV s_1 Z Z Z Z Z Z Z Z Z Z Z Z Z Z Z GK ?_);refine nx 7 Z (oLs Z ?_);exact nx 4 Z (mQo (oi h0) (bj (bI 14 800000 Z Z Z Z Z) (en _)) Z Z Z Z (cm ⟨sr,sr,trivial⟩) ⟨⟨_,Z,⟨sr,sr,trivial⟩⟩,trivial⟩)
def bL (b_0:aH)(c_1:Int):Option (Bool×aH) :=(dy (aH.mk b_0.CV)).bind λ r1=>ck ((0:Int)<=c_1/\c_1<256)<|ck ((r1.CV.length+[u8 c_1].length)*1<=140737488355328)<|some (false,(aH.mk (r1.CV++[u8 c_1])))
theorem cL (b_0:aH)(c_1:Int)(r:Bool×aH)(h0:bL b_0 c_1=some r):dh Tryz.prog 170 [.ptr 1000000 0,.p (eK .u8 c_1)] [(1000000,[.bptr 140 2 1000000,.vec 900000 1 (5+1) (b_0.CV.map eU)])] (λ x y=>x=.p (eE r.1)/\y=[(1000000,[.bptr 140 2 1000000,.vec 2000000 1 (5+1) (r.2.CV.map eU)])]):=by
 unfold bL at h0;refine ln good [800000] [1000000] Tryz.func170 Z Z Z Z Z λ w0 F=>mPo (λ v:Bool×aH=>.p (eE v.1)) (λ v=>[(1000000,[.bptr 140 2 1000000,.vec 2000000 1 (5+1) (v.2.CV.map eU)])]) ?_;refine nx 7 Z (bd h0 λ r1 e2 h0=>?_);refine mO Z (bN [1000000] [900000] 101000 101001 (gz (aH.mk b_0.CV) _ e2) Z Z Z Z Z ⟨sr,trivial⟩ Z Z ⟨⟨_,Z,⟨sr,sr,trivial⟩⟩,trivial⟩ Z Z Z Z Z Z Z Z Tryz.call111 Z Z ?_);refine nx 9 Z (cc' h0 λ GK h0=>?_);refine mO Z (bE eU [u8 c_1] Z Z Z Z Z Z Z Z Z Z Z Z Z (congr (congrArg List.cons (yF GK)) Z) ?_);refine cc' h0 λ G5 h0=>mO Z (du eU r1.CV [u8 c_1] Z Z Z Z Z Z Z Z Z Z Z Z Z Y Z Z Z Z G5 ?_);exact nx 9 Z (mQo (oi h0) (bj (bI 14 800000 Z Z Z Z Z) (en _)) Z Z Z Z (sr) ⟨⟨_,Z,⟨sr,sr,trivial⟩⟩,trivial⟩)
end Go.Ab.RB
end
section
namespace Go.Ab
open Go.RowKit
theorem aB.of_calls {P:Program}{f:FuncId}{l:List Value}{r:AV}
  (h:∀ (w:World) (st:Nat->Nat->Prop),Ok0 w st->Calls P f l.toArray w λ e w'=>∃ v,e=.returned v/\Below w.heap.size w w'/\∀ g',ARep w' g' r v):aB P f (l.map PV.val) (·=r):=by
 intro w st vs hok DG hargs
 have e:vs=l.toArray:=by
  apply Array.ext
  ·simpa using DG
  ·intro i h1 h2;have hi:i<l.length:=by simpa using h2
   have:=hargs i (.val l[i]) vs[i] (by simp [hi]) (Array.getElem?_eq_getElem h1);generalize hv:vs[i]=v at this
   cases this
   simp
 subst e;refine (h w st hok).mono ?_;rintro e w' ⟨v,rfl,hB,hr⟩;refine ⟨v,r,⟨st,λ _=>none⟩,rfl,rfl,hr _,⟨hB.os,hB.output,hB.tape,hB.size,λ b hb=>hB.block b hb,?_,?_,λ b o hb=>Nat.lt_of_lt_of_le (hok.lt b o hb) hB.size,λ b _ o=>Iff.rfl⟩⟩
 ·intro i b hi; cases hi
 ·intro i j b hi; cases hi
theorem uE {w:World}{st:Nat->Nat->Prop}(h:ll w st){g j:Nat}{l:List GC}{k:IntKind}{n:Int}(hl:look qH g=some l)(hj:l[j]? = some (.int k n)):w.cell? ⟨g,j,none⟩=some (.int k n):=by
 obtain ⟨_,v,h2,h3⟩:=(h g (l.map GC.pv) (by rw [nJ,hl]; rfl)).1 j (.val (.int k n)) (by rw [List.getElem?_map,hj]; rfl)
 cases h3
 exact h2
theorem y9 {P:Program}{w:World}{st:Nat->Nat->Prop}(h:ll w st){g:Nat}{l:List GC}{nm:String}{k:IntKind}{zs:List Int}(hl:look qH g=some l)(hn:P.globalNamed nm=some g)(hz:l=zs.map (GC.int k))(DZ:zs≠[]):Lib.TabIs P w nm k zs:=by
 obtain ⟨h0,h1,h2⟩:=h g (l.map GC.pv) (by rw [nJ,hl]; rfl);have hc:∀ (j:Nat) z,zs[j]? = some z->w.cell? ⟨g,j,none⟩=some (.int k z):=λ j z hj=>uE h hl (by rw [hz,List.getElem?_map,hj]; rfl);unfold Lib.TabIs World.var?;rw [hn];simp only [Option.bind_some];have DD:(l.map GC.pv).length=zs.length:=by rw [hz]; simp
 rw [DD] at h2
 obtain ⟨z0,hz0⟩:∃ z0,zs[0]? = some z0:=by
  cases zs with
  | nil=>exact absurd Z DZ
  | cons z r=>exact ⟨z,Z⟩
 have hc0:=hc 0 z0 hz0;simp only [World.cell?] at hc hc0 h2
 cases hh:w.heap[g]? with
 | none=>rw [hh] at hc0; cases hc0
 | some o=>
  rw [hh] at hc hc0 h2
  cases o with
  | cells c e fz=>
   simp only [Option.isSome_none,Bool.false_eq_true,if_false] at hc hc0 h2;refine congrArg some ?_;apply Array.ext_getElem?;intro j;by_cases hj:j<zs.length
   ·rw [hc j zs[j] (List.getElem?_eq_getElem hj)];simp [hj]
   ·have h3:c.size<=zs.length:=by
     rcases Nat.lt_or_ge zs.length c.size with h'|h'
     ·rw [Array.getElem?_eq_getElem h'] at h2; cases h2
     ·exact h'
    rw [Array.getElem?_eq_none O,Array.getElem?_eq_none (by simp; omega)]
  | _=>simp at hc0
theorem sf (s:Bk):(str s).data.toList=s:=by simp [str]
theorem vA (w:World):Below w.heap.size w w:=Below.refl _ w
end Go.Ab
end
section
namespace Go.Proofs
open Go.Shelf
def Tryz.laysM171_ren:Go.Shelf.Ren:=⟨λ|171=>47|243=>80|246=>113|283=>145|284=>146|285=>147|286=>148|129=>177|317=>176|318=>178|319=>179|320=>180|337=>195|338=>196|n=>n,λ|3=>3|9=>9|2=>2|4=>4|171=>199|0=>0|53=>200|37=>138|5=>5|173=>203|212=>225|51=>226|20=>20|213=>227|46=>179|232=>251|233=>252|n=>n,λ|17=>1|18=>4|19=>5|n=>n⟩
theorem Tryz.laysM171:Go.Proofs.LaysM.n171 Tryz.prog Tryz.laysM171_ren:={
 mixed:=by kernel_rfl
 f129:=Tryz.func177.trans (congrArg some (by kernel_rfl))
 f171:=Tryz.func47.trans (congrArg some (by kernel_rfl))
 f243:=Tryz.func80.trans (congrArg some (by kernel_rfl))
 f246:=Tryz.func113.trans (congrArg some (by kernel_rfl))
 f283:=Tryz.func145.trans (congrArg some (by kernel_rfl))
 f284:=Tryz.func146.trans (congrArg some (by kernel_rfl))
 f285:=Tryz.func147.trans (congrArg some (by kernel_rfl))
 f286:=Tryz.func148.trans (congrArg some (by kernel_rfl))
 f317:=Tryz.func176.trans (congrArg some (by kernel_rfl))
 f318:=Tryz.func178.trans (congrArg some (by kernel_rfl))
 f319:=Tryz.func179.trans (congrArg some (by kernel_rfl))
 f320:=Tryz.func180.trans (congrArg some (by kernel_rfl))
 f337:=Tryz.func195.trans (congrArg some (by kernel_rfl))
 f338:=Tryz.func196.trans (congrArg some (by kernel_rfl))
 t0:=Tryz.underlying0
 a0:=Tryz.isAgg0
 z0:=Tryz.sizeOf0
 v0:=Tryz.zeroValue0
 t2:=Tryz.underlying2
 a2:=Tryz.isAgg2
 z2:=Tryz.sizeOf2
 v2:=Tryz.zeroValue2
 t3:=Tryz.underlying3
 a3:=Tryz.isAgg3
 z3:=Tryz.sizeOf3
 v3:=Tryz.zeroValue3
 t4:=Tryz.underlying4
 a4:=Tryz.isAgg4
 z4:=Tryz.sizeOf4
 v4:=Tryz.zeroValue4
 t5:=Tryz.underlying5
 a5:=Tryz.isAgg5
 z5:=Tryz.sizeOf5
 v5:=Tryz.zeroValue5
 t9:=Tryz.underlying9
 a9:=Tryz.isAgg9
 z9:=Tryz.sizeOf9
 v9:=Tryz.zeroValue9
 t20:=Tryz.underlying20
 a20:=Tryz.isAgg20
 z20:=Tryz.sizeOf20
 v20:=Tryz.zeroValue20
 t37:=Tryz.underlying138
 a37:=Tryz.isAgg138
 z37:=Tryz.sizeOf138
 v37:=Tryz.zeroValue138
 t46:=Tryz.underlying179
 a46:=Tryz.isAgg179
 z46:=Tryz.sizeOf179
 v46:=Tryz.zeroValue179
 t51:=Tryz.underlying226
 a51:=Tryz.isAgg226
 z51:=Tryz.sizeOf226
 v51:=Tryz.zeroValue226
 t53:=Tryz.underlying200
 a53:=Tryz.isAgg200
 z53:=Tryz.sizeOf200
 v53:=Tryz.zeroValue200
 t171:=Tryz.underlying199
 a171:=Tryz.isAgg199
 z171:=Tryz.sizeOf199
 v171:=Tryz.zeroValue199
 t173:=Tryz.underlying203
 a173:=Tryz.isAgg203
 z173:=Tryz.sizeOf203
 v173:=Tryz.zeroValue203
 t212:=Tryz.underlying225
 a212:=Tryz.isAgg225
 z212:=Tryz.sizeOf225
 v212:=Tryz.zeroValue225
 t213:=Tryz.underlying227
 a213:=Tryz.isAgg227
 z213:=Tryz.sizeOf227
 t232:=Tryz.underlying251
 a232:=Tryz.isAgg251
 z232:=Tryz.sizeOf251
 v232:=Tryz.zeroValue251
 t233:=Tryz.underlying252
 a233:=Tryz.isAgg252
 z233:=Tryz.sizeOf252
 v233:=Tryz.zeroValue252
 g17:=by kernel_rfl
 g18:=by kernel_rfl
 g19:=by kernel_rfl
 i0:=by kernel_rfl
 i2:=by kernel_rfl
 i3:=by kernel_rfl
 i4:=by kernel_rfl
 i5:=by kernel_rfl
 i9:=by kernel_rfl
 i20:=by kernel_rfl
 i37:=by kernel_rfl
 i46:=by kernel_rfl
 i51:=by kernel_rfl
 i53:=by kernel_rfl
 i171:=by kernel_rfl
 i173:=by kernel_rfl
 i212:=by kernel_rfl
 i232:=by kernel_rfl
 i233:=by kernel_rfl
 m17:=by kernel_rfl
 m18:=by kernel_rfl
 m19:=by kernel_rfl }
open Go.RowKit Go.Sort Go.Lib in
theorem Tryz.strconv_Itoa (n:Int)(h0:-9223372036854775808<=n)(h1:n<=9223372036854775807)(w:World)(htab:Lib.TabIs Tryz.prog w "internal/strconv.uint64pow10" .u64 Lib.pow10Tab) :
  Calls Tryz.prog 47 #[.int .i64 n] w λ e w'=>e=.returned (.string ⟨(Lib.itoa n).toArray⟩)/\∃ k os,w'=grow (w.drewN k) os:=Any.strconv_Itoa Tryz.laysM171 n h0 h1 w htab
def Tryz.lays156_ren:Go.Shelf.Ren:=⟨λ|156=>43|165=>76|166=>77|169=>78|240=>111|241=>112|276=>143|277=>144|n=>n,λ|31=>29|9=>9|3=>3|4=>4|0=>0|20=>20|72=>140|76=>144|70=>137|37=>138|75=>143|127=>171|164=>196|5=>5|80=>146|n=>n,λ|n=>n⟩
theorem Tryz.lays156:Go.Proofs.Lays.n156 Tryz.prog Tryz.lays156_ren:={
 mixed:=by kernel_rfl
 f156:=Tryz.func43.trans (congrArg some (by kernel_rfl))
 f165:=Tryz.func76.trans (congrArg some (by kernel_rfl))
 f166:=Tryz.func77.trans (congrArg some (by kernel_rfl))
 f169:=Tryz.func78.trans (congrArg some (by kernel_rfl))
 f240:=Tryz.func111.trans (congrArg some (by kernel_rfl))
 f241:=Tryz.func112.trans (congrArg some (by kernel_rfl))
 f276:=Tryz.func143.trans (congrArg some (by kernel_rfl))
 f277:=Tryz.func144.trans (congrArg some (by kernel_rfl))
 t0:=Tryz.underlying0
 a0:=Tryz.isAgg0
 z0:=Tryz.sizeOf0
 v0:=Tryz.zeroValue0
 t3:=Tryz.underlying3
 a3:=Tryz.isAgg3
 z3:=Tryz.sizeOf3
 v3:=Tryz.zeroValue3
 t4:=Tryz.underlying4
 a4:=Tryz.isAgg4
 z4:=Tryz.sizeOf4
 v4:=Tryz.zeroValue4
 t9:=Tryz.underlying9
 a9:=Tryz.isAgg9
 z9:=Tryz.sizeOf9
 v9:=Tryz.zeroValue9
 t20:=Tryz.underlying20
 a20:=Tryz.isAgg20
 z20:=Tryz.sizeOf20
 v20:=Tryz.zeroValue20
 t31:=Tryz.underlying29
 a31:=Tryz.isAgg29
 z31:=Tryz.sizeOf29
 v31:=Tryz.zeroValue29
 t37:=Tryz.underlying138
 a37:=Tryz.isAgg138
 z37:=Tryz.sizeOf138
 v37:=Tryz.zeroValue138
 t70:=Tryz.underlying137
 a70:=Tryz.isAgg137
 z70:=Tryz.sizeOf137
 v70:=Tryz.zeroValue137
 t72:=Tryz.underlying140
 a72:=Tryz.isAgg140
 z72:=Tryz.sizeOf140
 v72:=Tryz.zeroValue140
 t75:=Tryz.underlying143
 a75:=Tryz.isAgg143
 z75:=Tryz.sizeOf143
 v75:=Tryz.zeroValue143
 t76:=Tryz.underlying144
 a76:=Tryz.isAgg144
 z76:=Tryz.sizeOf144
 v76:=Tryz.zeroValue144
 t127:=Tryz.underlying171
 a127:=Tryz.isAgg171
 z127:=Tryz.sizeOf171
 v127:=Tryz.zeroValue171
 t164:=Tryz.underlying196
 a164:=Tryz.isAgg196
 z164:=Tryz.sizeOf196
 v164:=Tryz.zeroValue196 }
theorem Tryz.Builder_Extra_156:Builder.Extra Tryz.prog Tryz.lays156_ren:={
 sizeBuilder:=by kernel_rfl
 liesBuilder:=by kernel_rfl
 t5:=Tryz.underlying5
 a5:=Tryz.isAgg5
 z5:=Tryz.sizeOf5
 v5:=Tryz.zeroValue5
 infoByte:=by kernel_rfl
 cellsByte:=by kernel_rfl
 sizeByte:=by kernel_rfl
 neB5:=by decide }
open Go.RowKit in
theorem Tryz.strings_Join (bk o c:Nat)(xs:List ByteArray)(sep:ByteArray)(w:World)(hcells:∀ (j:Nat) x,xs[j]? = some x->w.cell? ⟨bk,o+j,none⟩=some (.string x))(hbk:bk<w.heap.size)(hN:xs.length<=140737488355328)(hcap:xs.length<=c)(DD:(Lib.join (xs.map (·.data.toList)) sep.data.toList).length<=140737488355328) :
  Calls Tryz.prog 43 #[.slice (some ⟨bk,o,none⟩) xs.length c,.string sep] w λ e w'=>e=.returned (.string ⟨(Lib.join (xs.map (·.data.toList)) sep.data.toList).toArray⟩)/\Below w.heap.size w w':=Any.strings_Join Tryz.lays156 Tryz.Builder_Extra_156 bk o c xs sep w hcells hbk hN hcap DD
open Go.RowKit in
theorem Tryz.strings_Join_none (a:Option Addr)(c:Nat)(sep:ByteArray)(w:World) :
  Calls Tryz.prog 43 #[.slice a 0 c,.string sep] w λ e w'=>e=.returned (.string ⟨#[]⟩)/\w'=w:=Any.strings_Join_none Tryz.lays156 Tryz.Builder_Extra_156 a c sep w
end Go.Proofs
end
section
namespace Go.Ab
open Go.Proofs Go.RowKit
def strconv_Itoa (n:Int):Option Bk:=ck (inR n)<|some (Lib.itoa n)
theorem gB (i_0:Int)(r:Bk)(h0:strconv_Itoa i_0=some r):aB Tryz.prog 47 [eI i_0] (·=.p (eS r)):=by
 obtain ⟨hr,h0⟩:=iq h0
 cases h0
 refine aB.of_calls (l:=[.int .i64 i_0]) λ w st hok=>(Tryz.strconv_Itoa _ hr.1 hr.2 w (y9 hok.gl (g:=1) rfl (by kernel_rfl) (by kernel_rfl) (by decide))).mono ?_;rintro e w' ⟨rfl,k,os,rfl⟩;exact ⟨_,rfl,Lib.below_grow _ w (n7 _) k os,λ _=>.p (.val _)⟩
end Go.Ab
namespace Go.Ab
open Go.Proofs Go.RowKit Go
def hexDigit (n:Nat):UInt8:=if n<10 then UInt8.ofNat (48+n) else UInt8.ofNat (87+n)
def fT (u:Nat):Bk:=if u<16 then [hexDigit u] else [hexDigit (u / 16),hexDigit (u%16)]
set_option maxRecDepth 100000 in
theorem tz16 (w:World)(hT:w.cell? ⟨5,15,none⟩=some (.int .u8 4)) :
  Calls Tryz.prog 196 #[.int .u64 16] w λ e w'=>e=.returned (.int .i64 4)/\w'=w:=by
 have hq:IntKind.u64.wrap (Go.bits BinOp.and IntKind.u64 16 (IntKind.u64.wrap (-16))*285870213051353865) / 288230376151711744=15:=by kernel_rfl
 go_enter Tryz.func196,Tryz.ntmps196
 go_wp2
 go_ret
 exact ⟨Z,Z⟩
set_option maxRecDepth 100000 in
theorem pow2 (w:World):Calls Tryz.prog 179 #[.int .i64 16] w λ e w'=>e=.returned (.bool true)/\w'=w:=by
 have hq:bits BinOp.and IntKind.i64 16 15=0:=by kernel_rfl
 go_enter Tryz.func179,Tryz.ntmps179
 go_wp2
 go_ret
 exact ⟨Z,Z⟩
set_option maxRecDepth 100000 in
theorem tz (w:World)(hT:w.cell? ⟨5,15,none⟩=some (.int .u8 4)) :
  Calls Tryz.prog 180 #[.int .u64 16] w λ e w'=>e=.returned (.int .i64 4)/\w'=w:=by
 have HC:=tz16 w hT
 clear hT
 go_enter Tryz.func180,Tryz.ntmps180
 go_wp2_with (go_at_call 196; refine HC.mono ?_; rintro e w' ⟨rfl,rfl⟩)
 go_ret
 exact ⟨Z,Z⟩
end Go.Ab
namespace Go.Ab
open Go.Proofs Go.RowKit Go
abbrev digs:ByteArray:={ data:=#[48,49,50,51,52,53,54,55,56,57,97,98,99,100,101,102,103,104,105,106,107,108,109,110,111,112,113,114,115,116,117,118,119,120,121,122] }
def dig (n:Nat)(h:n<36):UInt8:=digs[n]'(by show n<36; exact h)
theorem wI (n:Nat)(h:n<36):(({ data:=#[48,49,50,51,52,53,54,55,56,57,97,98,99,100,101,102,103,104,105,106,107,108,109,110,111,112,113,114,115,116,117,118,119,120,121,122] }:ByteArray)[n]'(by show n<36; exact h))=dig n h:=rfl
set_option maxRecDepth 100000 in
theorem fb (u:Int)(h0:0<=u)(h1:u<16)(w:World)(hT:w.cell? ⟨5,15,none⟩=some (.int .u8 4)) :
  Calls Tryz.prog 148 #[.slice none 0 0,.int .u64 u,.int .i64 16,.bool false,.bool false] w λ e w'=>e=.returned (.tuple #[.slice none 0 0,.string ⟨[dig u.toNat O].toArray⟩])/\Below w.heap.size w w':=by
 have hlt:(5:Nat)<w.heap.size:=by
  rcases Nat.lt_or_ge 5 w.heap.size with h|h
  ·exact h
  ·simp [World.cell?,Array.getElem?_eq_none h] at hT
 have HZ:Hid (∀ o,Calls Tryz.prog 180 #[.int .u64 16] (w.alloc o) λ e w'=>e=.returned (.int .i64 4)/\w'=w.alloc o):=λ o=>tz (w.alloc o) ((World.cell?_alloc_lt w _ _ hlt).trans hT)
 clear hT
 go_enter Tryz.func148,Tryz.ntmps148
 go_wp2_with (first|(go_at_call 179; refine (pow2 _).mono ?_; rintro e w' ⟨rfl,rfl⟩)|(go_at_call 180; refine (HZ.out _).mono ?_; rintro e w' ⟨rfl,rfl⟩))
 go_loopg [1,13] 1 (λ g uv iv wx=>g=1/\uv=.int .u64 u/\iv=.int .i64 65/\wx=w.alloc (.cells Tryz.zeroCells227 227))
 case atStart=>exact ⟨rfl,rfl,rfl,rfl⟩
 case round=>
  obtain ⟨rfl,rfl,rfl,rfl⟩:=hrel;have hlt16:decide ((16:Int)<=u)=false:=decide_eq_false O
  go_wp2
  rw [wI u.toNat O];generalize hd:dig u.toNat O =dg
  have hcv:=run_convert_bytes_back (P:=Tryz.prog) (w.alloc (.cells (Tryz.zeroCells227.setIfInBounds 64 (.int .u8 dg.toNat)) 227)) 138 9 5 ⟨w.heap.size,64,none⟩ 1 [dg] Tryz.underlying138 Tryz.underlying5 Tryz.underlying9 (λ j hj=>by
   have:j=0:=by simpa using hj
   subst this;rw [add_lit,Nat.add_zero,World.cell?_alloc_new]
   rfl)
  rw [show [dg].length=1 from rfl] at hcv;rw [hcv];simp only [Result.andThen];rw [Oper.upon_value]
  go_wp2
  go_ret2
  subst hd;exact ⟨rfl,(Below.refl _ w).alloc (n7 _) _⟩
theorem Cp:(List.range 256).all (λ n=>Go.bits BinOp.and IntKind.u64 (n:Int) 15==((n%16:Nat):Int))=true:=by kernel_rfl
set_option maxRecDepth 100000 in
theorem fb2 (u:Nat)(h0:16<=u)(h1:u<256)(w:World)(hT:w.cell? ⟨5,15,none⟩=some (.int .u8 4)) :
  Calls Tryz.prog 148 #[.slice none 0 0,.int .u64 u,.int .i64 16,.bool false,.bool false] w λ e w'=>e=.returned (.tuple #[.slice none 0 0,.string ⟨[dig (u / 16) O,dig (u%16) O].toArray⟩])/\Below w.heap.size w w':=by
 have hlt:(5:Nat)<w.heap.size:=by
  rcases Nat.lt_or_ge 5 w.heap.size with h|h
  ·exact h
  ·simp [World.cell?,Array.getElem?_eq_none h] at hT
 have HZ:Hid (∀ o,Calls Tryz.prog 180 #[.int .u64 16] (w.alloc o) λ e w'=>e=.returned (.int .i64 4)/\w'=w.alloc o):=λ o=>tz (w.alloc o) ((World.cell?_alloc_lt w _ _ hlt).trans hT)
 clear hT
 have hand:Go.bits BinOp.and IntKind.u64 (u:Int) 15=((u%16:Nat):Int):=eq_of_beq (List.all_eq_true.1 Cp u (List.mem_range.2 h1))
 go_enter Tryz.func148,Tryz.ntmps148
 go_wp2_with (first|(go_at_call 179; refine (pow2 _).mono ?_; rintro e w' ⟨rfl,rfl⟩)|(go_at_call 180; refine (HZ.out _).mono ?_; rintro e w' ⟨rfl,rfl⟩))
 go_loopg [1,13] 1 (λ g uv iv wx=>(g=1/\uv=.int .u64 u/\iv=.int .i64 65/\wx=w.alloc (.cells Tryz.zeroCells227 227))\/(g=0/\uv=.int .u64 ((u / 16:Nat):Int)/\iv=.int .i64 64/\wx=w.alloc (.cells (Tryz.zeroCells227.setIfInBounds 64 (.int .u8 (dig (u%16) O).toNat)) 227)))
 case atStart=>exact .inl ⟨rfl,rfl,rfl,rfl⟩
 case round=>
  rcases hrel with ⟨rfl,rfl,rfl,rfl⟩|⟨rfl,rfl,rfl,rfl⟩
  ·have hlt16:decide ((16:Int)<=(u:Int))=true:=decide_eq_true O
   go_wp2
   rw [wI (u%16) O]
   go_roundg 0
   case measure=>omega
   case rel=>exact .inr ⟨rfl,by rw [Int.natCast_ediv]; rfl,rfl,rfl⟩
  ·have hlt16:decide ((16:Int)<=((u / 16:Nat):Int))=false:=decide_eq_false O
   go_wp2
   rw [wI (u / 16) O];generalize hd:dig (u / 16) O =d1;generalize he:dig (u%16) O =d0
   have hcv:=run_convert_bytes_back (P:=Tryz.prog) (w.alloc (.cells ((Tryz.zeroCells227.setIfInBounds 64 (.int .u8 d0.toNat)).setIfInBounds 63 (.int .u8 d1.toNat)) 227)) 138 9 5 ⟨w.heap.size,63,none⟩ 2 [d1,d0] Tryz.underlying138 Tryz.underlying5 Tryz.underlying9 (λ j hj=>by
    have:j=0\/j=1:=by simp at hj; omega
    rcases this with rfl|rfl
    ·rw [add_lit,Nat.add_zero,World.cell?_alloc_new]
     rfl
    ·rw [add_lit,World.cell?_alloc_new]
     rfl)
   rw [show [d1,d0].length=2 from rfl] at hcv;rw [hcv];simp only [Result.andThen];rw [Oper.upon_value]
   go_wp2
   go_ret2
   subst hd he;exact ⟨rfl,(Below.refl _ w).alloc (n7 _) _⟩
end Go.Ab
namespace Go.Ab
open Go.Proofs Go.RowKit Go
theorem Aw:∀ n:Fin 16,dig n.1 (Nat.lt_of_lt_of_le n.2 (by decide))=hexDigit n.1:=by decide
theorem qV (n:Nat)(h:n<16)(h':n<36):dig n h'=hexDigit n:=Aw ⟨n,h⟩
theorem CF (u:Nat)(h1:u<256)(w:World)(hT:w.cell? ⟨5,15,none⟩=some (.int .u8 4)) :
  Calls Tryz.prog 148 #[.slice none 0 0,.int .u64 u,.int .i64 16,.bool false,.bool false] w λ e w'=>e=.returned (.tuple #[.slice none 0 0,.string ⟨(fT u).toArray⟩])/\Below w.heap.size w w':=by
 by_cases h:u<16
 ·have:=fb u O O  w hT
  rwa [qV _ O _,Int.toNat_natCast,show [hexDigit u]=fT u from (if_pos h).symm] at this
 ·have:=fb2 u O h1 w hT
  rwa [qV (u / 16) O _,qV (u%16) O _,show [hexDigit (u / 16),hexDigit (u%16)]=fT u from (if_neg h).symm] at this
set_option maxRecDepth 100000 in
theorem fint (u:Nat)(h1:u<256)(w:World)(hT:w.cell? ⟨5,15,none⟩=some (.int .u8 4)) :
  Calls Tryz.prog 113 #[.int .i64 u,.int .i64 16] w λ e w'=>e=.returned (.string ⟨(fT u).toArray⟩)/\Below w.heap.size w w':=by
 have HC:Hid _:=CF u h1 w hT
 clear hT
 have hneg:decide ((u:Int)<0)=false:=decide_eq_false O;generalize fT u=tx at HC ⊢
 go_enter Tryz.func113,Tryz.ntmps113
 go_wp2_with (go_at_call 148; refine Calls.mono HC.out ?_; rintro e w' ⟨rfl,hB⟩)
 go_ret
 exact ⟨Z,hB⟩
set_option maxRecDepth 100000 in
theorem CG (u:Nat)(h1:u<256)(w:World)(hT:w.cell? ⟨5,15,none⟩=some (.int .u8 4)) :
  Calls Tryz.prog 171 #[.int .i64 u,.int .i64 16] w λ e w'=>e=.returned (.string ⟨(fT u).toArray⟩)/\Below w.heap.size w w':=by
 have HC:Hid _:=fint u h1 w hT
 clear hT
 generalize fT u=tx at HC ⊢
 go_enter Tryz.func171,Tryz.ntmps171
 go_wp2_with (go_at_call 113; refine Calls.mono HC.out ?_; rintro e w' ⟨rfl,hB⟩)
 go_ret
 exact ⟨Z,hB⟩
def gO (i b:Int):Option Bk:=ck (b=16/\0<=i/\i<256)<|some (fT i.toNat)
theorem nr (i_0 base_1:Int)(r:Bk)(h0:gO i_0 base_1=some r):aB Tryz.prog 171 [eI i_0,eI base_1] (·=.p (eS r)):=by
 obtain ⟨⟨rfl,h1,h2⟩,h3⟩:=iq h0
 cases h3
 obtain ⟨u,rfl⟩:∃ u:Nat,i_0=u:=⟨i_0.toNat,by omega⟩
 refine aB.of_calls (l:=[.int .i64 u,.int .i64 16]) λ w st hok=>(CG u O w (uE hok.gl rfl (by kernel_rfl))).mono ?_;rintro e w' ⟨rfl,hB⟩;exact ⟨_,rfl,hB,λ _=>.p (.val _)⟩
end Go.Ab
namespace Go.Ab
open Go.Proofs Go.RowKit Go
theorem decN (n b0 b1 b2 b3:Nat)(hn:1<=n)(h0:b0<256):1<=(Lib.decodeN n b0 b1 b2 b3).2/\(Lib.decodeN n b0 b1 b2 b3).2<=n/\(Lib.decodeN n b0 b1 b2 b3).2<=4 /\
  ((Lib.decodeN n b0 b1 b2 b3).1<128->(Lib.decodeN n b0 b1 b2 b3).2=1/\(Lib.decodeN n b0 b1 b2 b3).1=b0) /\
  (128<=(Lib.decodeN n b0 b1 b2 b3).1->128<=b0/\(2<=(Lib.decodeN n b0 b1 b2 b3).2->128<=b1)/\(3<=(Lib.decodeN n b0 b1 b2 b3).2->128<=b2)/\(4<=(Lib.decodeN n b0 b1 b2 b3).2->128<=b3)) /\
  ((Lib.decodeN n b0 b1 b2 b3).1<55296\/(57343<(Lib.decodeN n b0 b1 b2 b3).1/\(Lib.decodeN n b0 b1 b2 b3).1<=1114111)):=by
 unfold Lib.decodeN
 repeat' split
 all_goals (refine ⟨by dsimp only; omega,by dsimp only; omega,by dsimp only; omega,λ h=>⟨by dsimp only at h ⊢; first|done|omega,by dsimp only at h ⊢; first|done|omega⟩,λ h=>⟨by dsimp only at h; omega,λ k=>by dsimp only at k; omega,λ k=>by dsimp only at k; omega,λ k=>by dsimp only at k; omega⟩,by dsimp only; omega⟩)
end Go.Ab
namespace Go.Ab
open Go.Proofs Go.RowKit Go
end Go.Ab
namespace Go.Ab
open Go.Proofs Go.RowKit Go
theorem aB.of_any {P:Program}{f:FuncId}{args:List PV}{r:AV}
  (h:∀ (w:World) (st:Nat->Nat->Prop) (vs:Array Value),Ok0 w st->vs.size=args.length->(∀ (i:Nat) c v,args[i]? = some c->vs[i]? = some v->PRep w st c v) ->
   Calls P f vs w λ e w'=>∃ v,e=.returned v/\Below w.heap.size w w'/\∀ g',ARep w' g' r v):aB P f args (·=r):=by
 intro w st vs hok DG hargs;refine (h w st vs hok DG hargs).mono ?_;rintro e w' ⟨v,rfl,hB,hr⟩;refine ⟨v,r,⟨st,λ _=>none⟩,rfl,rfl,hr _,⟨hB.os,hB.output,hB.tape,hB.size,λ b hb=>hB.block b hb,?_,?_,λ b o hb=>Nat.lt_of_lt_of_le (hok.lt b o hb) hB.size,λ b _ o=>Iff.rfl⟩⟩
 ·intro i b hi; cases hi
 ·intro i j b hi; cases hi
theorem arr2 {vs:Array Value}(h:vs.size=2):∃ a b,vs=#[a,b]/\vs[0]? = some a/\vs[1]? = some b:=by
 refine ⟨vs[0],vs[1],?_,Array.getElem?_eq_getElem _,Array.getElem?_eq_getElem _⟩;apply Array.ext
 ·simpa using h
 ·intro i h1 h2;have:i=0\/i=1:=by omega
  rcases this with rfl|rfl <;> rfl
def strings_Join (xs:List Bk)(sep:Bk):Option Bk:=ck (xs.length<=140737488355328/\(Lib.join xs sep).length<=140737488355328)<|some (Lib.join xs sep)
theorem qE (elems_0:List Bk)(sep_1:Bk)(r:Bk)(h0:strings_Join elems_0 sep_1=some r):aB Tryz.prog 43 [eL eS elems_0,eS sep_1] (·=.p (eS r)):=by
 obtain ⟨⟨h1,h2⟩,h0⟩:=iq h0
 cases h0
 refine aB.of_any λ w st vs hok DG hv=>?_;obtain ⟨a,b,rfl,ha,hb⟩:=arr2 DG;have hb1:=hv 1 (eS sep_1) b rfl hb;have ha2:PRep w st (.slice (elems_0.map eS)) a:=hv 0 (eL eS elems_0) a rfl ha
 clear ha hb hv DG
 cases hb1
 have hmap:((elems_0.map str).map (·.data.toList))=elems_0:=by
  rw [List.map_map]
  conv=>rhs; rw [<- List.map_id elems_0]
  exact List.map_congr_left λ x _=>sf x
 have nil:∀ (a:Option Addr) (c:Nat),elems_0=[]->Calls Tryz.prog 43 #[.slice a 0 c,.string (str sep_1)] w λ e w'=>∃ v,e=.returned v/\Below w.heap.size w w'/\∀ g',ARep w' g' (.p (eS (Lib.join elems_0 sep_1))) v:=by
  rintro a c rfl;refine (Tryz.strings_Join_none a c (str sep_1) w).mono ?_;rintro e w' ⟨rfl,rfl⟩;exact ⟨_,rfl,vA _,λ _=>.p (.val _)⟩
 generalize hes:elems_0.map eS=es at ha2
 cases ha2 with
 | nils=>exact nil _ _ (List.map_eq_nil_iff.1 hes)
 | nile q=>exact nil _ _ (List.map_eq_nil_iff.1 hes)
 | slice sz cf hcap hsz' DK hc hr=>
  rename_i bk off cap;have DD:es.length=elems_0.length:=by rw [<- hes,cl]
  by_cases he:elems_0=[]
  ·have:es.length=0:=by rw [DD,he]; rfl
   rw [this]; exact nil _ _ he
  obtain ⟨x0,hx0⟩:=List.exists_mem_of_ne_nil _ he
  have hs1:sz=1:=by
   have:=hsz' (eS x0) (by rw [<- hes]; exact List.mem_map_of_mem hx0);exact this.symm
  subst hs1
  have DO:∀ (j:Nat) x,(elems_0.map str)[j]? = some x->w.cell? ⟨bk,off+j,none⟩=some (.string x)/\st bk (off+j):=by
   intro j x hx;rw [List.getElem?_map] at hx;obtain ⟨y,hy,rfl⟩:=n8.1 hx;have hj:es[j]? = some (eS y):=by rw [<- hes,List.getElem?_map,hy]; rfl
   have q1:=hc j (eS y) 0 (eS y) hj rfl;have q2:=hr j (eS y) 0 (eS y) hj rfl;rw [Nat.mul_one,Nat.add_zero] at q1;generalize hcv:cf j 0=z at q1 q2
   cases q2
   exact ⟨q1.2,q1.1⟩
  have hbk:bk<w.heap.size:=by
   obtain ⟨i,hi,e⟩:=List.getElem_of_mem hx0;exact hok.lt _ _ (DO i (str x0) (by rw [List.getElem?_map,List.getElem?_eq_getElem hi,e]; rfl)).2
  have hJ:=Tryz.strings_Join bk off cap (elems_0.map str) (str sep_1) w (λ j x hx=>(DO j x hx).1) hbk (by rw [cl]; exact h1) (by rw [cl,<- DD]; exact hcap) (by rw [hmap,sf]; exact h2);rw [cl,<- DD] at hJ;refine hJ.mono ?_;rintro e w' ⟨rfl,hbl⟩;rw [hmap,sf];exact ⟨_,rfl,hbl,λ _=>.p (.val _)⟩
end Go.Ab
end
section
namespace Go.Ab
open Go.MapKept
section
variable {C:Cx} {o:Oper} {K:AS->Prop} {sl:List (Nat×AV)} {ob:List (Nat×List AV)} {d:Nat}
theorem yN {d:Nat}(hd:d<M1):∀ i,Nat.beq i d=true->i<M1:=λ i hi=>by have:=d3 hi; omega
end
/- As 'dem',for identities of any size; what is known of maps of rows is given up. -/
end Go.Ab
end
section
namespace Go.Ab
section
variable {C:Cx} {o:Oper} {K:AS->Prop} {sl:List (Nat×AV)} {ob:List (Nat×List AV)} {d:Nat}
theorem tP {es ys:List PV}{t tx e e':TypeId}{i ie j:TI}{y:Operand}{Y0z:AV}{k:Nat}(D:Nat->Bool)(hDl:∀ i,D i=true->i<M1)(hDk:D k=true)
  (hi:look C.tt t=some i) (DX:i.k=.slice e) (hie:look C.tt e=some ie) (hj:look C.tt tx=some j) (hjk:j.k=.slice e')
  (hy:evo sl y=some Y0z) (hY:Y0z.elems? = some ys) (DG:∀ y∈es++ys,y.cells=[y]/\y.one=true) (h1s:ie.size=1) (hzl:ie.zero.length=ie.size)
  (DD:(es.length+ys.length)*ie.bytes<=140737488355328) (hlen':es.length+ys.length<=9223372036854775807)
  {g:Gh} {a:Act} {w:World} (hs:St C.n C.w0 C.F g ⟨sl,ob⟩ a w) (base:Option Addr) (cap:Nat) (olds:List Value)
  (hold:(Builtin.firstCells ie.size es.length (.slice base es.length cap)).run C.P w.drew=.ok olds.toArray w.drew) (hol:olds.length=es.length)
  (hoc:∀ (i:Nat) x,es[i]? = some x->∃ u,olds[i]? = some u/\PRep w g.st x u)
  (hg:cap<es.length+ys.length) (ty:TypeId) (hn:Nat.blt d C.n=true) :
  ∃ v w' g',(Builtin.append_ #[t,tx] ty #[.slice base es.length cap,a.eval y]).run C.P w=.ok v w' /\
   St C.n C.w0 C.F g' ⟨(d,.stk k 1 (es++ys))::(cO D ⟨sl,ob⟩).sl,(cO D ⟨sl,ob⟩).ob⟩ (a.put (some d) v) w':=by
 obtain ⟨u,h1,h2⟩:=bG C.good hi;have h3:=bB (h2.trans DX);subst h3;obtain ⟨u',h1',h2'⟩:=bG C.good hj;have h3':=bB (h2'.trans hjk);subst h3';obtain ⟨info,hf1,hf2,hf3,z,hf4,hf5⟩:=fV C.good hie;have hyv:=fF hY (bP hs hy);have hszy:∀ y∈ys,y.cells=[y]:=λ y hy=>(DG y (List.mem_append_right _ hy)).1;obtain ⟨news,hsrc,hnews⟩:=om (P:=C.P) (sz:=ie.size) h1' hyv (λ y hy=>by rw [hszy y hy,h1s]; rfl) O;have hfit:=growslice_fits (bytes:=ie.bytes) hg DD;have hrun:=run_append_grow_src w t tx ty e info z h1 hf1 hf4 base es.length cap olds (by rw [hf2]; exact hold) (a.eval y) ys.length news (by rw [hf2]; exact hsrc) hg O (by rw [hf3]; exact hfit);obtain ⟨q,hq⟩:∃ q,q=grownCap w (es.length+ys.length) cap e:=⟨_,rfl⟩
 rw [<- hq] at hrun
 have hqn:es.length+ys.length<=q:=by
  rw [hq]; unfold grownCap; simp only [Question.cut]; omega
 have hzs:z.cells.size=1:=by rw [<- h1s,<- hzl,<- hf5,Array.length_toList]
 have hnl:news.length=ys.length:=by rw [hsrc.newsLen,h1s,Nat.mul_one]
 obtain ⟨c,hc⟩:∃ c,c=(olds++news).toArray++Builtin.zeroCells z.cells (q-(es.length+ys.length)):=⟨_,rfl⟩
 rw [<- hc] at hrun
 have DN:c.size=q:=by
  rw [hc];simp only [Array.size_append,List.size_toArray,bt,hol,hnl,size_zeroCells,hzs];omega
 have hf:=hs.drew.fresh D hDl k hDk (λ o=>o=q*1) c e;have DT:=jE (w:=w.drew) (T:=λ o=>o=q*1) (ob:=.cells c e) hs.drew.lt;have hlenA:(es++ys).length=es.length+ys.length:=bt
 have hrep:ARep (w.drew.alloc (.cells c e)) ⟨λ b o=>g.st b o\/(b=w.drew.heap.size/\o=q*1),λ i=>if i=k then some w.drew.heap.size else if D i then none else g.ow i⟩ (.stk k 1 (es++ys)) (.slice (some ⟨w.drew.heap.size,0,none⟩) (es++ys).length q):=by
  refine .stk G bS O O  (λ x hx=>by rw [(DG x hx).1]; rfl) (λ x hx c hc=>by rw [(DG x hx).1] at hc; obtain rfl:=List.mem_singleton.1 hc; exact (DG c hx).2) (λ o=>?_) (λ i x j p hx hp=>?_)
  ·constructor
   ·rintro (h|⟨_,h⟩)
    ·exact absurd (hs.lt _ _ h) (Nat.lt_irrefl _)
    ·exact h
   ·intro h; exact .inr ⟨rfl,h⟩
  ·rw [(DG x (List.mem_of_getElem? hx)).1] at hp
   have hj:j=0:=by
    have:=(List.getElem?_eq_some_iff.1 hp).1;simpa using this
   subst hj;simp only [List.getElem?_cons_zero,aq] at hp;subst hp;have hil:i<(es++ys).length:=(List.getElem?_eq_some_iff.1 hx).1
   have hget:c[i]? = if i<es.length then olds[i]? else news[i-es.length]?:=by
    rw [hc,Array.getElem?_append];simp only [List.size_toArray,bt,hol,hnl];rw [if_pos O,List.getElem?_toArray,List.getElem?_append,hol]
   rw [Nat.mul_one,Nat.add_zero];rw [List.getElem?_append] at hx;split at hx
   ·rename_i hlt;obtain ⟨u,hu,hr⟩:=hoc i x hx;exact ⟨u,by rw [hget,if_pos hlt]; exact hu,(PRep.mono (w:=w) (w':=w.drew) (st:=g.st) (st':=g.st) (λ b o h=>⟨h,rfl⟩) hr).mono DT⟩
   ·rename_i hge;obtain ⟨k1,u,hu,hr⟩:=hnews (i-es.length) x 0 x hx (by rw [hszy x (List.mem_of_getElem? hx)]; rfl);rw [h1s,Nat.mul_one,Nat.add_zero] at hu;exact ⟨u,by rw [hget,if_neg hge]; exact hu,(PRep.mono (w:=w) (w':=w.drew) (st:=g.st) (st':=g.st) (λ b o h=>⟨h,rfl⟩) hr).mono DT⟩
 rw [hlenA] at hrep;have hp:=hf.put (d:=some d) (λ t ht=>by cases ht; exact n6 ▸ hn) hrep;exact ⟨_,_,_,hrun,hp⟩
theorem vx {t tx e e':TypeId}{x y:Operand}{k:Nat}{es:List PV}{Y0z:AV}{ys:List PV}{i ie j:TI}(ho:o.op=.call { callee:=.builtin .append,args:=#[x,y],argTypes:=#[t,tx] })(hd:o.dst=some d)(hn:Nat.blt d C.n=true)
  (hi:look C.tt t=some i) (DX:i.k=.slice e) (hie:look C.tt e=some ie) (hj:look C.tt tx=some j) (hjk:j.k=.slice e') (hx:evo sl x=some (.stk k 1 es)) (hk:Nat.blt k M1=true)
  (hy:evo sl y=some Y0z) (hY:Y0z.elems? = some ys) (DG:∀ y∈es++ys,y.cells=[y]/\y.one=true) (hys:0<ys.length) (h1s:ie.size=1) (hzl:Nat.beq ie.zero.length ie.size=true)
  (DD:(es.length+ys.length)*ie.bytes<=140737488355328) (hlen':es.length+ys.length<=9223372036854775807)
  (hK:K ⟨(d,.stk k 1 (es++ys))::(cO (λ i=>Nat.beq i k) ⟨sl,ob⟩).sl,(cO (λ i=>Nat.beq i k) ⟨sl,ob⟩).ob⟩):bw C o K ⟨sl,ob⟩:=by
 have hzl':=d3 hzl;have hk':k<M1:=n6 ▸ hk
 have hDl:∀ i,(Nat.beq i k)=true->i<M1:=by
  intro i hi;have:=d3 hi; omega
 intro g a w hs;have hxr:=bP hs hx;generalize hxv:a.eval x=xv at hxr
 have hrun0:∀ v w',(Builtin.append_ #[t,tx] o.type #[xv,a.eval y]).run C.P w=.ok v w'->(execOp a.eval o).run C.P w=.ok (.value v) w':=by
  intro v w' h;rw [fp ho];simp [builtin,hxv,h]
 cases hxr with
 | stkn=>
  obtain ⟨v,w',g',hr',hst'⟩:=tP (es:=[]) (k:=k) (λ i=>Nat.beq i k) hDl G hi DX hie hj hjk hy hY DG h1s hzl' DD hlen' hs none 0 [] (run_firstCells_none w.drew ie.size 0 0 0) rfl (λ i x hx=>by simp at hx) (by simpa using hys) o.type hn;unfold Oper.wp;rw [hrun0 _ _ hr'];simp only [Oper.upon,hd];exact ⟨g',_,hst',hK⟩
 | stke=>
  rename_i a0;obtain ⟨v,w',g',hr',hst'⟩:=tP (es:=[]) (k:=k) (λ i=>Nat.beq i k) hDl G hi DX hie hj hjk hy hY DG h1s hzl' DD hlen' hs (some a0) 0 [] (run_firstCells_some w.drew ie.size 0 a0 0 0 [] G G) rfl (λ i x hx=>by simp at hx) (by simpa using hys) o.type hn;unfold Oper.wp;rw [hrun0 _ _ hr'];simp only [Oper.upon,hd];exact ⟨g',_,hst',hK⟩
 | stk how hb DN hlenc hszc DK DW hr=>
  rename_i b cap c e0;rw [Nat.mul_one] at DN
  have DO:∀ (i:Nat) x,es[i]? = some x->∃ u,c[i]? = some u/\PRep w g.st x u:=by
   intro i x hx;obtain ⟨v,h1,h2⟩:=hr i x 0 x hx (by rw [(DG x (List.mem_append_left _ (List.mem_of_getElem? hx))).1]; rfl);exact ⟨v,by rw [Nat.mul_one,Nat.add_zero] at h1; exact h1,h2⟩
  by_cases hroom:es.length+ys.length<=cap
  ·obtain ⟨u,h1,h2⟩:=bG C.good hi;have h3:=bB (h2.trans DX);subst h3;obtain ⟨u',h1',h2'⟩:=bG C.good hj;have h3':=bB (h2'.trans hjk);subst h3';obtain ⟨info,hf1,hf2,hf3,z,hf4,hf5⟩:=fV C.good hie;have hyv:=fF hY (bP hs hy);have hszy:∀ y∈ys,y.cells=[y]:=λ y hy=>(DG y (List.mem_append_right _ hy)).1;obtain ⟨news,hsrc,hnews⟩:=om (P:=C.P) (sz:=ie.size) h1' hyv (λ y hy=>by rw [hszy y hy,h1s]; rfl) O;have hnl:news.length=ys.length:=by rw [hsrc.newsLen,h1s,Nat.mul_one]
   have hstc:=run_storeCells_at C.P b (es.length*ie.size) e0 news 0 c w hb (by rw [h1s]; simp; omega) hsrc.one;simp only [Nat.add_zero] at hstc;rw [h1s,Nat.mul_one] at hstc;obtain ⟨c',hc'⟩:∃ c',c'=(c.toList.take es.length++news++c.toList.drop (es.length+news.length)).toArray:=⟨_,rfl⟩
   rw [<- hc'] at hstc;have hrr:=gi t tx o.type e info h1 hf1 b es.length cap (a.eval y) ys.length news (by rw [hf2]; exact hsrc) hroom (by rw [hf2,h1s,Nat.mul_one]; exact hstc)
   have hcell':∀ j,c'[j]? = if es.length<=j/\j<es.length+news.length then news[j-es.length]? else c[j]?:=by
    intro j;rw [hc'];have:=gW c.toList news es.length (by simp; omega) j;simpa using this
   have hcs':c'.size=cap:=by rw [<- DN,hc']; simp; omega
   have hin:=hs.inplace (λ i=>Nat.beq i k) hDl (k:=k) (d:=k) how G G  hb (c':=c') (hcs'.trans DN.symm) (λ o h=>by
    have:=(DW o).1 h
    rw [Array.getElem?_eq_none O,Array.getElem?_eq_none O]) (λ o=>o=cap*1) (λ o h=>(DW o).1 h)
   have hEv:Ev w g.st (w.setRow b c') (λ b' o=>(b'=b/\o=cap*1)\/(b'≠b/\g.st b' o)):=by
    intro b' o h;by_cases e1:b'=b
    ·subst e1;have ho:=(DW o).1 h;refine ⟨.inl ⟨rfl,ho⟩,?_⟩;simp only [World.cell?,setRow_heap w b' c c' e0 (0,0) hb,hb];rw [Array.getElem?_eq_none O,Array.getElem?_eq_none O]
    ·exact ⟨.inr ⟨e1,h⟩,by simp only [World.cell?,setRow_other w b b' c' e1]⟩
   have hlenA:(es++ys).length=es.length+ys.length:=bt
   have hrep:ARep (w.setRow b c') ⟨λ b' o=>(b'=b/\o=cap*1)\/(b'≠b/\g.st b' o),λ i=>if i=k then some b else if (Nat.beq i k) then none else g.ow i⟩ (.stk k 1 (es++ys)) (.slice (some ⟨b,0,none⟩) (es++ys).length cap):=by
    refine .stk G (setRow_heap w b c c' e0 (0,0) hb) O O  (λ x hx=>by rw [(DG x hx).1]; rfl) (λ x hx c hc=>by rw [(DG x hx).1] at hc; obtain rfl:=List.mem_singleton.1 hc; exact (DG c hx).2) (λ o=>?_) (λ i x j p hx hp=>?_)
    ·constructor
     ·rintro (⟨_,h⟩|⟨h,_⟩)
      ·exact h
      ·exact absurd Z h
     ·intro h; exact .inl ⟨rfl,h⟩
    ·rw [(DG x (List.mem_of_getElem? hx)).1] at hp
     have hj:j=0:=by
      have:=(List.getElem?_eq_some_iff.1 hp).1;simpa using this
     subst hj;simp only [List.getElem?_cons_zero,aq] at hp;subst hp;rw [Nat.mul_one,Nat.add_zero];rw [List.getElem?_append] at hx;split at hx
     ·rename_i hlt;obtain ⟨u,hu,hr⟩:=DO i x hx;exact ⟨u,by rw [hcell',if_neg O]; exact hu,hr.mono hEv⟩
     ·rename_i hge;have hi2:i-es.length<ys.length:=(List.getElem?_eq_some_iff.1 hx).1;obtain ⟨_,u,hu,hr⟩:=hnews (i-es.length) x 0 x hx (by rw [hszy x (List.mem_of_getElem? hx)]; rfl);rw [h1s,Nat.mul_one,Nat.add_zero] at hu;exact ⟨u,by rw [hcell',if_pos O]; exact hu,hr.mono hEv⟩
   rw [hlenA] at hrep;have hp:=hin.put (d:=some d) (λ t ht=>by cases ht; exact n6 ▸ hn) hrep;unfold Oper.wp;rw [hrun0 _ _ hrr];simp only [Oper.upon,hd];exact ⟨_,_,hp,hK⟩
  ·have hlenT:(c.toList.take es.length).length=es.length:=by
    rw [qr,show c.toList.length=cap from Array.length_toList.trans DN]; omega
   have hold:(Builtin.firstCells ie.size es.length (.slice (some ⟨b,0,none⟩) es.length cap)).run C.P w.drew=.ok (c.toList.take es.length).toArray w.drew:=by
    refine run_firstCells_some w.drew ie.size es.length ⟨b,0,none⟩ es.length cap _ (by rw [hlenT,h1s,Nat.mul_one]) (λ j v hv=>?_);rw [List.getElem?_take] at hv;split at hv
    ·rw [add_lit,th,World.cell?_drew];simp only [World.cell?,hb];simpa using hv
    ·cases hv
   obtain ⟨v,w',g',hr',hst'⟩:=tP (es:=es) (k:=k) (λ i=>Nat.beq i k) hDl G hi DX hie hj hjk hy hY DG h1s hzl' DD hlen' hs (some ⟨b,0,none⟩) cap (c.toList.take es.length)
    hold hlenT (λ i x hx=>by
     obtain ⟨u,hu,hr⟩:=DO i x hx
     exact ⟨u,by rw [List.getElem?_take,if_pos (List.getElem?_eq_some_iff.1 hx).1]; simpa using hu,hr⟩) O o.type hn
   unfold Oper.wp;rw [hrun0 _ _ hr'];simp only [Oper.upon,hd];exact ⟨g',_,hst',hK⟩
theorem y5 {t e:TypeId}{x:Operand}{i:TI}{k sz:Nat}{es:List PV}(ho:o.op=.call { callee:=.builtin .len,args:=#[x],argTypes:=#[t] })(hd:o.dst=some d)(hn:Nat.blt d C.n=true)
  (hi:look C.tt t=some i) (DX:i.k=.slice e) (hx:evo sl x=some (.stk k sz es))
  (hK:K ⟨(d,.p (.val (.int .i64 (es.length:Int))))::sl,ob⟩):bw C o K ⟨sl,ob⟩:=by
 obtain ⟨u,h1,h2⟩:=bG C.good hi;have h3:=bB (h2.trans DX);subst h3;refine ok_one hd hn (λ g a w hs=>?_) hK;have h5:=bP hs hx;generalize hv:a.eval x=v at h5
 cases h5 with
 | stkn=>exact ⟨.int .i64 0,by rw [fp ho]; simp [builtin,hv,Builtin.len_,run_underlying h1,goInt],.p (.val _)⟩
 | stke=>exact ⟨.int .i64 0,by rw [fp ho]; simp [builtin,hv,Builtin.len_,run_underlying h1,goInt],.p (.val _)⟩
 | stk how hb DN hlenc hszc DK DW hr=>exact ⟨.int .i64 (es.length:Int),by rw [fp ho]; simp [builtin,hv,Builtin.len_,run_underlying h1,goInt],.p (.val _)⟩
end
theorem AV.sub_nilstk (tok sz:Nat):(AV.p (.val (.slice none 0 0))).sub (.stk tok sz []):=by
 intro w g v h
 cases h with
 | p h=>cases h; exact .stkn _ _
section
variable {C:Cx} {o:Oper} {K:AS->Prop} {sl:List (Nat×AV)} {ob:List (Nat×List AV)} {d:Nat}
theorem Ad {α:Type}(f:α->PV)(hf:∀ x,(f x).cells=[f x]/\(f x).one=true)(l0 l:List α){t tx e e':TypeId}{x y:Operand}{k:Nat}{Y0z:AV}{i ie j:TI}{sl':List (Nat×AV)}{ob':List (Nat×List AV)}(ho:o.op=.call { callee:=.builtin .append,args:=#[x,y],argTypes:=#[t,tx] })(hd:o.dst=some d)(hn:Nat.blt d C.n=true)
  (hi:look C.tt t=some i) (DX:i.k=.slice e) (hie:look C.tt e=some ie) (hj:look C.tt tx=some j) (hjk:j.k=.slice e') (hx:evo sl x=some (.stk k 1 (l0.map f))) (hk:Nat.blt k M1=true)
  (hy:evo sl y=some Y0z) (hY:Y0z.elems? = some (l.map f)) (hys:0<l.length) (h1s:ie.size=1) (hzl:Nat.beq ie.zero.length ie.size=true) (hby:Nat.blt 0 ie.bytes=true)
  (DD:(l0.length+l.length)*ie.bytes<=140737488355328) (h1:dmS (λ i=>Nat.beq i k) sl=some sl') (h2:dmO (λ i=>Nat.beq i k) ob=some ob')
  (hK:K ⟨(d,.stk k 1 ((l0++l).map f))::sl',ob'⟩):bw C o K ⟨sl,ob⟩:=by
 have hby':1<=ie.bytes:=Nat.succ_le_of_lt (by simpa using hby);have h3:(l0.length+l.length)*1<=(l0.length+l.length)*ie.bytes:=Nat.mul_le_mul_left _ hby';refine vx ho hd hn hi DX hie hj hjk hx hk hy hY (λ y hy=>?_) (by simpa using hys) h1s hzl (by rw [cl,cl]; exact DD) (by rw [cl,cl]; omega) ?_
 ·rw [<- List.map_append] at hy;obtain ⟨x,_,rfl⟩:=List.mem_map.1 hy;exact hf x
 ·rw [<- List.map_append];simp only [cO];rw [<- pi h1,<- mN h2];exact hK
theorem rI {α:Type}(f:α->PV)(l:List α){t e:TypeId}{x:Operand}{i:TI}{k sz:Nat}(ho:o.op=.call { callee:=.builtin .len,args:=#[x],argTypes:=#[t] })(hd:o.dst=some d)(hn:Nat.blt d C.n=true)
  (hi:look C.tt t=some i) (DX:i.k=.slice e) (hx:evo sl x=some (.stk k sz (l.map f))) (hK:K ⟨(d,.p (eI (l.length:Int)))::sl,ob⟩):bw C o K ⟨sl,ob⟩ :=
 y5 ho hd hn hi DX hx (by rw [cl]; exact hK)
end
section
variable {C:Cx} {o:Oper} {K:AS->Prop} {sl:List (Nat×AV)} {ob:List (Nat×List AV)} {d:Nat}
theorem rR {α:Type}(f:α->PV)(l:List α){t e len:Nat}{parts:Array (Nat×Operand)}{i ie:TI}{es:List PV}{sz:Nat}(ho:o.op=.buildSlice t len parts)(hd:o.dst=some d)(hn:Nat.blt d C.n=true)
  (hi:look C.tt t=some i) (DX:i.k=.slice e) (hie:look C.tt e=some ie) (hes:kK sl 0 parts.toList=some es) (DD:Nat.beq es.length len=true) (hpos:Nat.blt 0 len=true)
  (hk:Nat.blt 0 ie.size=true) (hsm:Nat.ble (len*ie.size) 16777216=true) (DG:og ie.size es=true) (hzl:Nat.beq ie.zero.length ie.size=true) (he:es=l.map f) (hsz1:ie.size=sz)
  {sl':List (Nat×AV)} {ob':List (Nat×List AV)} (h1':dmS (λ i=>Nat.beq i d) sl=some sl') (h2':dmO (λ i=>Nat.beq i d) ob=some ob')
  (hK:K ⟨(d,.vec d sz 0 (l.map f))::sl',ob'⟩):bw C o K ⟨sl,ob⟩:=by
 subst hsz1;rw [<- he] at hK
 clear he
 obtain ⟨u,h1,h2⟩:=bG C.good hi;have h3:=bB (h2.trans DX);subst h3;have hlen':es.length=len:=d3 DD;have hpos':0<len:=by simpa using hpos
 have hk':0<ie.size:=by simpa using hk
 have hsm':=ph hsm;have hzl':=d3 hzl;have hdl:d<M1:=by have h1:=ph C.nl; have h2:d<C.n:=n6 ▸ hn; omega
 obtain ⟨j,hj,hj1,hj2,z,hz1,hz2⟩:=fV C.good hie;intro g a w hs;obtain ⟨q1,q2,q3⟩:=mI hs _ 0 es hes;obtain ⟨vs,hvs⟩:∃ vs,vs=parts.toList.map λ p=>a.eval p.2:=⟨_,rfl⟩
 rw [<- hvs] at q1 q3;have hvl:es.length=vs.length:=by rw [hvs,cl]; exact q2
 have hzs:z.cells.size=ie.size:=by rw [<- hzl',<- hz2,Array.length_toList]
 have hvsz:∀ v∈vs,v.cells.size=ie.size:=by
  intro v hv;obtain ⟨m,hm,rfl⟩:=List.getElem_of_mem hv;have hp:=q3 m (es[m]' O) _ (List.getElem?_eq_getElem O) (List.getElem?_eq_getElem hm);obtain ⟨m1,m2⟩:=gU DG (es[m]' O) (List.getElem_mem _);rw [(oq hp m2).1,m1]
 obtain ⟨r,f1,f2,f3⟩:=Great.fill_dense hk' vs 0 ((Array.range (len*ie.size)).map (z.cells[· % z.cells.size]!)) hvsz (by simp; rw [<- hvl,hlen']; exact n7 _)
 have f1':Instr.fill (λ i=>some (i*ie.size,ie.size)) ((Array.range (len*ie.size)).map (z.cells[· % z.cells.size]!)) (parts.map λ (i,x)=>(i,a.eval x)).toList=some r:=by
  rw [Array.toList_map]; rw [<- f1]; congr 1
 have hrun:=run_buildSlice (P:=C.P) w t e len (parts.map λ (i,x)=>(i,a.eval x)) r j z h1 hj hz1 (by rw [hj1]; omega) (by rw [hj1]; have:=Nat.mul_pos hpos' hk'; omega) (by rw [hj1]; exact f1');unfold Oper.wp
 have hrun':(execOp a.eval o).run C.P w=.ok (.value (.slice (some ⟨w.heap.size,0,none⟩) len len)) (w.alloc (.cells r e)):=by
  simp only [execOp,ho,Sem.run_bind,hrun,Result.andThen_ok,Sem.run_pure]
 rw [hrun'];have hrs:r.size=len*ie.size:=by rw [f2]; simp
 have hprep:=uK (e:=e) hk' hvl hs.lt q3 DG (r:=r) (by rw [f2]; simp; rw [hlen']) (λ m hm=>by rw [f3 m,if_pos (by simp; rw [<- hvl]; exact hm)]; simp) len O;have hf:=hs.fresh (λ i=>Nat.beq i d) (λ i hi=>by have:=d3 hi; omega) d G (λ o=>o<es.length*ie.size) r e
 have hv:ARep (w.alloc (.cells r e)) ⟨λ b o=>g.st b o\/(b=w.heap.size/\o<es.length*ie.size),λ i=>if i=d then some w.heap.size else if Nat.beq i d then none else g.ow i⟩ (.vec d ie.size 0 es) (.slice (some ⟨w.heap.size,0,none⟩) es.length len):=by
  refine .vec G bS (by rw [hrs,th]) (λ x hx=>(gU DG x hx).1) (λ o=>?_) hprep (.inl Z);rw [th];constructor
  ·rintro (h|⟨_,h⟩)
   ·exact absurd (hs.lt _ _ h) (Nat.lt_irrefl _)
   ·exact h
  ·intro h; exact .inr ⟨rfl,h⟩
 have DW:=hf.put (d:=o.dst) (λ t ht=>by rw [hd] at ht; cases ht; exact n6 ▸ hn) hv;rw [hlen'] at DW;simp only [Oper.upon];rw [hd] at DW ⊢;refine ⟨_,_,DW,?_⟩;simp only [AS.put,cO];rw [<- pi h1',<- mN h2'];exact hK
end
open Go.Proofs Go.Ab
attribute [local irreducible] awp iJ bw aB dh fW AV.sub
theorem gp (l:List Bk)(DD:l.length*16<=140737488355328):aB Tryz.prog 116 [eL eS l] (·=.p (eL eS l)):=by
 refine aR good Tryz.func116 Z Z Z λ w0=>?_;refine cM ?_;refine dW ?_;refine bF Z ?_;refine cF Z Z Z Z ?_;refine dj ?_
 (repeat (first|refine bg ?_|refine bv ?_|refine bY ?_|refine br Z ?_|refine bT ?_|refine bb ?_|refine bf ?_|refine aP ?_|refine aY ?_|refine aS Z ?_|refine noGoto_ret ?_|refine noGoto_exit ?_|refine noGoto_normal ?_))
 refine cM ?_;refine cM ?_;refine dW ?_;refine bF Z ?_;refine bo Z Z Z Z ?_;refine bF Z ?_;refine ly Z Z Z Z Z Z Z Z (λ b hb=>?_);refine dj ?_
 (repeat (first|refine bg ?_|refine bv ?_|refine bY ?_|refine br Z ?_|refine bT ?_|refine bb ?_|refine bf ?_|refine aP ?_|refine aY ?_|refine aS Z ?_|refine noGoto_ret ?_|refine noGoto_exit ?_|refine noGoto_normal ?_))
 refine tm Z (λ hc=>?_) (λ hc=>?_)
 ·have he:l=[]:=by simpa using hb hc
  subst he;refine cM ?_;refine dW ?_;refine bF rfl ?_;refine cF Z Z Z Z ?_;refine dj ?_
  (repeat (first|refine bg ?_|refine bv ?_|refine bY ?_|refine br Z ?_|refine bT ?_|refine bb ?_|refine bf ?_|refine aP ?_|refine aY ?_|refine aS Z ?_|refine noGoto_ret ?_|refine noGoto_exit ?_|refine noGoto_normal ?_))
  refine jC ?_
  (repeat (first|refine bg ?_|refine bv ?_|refine bY ?_|refine br Z ?_|refine bT ?_|refine bb ?_|refine bf ?_|refine aP ?_|refine aY ?_|refine aS Z ?_|refine noGoto_ret ?_|refine noGoto_exit ?_|refine noGoto_normal ?_))
  refine l5 Z ?_;exact jz _
 ·skip
  refine kJ ?_
  (repeat (first|refine bg ?_|refine bv ?_|refine bY ?_|refine br Z ?_|refine bT ?_|refine bb ?_|refine bf ?_|refine aP ?_|refine aY ?_|refine aS Z ?_|refine noGoto_ret ?_|refine noGoto_exit ?_|refine noGoto_normal ?_))
  refine cM ?_;refine dW ?_;refine bF Z ?_;refine pb Z Z Z Z Z Z Z 5 1 ?_;refine bF Z ?_;refine bo Z Z Z Z ?_;refine bF Z ?_;refine du eS [] l Z Z Z Z Z Z Z Z Z Z Z Z Z Y Z Z Z Z (by simpa using DD) ?_;refine bF Z ?_;refine cF Z Z Z Z ?_;refine dj ?_
  (repeat (first|refine bg ?_|refine bv ?_|refine bY ?_|refine br Z ?_|refine bT ?_|refine bb ?_|refine bf ?_|refine aP ?_|refine aY ?_|refine aS Z ?_|refine noGoto_ret ?_|refine noGoto_exit ?_|refine noGoto_normal ?_))
  refine jC ?_
  (repeat (first|refine bg ?_|refine bv ?_|refine bY ?_|refine br Z ?_|refine bT ?_|refine bb ?_|refine bf ?_|refine aP ?_|refine aY ?_|refine aS Z ?_|refine noGoto_ret ?_|refine noGoto_exit ?_|refine noGoto_normal ?_))
  refine l5 Z ?_;exact AV.sub_vec _ _ _ _
theorem jN (l:List Bk)(DD:l.length*16<=140737488355328):dh Tryz.prog 116 [.p (eL eS l)] [] (λ x y=>x=.vec 2000000 1 0 (l.map eS)/\y=[]):=by
 refine ln good [800000] [] Tryz.func116 Z Z Z Z Z λ w0 F=>?_;refine cM ?_;refine dW ?_;refine bF Z ?_;refine cF Z Z Z Z ?_;refine dj ?_
 (repeat (first|refine bg ?_|refine bv ?_|refine bY ?_|refine br Z ?_|refine bT ?_|refine bb ?_|refine bf ?_|refine aP ?_|refine aY ?_|refine aS Z ?_|refine noGoto_ret ?_|refine noGoto_exit ?_|refine noGoto_normal ?_))
 refine cM ?_;refine cM ?_;refine dW ?_;refine bF Z ?_;refine bo Z Z Z Z ?_;refine bF Z ?_;refine ly Z Z Z Z Z Z Z Z (λ b hb=>?_);refine dj ?_
 (repeat (first|refine bg ?_|refine bv ?_|refine bY ?_|refine br Z ?_|refine bT ?_|refine bb ?_|refine bf ?_|refine aP ?_|refine aY ?_|refine aS Z ?_|refine noGoto_ret ?_|refine noGoto_exit ?_|refine noGoto_normal ?_))
 refine tm Z (λ hc=>?_) (λ hc=>?_)
 ·have he:l=[]:=by simpa using hb hc
  subst he;refine cM ?_;refine dW ?_;refine bF rfl ?_;refine cF Z Z Z Z ?_;refine dj ?_
  (repeat (first|refine bg ?_|refine bv ?_|refine bY ?_|refine br Z ?_|refine bT ?_|refine bb ?_|refine bf ?_|refine aP ?_|refine aY ?_|refine aS Z ?_|refine noGoto_ret ?_|refine noGoto_exit ?_|refine noGoto_normal ?_))
  refine jC ?_
  (repeat (first|refine bg ?_|refine bv ?_|refine bY ?_|refine br Z ?_|refine bT ?_|refine bb ?_|refine bf ?_|refine aP ?_|refine aY ?_|refine aS Z ?_|refine noGoto_ret ?_|refine noGoto_exit ?_|refine noGoto_normal ?_))
  exact pc (en _) Z Z Z Z (AV.sub_nilvec _ _ _) trivial
 ·skip
  refine kJ ?_
  (repeat (first|refine bg ?_|refine bv ?_|refine bY ?_|refine br Z ?_|refine bT ?_|refine bb ?_|refine bf ?_|refine aP ?_|refine aY ?_|refine aS Z ?_|refine noGoto_ret ?_|refine noGoto_exit ?_|refine noGoto_normal ?_))
  refine cM ?_;refine dW ?_;refine bF Z ?_;refine pb Z Z Z Z Z Z Z 5 1 ?_;refine bF Z ?_;refine bo Z Z Z Z ?_;refine bF Z ?_;refine du eS [] l Z Z Z Z Z Z Z Z Z Z Z Z Z Y Z Z Z Z (by simpa using DD) ?_;refine bF Z ?_;refine cF Z Z Z Z ?_;refine dj ?_
  (repeat (first|refine bg ?_|refine bv ?_|refine bY ?_|refine br Z ?_|refine bT ?_|refine bb ?_|refine bf ?_|refine aP ?_|refine aY ?_|refine aS Z ?_|refine noGoto_ret ?_|refine noGoto_exit ?_|refine noGoto_normal ?_))
  refine jC ?_
  (repeat (first|refine bg ?_|refine bv ?_|refine bY ?_|refine br Z ?_|refine bT ?_|refine bb ?_|refine bf ?_|refine aP ?_|refine aY ?_|refine aS Z ?_|refine noGoto_ret ?_|refine noGoto_exit ?_|refine noGoto_normal ?_))
  exact pc (bI 7 800000 Z Z Z Z Z) Z Z Z Z (AV.sub_refl _) trivial
theorem ir (l:List aa)(h:l.isEmpty=true):aB Tryz.prog 117 [eL ag l] (·=.p (eL ag [])):=by
 obtain rfl:l=[]:=by simpa using h
 refine aR good Tryz.func117 Z Z Z λ w0=>?_;refine cM ?_;refine dW ?_;refine bF Z ?_;refine cF Z Z Z Z ?_;refine dj ?_
 (repeat (first|refine bg ?_|refine bv ?_|refine bY ?_|refine br Z ?_|refine bT ?_|refine bb ?_|refine bf ?_|refine aP ?_|refine aY ?_|refine aS Z ?_|refine noGoto_ret ?_|refine noGoto_exit ?_|refine noGoto_normal ?_))
 refine cM ?_;refine cM ?_;refine dW ?_;refine bF Z ?_;refine bo Z Z Z Z ?_;refine bF Z ?_;refine ly Z Z Z Z Z Z Z Z (λ b hb=>?_);refine dj ?_
 (repeat (first|refine bg ?_|refine bv ?_|refine bY ?_|refine br Z ?_|refine bT ?_|refine bb ?_|refine bf ?_|refine aP ?_|refine aY ?_|refine aS Z ?_|refine noGoto_ret ?_|refine noGoto_exit ?_|refine noGoto_normal ?_))
 refine tm Z (λ hc=>?_) (λ hc=>?_)
 ·skip
  refine cM ?_;refine dW ?_;refine bF Z ?_;refine cF Z Z Z Z ?_;refine dj ?_
  (repeat (first|refine bg ?_|refine bv ?_|refine bY ?_|refine br Z ?_|refine bT ?_|refine bb ?_|refine bf ?_|refine aP ?_|refine aY ?_|refine aS Z ?_|refine noGoto_ret ?_|refine noGoto_exit ?_|refine noGoto_normal ?_))
  refine jC ?_
  (repeat (first|refine bg ?_|refine bv ?_|refine bY ?_|refine br Z ?_|refine bT ?_|refine bb ?_|refine bf ?_|refine aP ?_|refine aY ?_|refine aS Z ?_|refine noGoto_ret ?_|refine noGoto_exit ?_|refine noGoto_normal ?_))
  refine l5 Z ?_;exact jz _
 ·skip
  refine kJ ?_
  (repeat (first|refine bg ?_|refine bv ?_|refine bY ?_|refine br Z ?_|refine bT ?_|refine bb ?_|refine bf ?_|refine aP ?_|refine aY ?_|refine aS Z ?_|refine noGoto_ret ?_|refine noGoto_exit ?_|refine noGoto_normal ?_))
  refine cM ?_;refine dW ?_;refine bF Z ?_;refine pb Z Z Z Z Z Z Z 5 5 ?_;refine bF Z ?_;refine bo Z Z Z Z ?_;refine bF Z ?_;refine du ag [] [] Z Z Z Z Z Z Z Z Z Z Z Z Z (λ x=>congrArg List.length (aa.CM x)) Z Z Z Z (by decide) ?_;refine bF Z ?_;refine cF Z Z Z Z ?_;refine dj ?_
  (repeat (first|refine bg ?_|refine bv ?_|refine bY ?_|refine br Z ?_|refine bT ?_|refine bb ?_|refine bf ?_|refine aP ?_|refine aY ?_|refine aS Z ?_|refine noGoto_ret ?_|refine noGoto_exit ?_|refine noGoto_normal ?_))
  refine jC ?_
  (repeat (first|refine bg ?_|refine bv ?_|refine bY ?_|refine br Z ?_|refine bT ?_|refine bb ?_|refine bf ?_|refine aP ?_|refine aY ?_|refine aS Z ?_|refine noGoto_ret ?_|refine noGoto_exit ?_|refine noGoto_normal ?_))
  refine l5 Z ?_;exact AV.sub_vec _ _ _ _
theorem iw (l:List aa)(h:l.isEmpty=false)(DD:l.length*80<=140737488355328):dh Tryz.prog 117 [.p (eL ag l)] [] (λ x y=>x=.arr 2000000 5 0 l.length/\y=[(2000000,iz ag l)]):=by
 refine ln good [800000] [800000] Tryz.func117 Z Z Z Z Z λ w0 F=>?_;refine cM ?_;refine dW ?_;refine bF Z ?_;refine cF Z Z Z Z ?_;refine dj ?_
 (repeat (first|refine bg ?_|refine bv ?_|refine bY ?_|refine br Z ?_|refine bT ?_|refine bb ?_|refine bf ?_|refine aP ?_|refine aY ?_|refine aS Z ?_|refine noGoto_ret ?_|refine noGoto_exit ?_|refine noGoto_normal ?_))
 refine cM ?_;refine cM ?_;refine dW ?_;refine bF Z ?_;refine bo Z Z Z Z ?_;refine bF Z ?_;refine ly Z Z Z Z Z Z Z Z (λ b hb=>?_);refine dj ?_
 (repeat (first|refine bg ?_|refine bv ?_|refine bY ?_|refine br Z ?_|refine bT ?_|refine bb ?_|refine bf ?_|refine aP ?_|refine aY ?_|refine aS Z ?_|refine noGoto_ret ?_|refine noGoto_exit ?_|refine noGoto_normal ?_))
 refine tm Z (λ hc=>?_) (λ hc=>?_)
 ·have he:l=[]:=by simpa using hb hc
  subst he
  cases h
 ·skip
  refine kJ ?_
  (repeat (first|refine bg ?_|refine bv ?_|refine bY ?_|refine br Z ?_|refine bT ?_|refine bb ?_|refine bf ?_|refine aP ?_|refine aY ?_|refine aS Z ?_|refine noGoto_ret ?_|refine noGoto_exit ?_|refine noGoto_normal ?_))
  refine cM ?_;refine dW ?_;refine bF Z ?_;refine sX Z Z Z Z Z Z 5 ?_;refine bF Z ?_;refine bo Z Z Z Z ?_;refine bF Z ?_;refine xj ag [] l Z Z Z Z Z Z Z Z Z Z Z Z Z Z Z (λ x=>congrArg List.length (aa.CM x)) Z Z Z (by simpa using DD) ?_;refine bF Z ?_;refine cF Z Z Z Z ?_;refine dj ?_
  (repeat (first|refine bg ?_|refine bv ?_|refine bY ?_|refine br Z ?_|refine bT ?_|refine bb ?_|refine bf ?_|refine aP ?_|refine aY ?_|refine aS Z ?_|refine noGoto_ret ?_|refine noGoto_exit ?_|refine noGoto_normal ?_))
  refine jC ?_
  (repeat (first|refine bg ?_|refine bv ?_|refine bY ?_|refine br Z ?_|refine bT ?_|refine bb ?_|refine bf ?_|refine aP ?_|refine aY ?_|refine aS Z ?_|refine noGoto_ret ?_|refine noGoto_exit ?_|refine noGoto_normal ?_))
  exact pc (bI 7 800000 Z Z Z Z (kD Z (jQ _) Z)) Z Z Z (kD Z (jQ _) Z) (AV.sub_of_eq (congrArg (AV.arr 2000000 5 0) G)) ⟨⟨_,Z,eC _⟩,trivial⟩
theorem iP (l:List ak)(h:l.isEmpty=true):aB Tryz.prog 151 [eL aE l] (·=.p (eL aE [])):=by
 obtain rfl:l=[]:=by simpa using h
 refine aR good Tryz.func151 Z Z Z λ w0=>?_;refine cM ?_;refine dW ?_;refine bF Z ?_;refine cF Z Z Z Z ?_;refine dj ?_
 (repeat (first|refine bg ?_|refine bv ?_|refine bY ?_|refine br Z ?_|refine bT ?_|refine bb ?_|refine bf ?_|refine aP ?_|refine aY ?_|refine aS Z ?_|refine noGoto_ret ?_|refine noGoto_exit ?_|refine noGoto_normal ?_))
 refine cM ?_;refine cM ?_;refine dW ?_;refine bF Z ?_;refine bo Z Z Z Z ?_;refine bF Z ?_;refine ly Z Z Z Z Z Z Z Z (λ b hb=>?_);refine dj ?_
 (repeat (first|refine bg ?_|refine bv ?_|refine bY ?_|refine br Z ?_|refine bT ?_|refine bb ?_|refine bf ?_|refine aP ?_|refine aY ?_|refine aS Z ?_|refine noGoto_ret ?_|refine noGoto_exit ?_|refine noGoto_normal ?_))
 refine tm Z (λ hc=>?_) (λ hc=>?_)
 ·skip
  refine cM ?_;refine dW ?_;refine bF Z ?_;refine cF Z Z Z Z ?_;refine dj ?_
  (repeat (first|refine bg ?_|refine bv ?_|refine bY ?_|refine br Z ?_|refine bT ?_|refine bb ?_|refine bf ?_|refine aP ?_|refine aY ?_|refine aS Z ?_|refine noGoto_ret ?_|refine noGoto_exit ?_|refine noGoto_normal ?_))
  refine jC ?_
  (repeat (first|refine bg ?_|refine bv ?_|refine bY ?_|refine br Z ?_|refine bT ?_|refine bb ?_|refine bf ?_|refine aP ?_|refine aY ?_|refine aS Z ?_|refine noGoto_ret ?_|refine noGoto_exit ?_|refine noGoto_normal ?_))
  refine l5 Z ?_;exact jz _
 ·skip
  refine kJ ?_
  (repeat (first|refine bg ?_|refine bv ?_|refine bY ?_|refine br Z ?_|refine bT ?_|refine bb ?_|refine bf ?_|refine aP ?_|refine aY ?_|refine aS Z ?_|refine noGoto_ret ?_|refine noGoto_exit ?_|refine noGoto_normal ?_))
  refine cM ?_;refine dW ?_;refine bF Z ?_;refine pb Z Z Z Z Z Z Z 5 3 ?_;refine bF Z ?_;refine bo Z Z Z Z ?_;refine bF Z ?_;refine du aE [] [] Z Z Z Z Z Z Z Z Z Z Z Z Z (λ x=>congrArg List.length (ak.CM x)) Z Z Z Z (by decide) ?_;refine bF Z ?_;refine cF Z Z Z Z ?_;refine dj ?_
  (repeat (first|refine bg ?_|refine bv ?_|refine bY ?_|refine br Z ?_|refine bT ?_|refine bb ?_|refine bf ?_|refine aP ?_|refine aY ?_|refine aS Z ?_|refine noGoto_ret ?_|refine noGoto_exit ?_|refine noGoto_normal ?_))
  refine jC ?_
  (repeat (first|refine bg ?_|refine bv ?_|refine bY ?_|refine br Z ?_|refine bT ?_|refine bb ?_|refine bf ?_|refine aP ?_|refine aY ?_|refine aS Z ?_|refine noGoto_ret ?_|refine noGoto_exit ?_|refine noGoto_normal ?_))
  refine l5 Z ?_;exact AV.sub_vec _ _ _ _
theorem iN (l:List ak)(h:l.isEmpty=false)(DD:l.length*56<=140737488355328):dh Tryz.prog 151 [.p (eL aE l)] [] (λ x y=>x=.arr 2000000 3 0 l.length/\y=[(2000000,iz aE l)]):=by
 refine ln good [800000] [800000] Tryz.func151 Z Z Z Z Z λ w0 F=>?_;refine cM ?_;refine dW ?_;refine bF Z ?_;refine cF Z Z Z Z ?_;refine dj ?_
 (repeat (first|refine bg ?_|refine bv ?_|refine bY ?_|refine br Z ?_|refine bT ?_|refine bb ?_|refine bf ?_|refine aP ?_|refine aY ?_|refine aS Z ?_|refine noGoto_ret ?_|refine noGoto_exit ?_|refine noGoto_normal ?_))
 refine cM ?_;refine cM ?_;refine dW ?_;refine bF Z ?_;refine bo Z Z Z Z ?_;refine bF Z ?_;refine ly Z Z Z Z Z Z Z Z (λ b hb=>?_);refine dj ?_
 (repeat (first|refine bg ?_|refine bv ?_|refine bY ?_|refine br Z ?_|refine bT ?_|refine bb ?_|refine bf ?_|refine aP ?_|refine aY ?_|refine aS Z ?_|refine noGoto_ret ?_|refine noGoto_exit ?_|refine noGoto_normal ?_))
 refine tm Z (λ hc=>?_) (λ hc=>?_)
 ·have he:l=[]:=by simpa using hb hc
  subst he
  cases h
 ·skip
  refine kJ ?_
  (repeat (first|refine bg ?_|refine bv ?_|refine bY ?_|refine br Z ?_|refine bT ?_|refine bb ?_|refine bf ?_|refine aP ?_|refine aY ?_|refine aS Z ?_|refine noGoto_ret ?_|refine noGoto_exit ?_|refine noGoto_normal ?_))
  refine cM ?_;refine dW ?_;refine bF Z ?_;refine sX Z Z Z Z Z Z 3 ?_;refine bF Z ?_;refine bo Z Z Z Z ?_;refine bF Z ?_;refine xj aE [] l Z Z Z Z Z Z Z Z Z Z Z Z Z Z Z (λ x=>congrArg List.length (ak.CM x)) Z Z Z (by simpa using DD) ?_;refine bF Z ?_;refine cF Z Z Z Z ?_;refine dj ?_
  (repeat (first|refine bg ?_|refine bv ?_|refine bY ?_|refine br Z ?_|refine bT ?_|refine bb ?_|refine bf ?_|refine aP ?_|refine aY ?_|refine aS Z ?_|refine noGoto_ret ?_|refine noGoto_exit ?_|refine noGoto_normal ?_))
  refine jC ?_
  (repeat (first|refine bg ?_|refine bv ?_|refine bY ?_|refine br Z ?_|refine bT ?_|refine bb ?_|refine bf ?_|refine aP ?_|refine aY ?_|refine aS Z ?_|refine noGoto_ret ?_|refine noGoto_exit ?_|refine noGoto_normal ?_))
  exact pc (bI 7 800000 Z Z Z Z (kD Z (jQ _) Z)) Z Z Z (kD Z (jQ _) Z) (AV.sub_of_eq (congrArg (AV.arr 2000000 3 0) G)) ⟨⟨_,Z,eC _⟩,trivial⟩
end Go.Ab
end
section
namespace Go.Ab
section
variable {C:Cx} {o:Oper} {K:AS->Prop} {sl:List (Nat×AV)} {ob:List (Nat×List AV)} {d:Nat}
theorem yj {P:Program}{tt:List (Nat×TI)}(good:dS P tt){t e:Nat}{i ie:TI}(hi:look tt t=some i)(DX:i.k=.slice e)(hie:look tt e=some ie)(k k':IntKind){m:Int}(hb:0<=m/\m<=9223372036854775807/\(ie.bytes:Int)*m<=281474976710656)(w:World) :
  ∃ c:Array Value,c.size=m.toNat*ie.size/\(Instr.makeSlice t (.int k 0) (.int k' m)).run P w=.ok (.slice (some ⟨w.heap.size,0,none⟩) 0 m.toNat) (w.alloc (.cells c e)):=by
 obtain ⟨u,h1,h2⟩:=bG good hi;have h3:=bB (h2.trans DX);subst h3;obtain ⟨j,hj,hj1,hj2,zz,hz1,hz2⟩:=fV good hie;have hrun:=run_make (P:=P) w t e j zz h1 hj hz1 k k' 0 m (Int.le_refl _) hb.1 (by rw [hj2]; exact hb.2.2) hb.2.1;exact ⟨_,by rw [size_madeCells,hj1],hrun⟩
end
theorem mF {i n j sz:Nat}(h:i<n)(hj:j<sz):i*sz+j<n*sz:=by
 have:=Nat.mul_le_mul_right sz (show i+1<=n from h);rw [Nat.succ_mul] at this; omega
section
variable {C:Cx} {o:Oper} {K:AS->Prop} {sl:List (Nat×AV)} {ob:List (Nat×List AV)} {d:Nat}
theorem rB {es ys:List PV}{t tx e e':TypeId}{i ie j:TI}{y:Operand}{Y0z:AV}{k sz:Nat}(D:Nat->Bool)(hDl:∀ i,D i=true->i<M1)(hDk:D k=true)
  (hi:look C.tt t=some i) (DX:i.k=.slice e) (hie:look C.tt e=some ie) (hj:look C.tt tx=some j) (hjk:j.k=.slice e')
  (hy:evo sl y=some Y0z) (hY:Y0z.elems? = some ys) (hszy:∀ y∈ys,y.cells.length=sz) (hsze:∀ x∈es,x.cells.length=sz) (DK:∀ x∈es,∀ c∈x.cells,c.one=true)
  (h1s:ie.size=sz) (h0:0<sz) (hzl:ie.zero.length=ie.size)
  (DD:(es.length+ys.length)*ie.bytes<=140737488355328) (hlen':es.length+ys.length<=9223372036854775807)
  {g:Gh} {a:Act} {w:World} (hs:St C.n C.w0 C.F g ⟨sl,ob⟩ a w) (base:Option Addr) (cap:Nat) (olds:List Value)
  (hold:(Builtin.firstCells ie.size es.length (.slice base es.length cap)).run C.P w.drew=.ok olds.toArray w.drew) (hol:olds.length=es.length*sz)
  (hoc:∀ (i:Nat) x (j:Nat) p,es[i]? = some x->x.cells[j]? = some p->∃ u,olds[i*sz+j]? = some u/\PRep w g.st p u)
  (hg:cap<es.length+ys.length) (ty:TypeId) (hn:Nat.blt d C.n=true) :
  ∃ v w' g',(Builtin.append_ #[t,tx] ty #[.slice base es.length cap,a.eval y]).run C.P w=.ok v w' /\
   St C.n C.w0 C.F g' ⟨(d,.stk k sz (es++ys))::(cO D ⟨sl,ob⟩).sl,(cO D ⟨sl,ob⟩).ob⟩ (a.put (some d) v) w':=by
 subst h1s;obtain ⟨u,h1,h2⟩:=bG C.good hi;have h3:=bB (h2.trans DX);subst h3;obtain ⟨u',h1',h2'⟩:=bG C.good hj;have h3':=bB (h2'.trans hjk);subst h3';obtain ⟨info,hf1,hf2,hf3,z,hf4,hf5⟩:=fV C.good hie;have hyv:=fF hY (bP hs hy);obtain ⟨news,hsrc,hnews⟩:=om (P:=C.P) (sz:=ie.size) h1' hyv hszy h0;have hfit:=growslice_fits (bytes:=ie.bytes) hg DD;have hrun:=run_append_grow_src w t tx ty e info z h1 hf1 hf4 base es.length cap olds (by rw [hf2]; exact hold) (a.eval y) ys.length news (by rw [hf2]; exact hsrc) hg O (by rw [hf3]; exact hfit);obtain ⟨q,hq⟩:∃ q,q=grownCap w (es.length+ys.length) cap e:=⟨_,rfl⟩
 rw [<- hq] at hrun
 have hqn:es.length+ys.length<=q:=by
  rw [hq]; unfold grownCap; simp only [Question.cut]; omega
 have hzs:z.cells.size=ie.size:=by rw [<- hzl,<- hf5,Array.length_toList]
 have hnl:news.length=ys.length*ie.size:=hsrc.newsLen;obtain ⟨c,hc⟩:∃ c,c=(olds++news).toArray++Builtin.zeroCells z.cells (q-(es.length+ys.length)):=⟨_,rfl⟩
 rw [<- hc] at hrun
 have DN:c.size=q*ie.size:=by
  rw [hc];simp only [Array.size_append,List.size_toArray,bt,hol,hnl,size_zeroCells,hzs];obtain ⟨r,rfl⟩:∃ r,q=es.length+ys.length+r:=⟨q-(es.length+ys.length),by omega⟩
  rw [Nat.add_sub_cancel_left,Nat.add_mul,Nat.add_mul]
 have hf:=hs.drew.fresh D hDl k hDk (λ o=>o=q*ie.size) c e;have DT:=jE (w:=w.drew) (T:=λ o=>o=q*ie.size) (ob:=.cells c e) hs.drew.lt;have hlenA:(es++ys).length=es.length+ys.length:=bt
 have hrep:ARep (w.drew.alloc (.cells c e)) ⟨λ b o=>g.st b o\/(b=w.drew.heap.size/\o=q*ie.size),λ i=>if i=k then some w.drew.heap.size else if D i then none else g.ow i⟩ (.stk k ie.size (es++ys)) (.slice (some ⟨w.drew.heap.size,0,none⟩) (es++ys).length q):=by
  refine .stk G bS DN O (λ x hx=>?_) (λ x hx c hc=>?_) (λ o=>?_) (λ i x j p hx hp=>?_)
  ·rcases sm.1 hx with hx|hx
   ·exact hsze x hx
   ·exact hszy x hx
  ·rcases sm.1 hx with hx|hx
   ·exact DK x hx c hc
   ·obtain ⟨i,hi⟩:=List.mem_iff_getElem?.1 hx;obtain ⟨j,hj⟩:=List.mem_iff_getElem?.1 hc;exact (hnews i x j c hi hj).1
  ·constructor
   ·rintro (h|⟨_,h⟩)
    ·exact absurd (hs.lt _ _ h) (Nat.lt_irrefl _)
    ·exact h
   ·intro h; exact .inr ⟨rfl,h⟩
  ·have hjl:j<x.cells.length:=(List.getElem?_eq_some_iff.1 hp).1
   have hget:∀ m,m<olds.length+news.length->c[m]? = if m<olds.length then olds[m]? else news[m-olds.length]?:=by
    intro m hm;rw [hc,Array.getElem?_append];simp only [List.size_toArray,bt];rw [if_pos hm,List.getElem?_toArray,List.getElem?_append]
   rw [List.getElem?_append] at hx;split at hx
   ·rename_i hlt;rw [hsze x (List.mem_of_getElem? hx)] at hjl;have:=mF hlt hjl;obtain ⟨u,hu,hr⟩:=hoc i x j p hx hp;exact ⟨u,by rw [hget _ O,if_pos O]; exact hu,(PRep.mono (w:=w) (w':=w.drew) (st:=g.st) (st':=g.st) (λ b o h=>⟨h,rfl⟩) hr).mono DT⟩
   ·rename_i hge;rw [hszy x (List.mem_of_getElem? hx)] at hjl;have hil:i-es.length<ys.length:=(List.getElem?_eq_some_iff.1 hx).1;have:=mF hil hjl;obtain ⟨k1,u,hu,hr⟩:=hnews (i-es.length) x j p hx hp
    have e1:i*ie.size+j=es.length*ie.size+((i-es.length)*ie.size+j):=by
     rw [<- Nat.add_assoc,<- Nat.add_mul]; congr 2; omega
    exact ⟨u,by rw [hget _ O,if_neg O,e1,hol,Nat.add_sub_cancel_left]; exact hu,(PRep.mono (w:=w) (w':=w.drew) (st:=g.st) (st':=g.st) (λ b o h=>⟨h,Z⟩) hr).mono DT⟩
 rw [hlenA] at hrep;have hp:=hf.put (d:=some d) (λ t ht=>by cases ht; exact n6 ▸ hn) hrep;exact ⟨_,_,_,hrun,hp⟩
theorem o6 {t tx e e':TypeId}{x y:Operand}{k sz:Nat}{es:List PV}{X Y0z:AV}{ys:List PV}{i ie j:TI}(ho:o.op=.call { callee:=.builtin .append,args:=#[x,y],argTypes:=#[t,tx] })(hd:o.dst=some d)(hn:Nat.blt d C.n=true)
  (hi:look C.tt t=some i) (DX:i.k=.slice e) (hie:look C.tt e=some ie) (hj:look C.tt tx=some j) (hjk:j.k=.slice e') (hx:evo sl x=some X) (hX:X.sub (.stk k sz es)) (hk:Nat.blt k M1=true)
  (hy:evo sl y=some Y0z) (hY:Y0z.elems? = some ys) (hszy:∀ y∈ys,y.cells.length=sz) (hys:0<ys.length) (h1s:ie.size=sz) (h0:Nat.blt 0 sz=true) (hzl:Nat.beq ie.zero.length ie.size=true)
  (DD:(es.length+ys.length)*ie.bytes<=140737488355328) (hlen':es.length+ys.length<=9223372036854775807)
  (hK:K ⟨(d,.stk k sz (es++ys))::(cO (λ i=>Nat.beq i k) ⟨sl,ob⟩).sl,(cO (λ i=>Nat.beq i k) ⟨sl,ob⟩).ob⟩):bw C o K ⟨sl,ob⟩:=by
 have hzl':=d3 hzl;have hk':k<M1:=n6 ▸ hk;have h0':0<sz:=n6 ▸ h0
 have hDl:∀ i,(Nat.beq i k)=true->i<M1:=by
  intro i hi;have:=d3 hi; omega
 intro g a w hs;have hxr:=hX _ _ _ (bP hs hx);generalize hxv:a.eval x=xv at hxr
 have hrun0:∀ v w',(Builtin.append_ #[t,tx] o.type #[xv,a.eval y]).run C.P w=.ok v w'->(execOp a.eval o).run C.P w=.ok (.value v) w':=by
  intro v w' h;rw [fp ho];simp [builtin,hxv,h]
 cases hxr with
 | stkn=>
  obtain ⟨v,w',g',hr',hst'⟩:=rB (es:=[]) (k:=k) (λ i=>Nat.beq i k) hDl G hi DX hie hj hjk hy hY hszy G G  h1s h0' hzl' DD hlen' hs none 0 [] (run_firstCells_none w.drew ie.size 0 0 0) G (λ i x j p hx=>by simp at hx) (by simpa using hys) o.type hn;unfold Oper.wp;rw [hrun0 _ _ hr'];simp only [Oper.upon,hd];exact ⟨g',_,hst',hK⟩
 | stke=>
  rename_i a0;obtain ⟨v,w',g',hr',hst'⟩:=rB (es:=[]) (k:=k) (λ i=>Nat.beq i k) hDl G hi DX hie hj hjk hy hY hszy G G  h1s h0' hzl' DD hlen' hs (some a0) 0 [] (run_firstCells_some w.drew ie.size 0 a0 0 0 [] G G) G (λ i x j p hx=>by simp at hx) (by simpa using hys) o.type hn;unfold Oper.wp;rw [hrun0 _ _ hr'];simp only [Oper.upon,hd];exact ⟨g',_,hst',hK⟩
 | stk how hb DN hlenc hszc DK DW hr=>
  rename_i b cap c e0;subst h1s;by_cases hroom:es.length+ys.length<=cap
  ·obtain ⟨u,h1,h2⟩:=bG C.good hi;have h3:=bB (h2.trans DX);subst h3;obtain ⟨u',h1',h2'⟩:=bG C.good hj;have h3':=bB (h2'.trans hjk);subst h3';obtain ⟨info,hf1,hf2,hf3,z,hf4,hf5⟩:=fV C.good hie;have hyv:=fF hY (bP hs hy);obtain ⟨news,hsrc,hnews⟩:=om (P:=C.P) (sz:=ie.size) h1' hyv hszy h0';have hnl:news.length=ys.length*ie.size:=hsrc.newsLen
   have hfit:es.length*ie.size+news.length<=c.size:=by
    rw [hnl,DN,<- Nat.add_mul]; exact Nat.mul_le_mul_right _ hroom
   have hstc:=run_storeCells_at C.P b (es.length*ie.size) e0 news 0 c w hb (by simpa using hfit) hsrc.one;simp only [Nat.add_zero] at hstc;obtain ⟨c',hc'⟩:∃ c',c'=(c.toList.take (es.length*ie.size)++news++c.toList.drop (es.length*ie.size+news.length)).toArray:=⟨_,rfl⟩
   rw [<- hc'] at hstc;have hrr:=gi t tx o.type e info h1 hf1 b es.length cap (a.eval y) ys.length news (by rw [hf2]; exact hsrc) hroom (by rw [hf2]; exact hstc)
   have hcell':∀ j,c'[j]? = if es.length*ie.size<=j/\j<es.length*ie.size+news.length then news[j-es.length*ie.size]? else c[j]?:=by
    intro j;rw [hc'];have:=gW c.toList news (es.length*ie.size) (by simpa using hfit) j;simpa using this
   have hcs':c'.size=cap*ie.size:=by rw [<- DN,hc']; simp; omega
   have hin:=hs.inplace (λ i=>Nat.beq i k) hDl (k:=k) (d:=k) how G G  hb (c':=c') (hcs'.trans DN.symm) (λ o h=>by
    have:=(DW o).1 h
    rw [Array.getElem?_eq_none O,Array.getElem?_eq_none O]) (λ o=>o=cap*ie.size) (λ o h=>(DW o).1 h)
   have hEv:Ev w g.st (w.setRow b c') (λ b' o=>(b'=b/\o=cap*ie.size)\/(b'≠b/\g.st b' o)):=by
    intro b' o h;by_cases e1:b'=b
    ·subst e1;have ho:=(DW o).1 h;refine ⟨.inl ⟨rfl,ho⟩,?_⟩;simp only [World.cell?,setRow_heap w b' c c' e0 (0,0) hb,hb];rw [Array.getElem?_eq_none O,Array.getElem?_eq_none O]
    ·exact ⟨.inr ⟨e1,h⟩,by simp only [World.cell?,setRow_other w b b' c' e1]⟩
   have hlenA:(es++ys).length=es.length+ys.length:=bt
   have hrep:ARep (w.setRow b c') ⟨λ b' o=>(b'=b/\o=cap*ie.size)\/(b'≠b/\g.st b' o),λ i=>if i=k then some b else if (Nat.beq i k) then none else g.ow i⟩ (.stk k ie.size (es++ys)) (.slice (some ⟨b,0,none⟩) (es++ys).length cap):=by
    refine .stk G (setRow_heap w b c c' e0 (0,0) hb) hcs' O (λ x hx=>?_) (λ x hx c hc=>?_) (λ o=>?_) (λ i x j p hx hp=>?_)
    ·rcases sm.1 hx with hx|hx
     ·exact hszc x hx
     ·exact hszy x hx
    ·rcases sm.1 hx with hx|hx
     ·exact DK x hx c hc
     ·obtain ⟨i,hi⟩:=List.mem_iff_getElem?.1 hx;obtain ⟨j,hj⟩:=List.mem_iff_getElem?.1 hc;exact (hnews i x j c hi hj).1
    ·constructor
     ·rintro (⟨_,h⟩|⟨h,_⟩)
      ·exact h
      ·exact absurd Z h
     ·intro h; exact .inl ⟨rfl,h⟩
    ·have hjl:j<x.cells.length:=(List.getElem?_eq_some_iff.1 hp).1;rw [List.getElem?_append] at hx;split at hx
     ·rename_i hlt;rw [hszc x (List.mem_of_getElem? hx)] at hjl;have:=mF hlt hjl;obtain ⟨u,hu,hr⟩:=hr i x j p hx hp;exact ⟨u,by rw [hcell',if_neg O]; exact hu,hr.mono hEv⟩
     ·rename_i hge;rw [hszy x (List.mem_of_getElem? hx)] at hjl;have hil:i-es.length<ys.length:=(List.getElem?_eq_some_iff.1 hx).1;have:=mF hil hjl;obtain ⟨_,u,hu,hr⟩:=hnews (i-es.length) x j p hx hp
      have e1:i*ie.size+j=es.length*ie.size+((i-es.length)*ie.size+j):=by
       rw [<- Nat.add_assoc,<- Nat.add_mul]; congr 2; omega
      exact ⟨u,by rw [hcell',if_pos O,e1,Nat.add_sub_cancel_left]; exact hu,hr.mono hEv⟩
   rw [hlenA] at hrep;have hp:=hin.put (d:=some d) (λ t ht=>by cases ht; exact n6 ▸ hn) hrep;unfold Oper.wp;rw [hrun0 _ _ hrr];simp only [Oper.upon,hd];exact ⟨_,_,hp,hK⟩
  ·have hle:es.length*ie.size<=c.toList.length:=by
    have e1:c.toList.length=cap*ie.size:=Array.length_toList.trans DN;rw [e1]; exact Nat.mul_le_mul_right _ hlenc
   have hlenT:(c.toList.take (es.length*ie.size)).length=es.length*ie.size:=by
    rw [qr]; omega
   have hold:(Builtin.firstCells ie.size es.length (.slice (some ⟨b,0,none⟩) es.length cap)).run C.P w.drew=.ok (c.toList.take (es.length*ie.size)).toArray w.drew:=by
    refine run_firstCells_some w.drew ie.size es.length ⟨b,0,none⟩ es.length cap _ hlenT (λ j v hv=>?_);rw [List.getElem?_take] at hv;split at hv
    ·rw [add_lit,th,World.cell?_drew];simp only [World.cell?,hb];simpa using hv
    ·cases hv
   obtain ⟨v,w',g',hr',hst'⟩:=rB (es:=es) (k:=k) (λ i=>Nat.beq i k) hDl G hi DX hie hj hjk hy hY hszy hszc DK rfl h0' hzl' DD hlen' hs (some ⟨b,0,none⟩) cap (c.toList.take (es.length*ie.size))
    hold hlenT (λ i x j p hx hp=>by
     obtain ⟨u,hu,hr⟩:=hr i x j p hx hp;have hjl:j<x.cells.length:=(List.getElem?_eq_some_iff.1 hp).1;rw [hszc x (List.mem_of_getElem? hx)] at hjl;have:=mF (List.getElem?_eq_some_iff.1 hx).1 hjl
     exact ⟨u,by rw [List.getElem?_take,if_pos this]; simpa using hu,hr⟩) O o.type hn
   unfold Oper.wp;rw [hrun0 _ _ hr'];simp only [Oper.upon,hd];exact ⟨g',_,hst',hK⟩
theorem uu {t tx e e':TypeId}{x y:Operand}{k sz:Nat}{es:List PV}{Y0z:AV}{ys:List PV}{i ie j:TI}(ho:o.op=.call { callee:=.builtin .append,args:=#[x,y],argTypes:=#[t,tx] })(hd:o.dst=some d)(hn:Nat.blt d C.n=true)
  (hi:look C.tt t=some i) (DX:i.k=.slice e) (hie:look C.tt e=some ie) (hj:look C.tt tx=some j) (hjk:j.k=.slice e') (hx:evo sl x=some (.stk k sz es)) (hk:Nat.blt k M1=true)
  (hy:evo sl y=some Y0z) (hY:Y0z.elems? = some ys) (hszy:∀ y∈ys,y.cells.length=sz) (hys:0<ys.length) (h1s:ie.size=sz) (h0:Nat.blt 0 sz=true) (hzl:Nat.beq ie.zero.length ie.size=true)
  (DD:(es.length+ys.length)*ie.bytes<=140737488355328) (hlen':es.length+ys.length<=9223372036854775807)
  (hK:K ⟨(d,.stk k sz (es++ys))::(cO (λ i=>Nat.beq i k) ⟨sl,ob⟩).sl,(cO (λ i=>Nat.beq i k) ⟨sl,ob⟩).ob⟩):bw C o K ⟨sl,ob⟩ :=
 o6 ho hd hn hi DX hie hj hjk hx (AV.sub_refl _) hk hy hY hszy hys h1s h0 hzl DD hlen' hK
def upK (tok sz n:Nat)(z:PV)(x:AV):AV:=match x with
 | .stk t s es=>bif Nat.beq t tok then (bif Nat.beq s sz then .stk t s (es.set n z) else .undef) else .stk t s es
 | x=>x.dem (Nat.beq · tok)
def A5 (tok sz n:Nat)(z:PV):List AV->Option (List AV)
 | []=>some []
 | x::r=>(match frc (upK tok sz n z x) with
  | some y=>(match A5 tok sz n z r with|some l=>some (y::l)|none=>none)
  | none=>none)
theorem xd {tok sz n:Nat}{z:PV}:∀ {l l':List AV},A5 tok sz n z l=some l'->l'=l.map (upK tok sz n z)
 | [],l',h=>by cases h; rfl
 | x::r,l',h=>by
  unfold A5 at h;split at h
  ·rename_i y hy;split at h
   ·rename_i m hm; cases h; rw [rf hy,xd hm]; rfl
   ·cases h
  ·cases h
def ui (tok sz n:Nat)(z:PV):List (Nat×List AV)->Option (List (Nat×List AV))
 | []=>some []
 | (i,cs)::r=>(match Nat.beq i tok with
  | true=>ui tok sz n z r
  | false=>(match A5 tok sz n z cs with
   | some ds=>(match ui tok sz n z r with|some l=>some ((i,ds)::l)|none=>none)
   | none=>none))
theorem pE {tok sz n:Nat}{z:PV}:∀ {l l':List (Nat×List AV)},ui tok sz n z l=some l'->∀ id cs,look l' id=some cs->id≠tok/\∃ ds,look l id=some ds/\cs=ds.map (upK tok sz n z)
 | [],l',h,id,cs,hc=>by cases h; cases hc
 | (i,xs)::r,l',h,id,cs,hc=>by
  unfold ui at h;split at h
  ·rename_i hb;obtain ⟨h1,ds,h2,h3⟩:=pE h id cs hc;have hi:=d3 hb;refine ⟨h1,ds,?_,h3⟩;rw [ba,if_neg (λ e'=>h1 O)];exact h2
  ·rename_i hb;have hi:i≠tok:=λ e=>by subst e; simp at hb
   split at h
   ·rename_i ds hds;split at h
    ·rename_i m hm
     cases h
     rw [ba] at hc ⊢;by_cases e1:i=id
     ·subst e1;rw [if_pos rfl] at hc ⊢
      cases hc
      exact ⟨hi,xs,Z,xd hds⟩
     ·rw [if_neg e1] at hc ⊢;exact pE hm id cs hc
    ·cases h
   ·cases h
theorem sI {z:PV}(hc:(AV.p z).cellsA=some (z.cells.map .p)){x:PV}(hx:x∈z.cells):x.one=true:=by
 have h9:PV.onesB z.cells=true\/z.one=true:=by
  cases z with
  | agg cs=>
   simp only [AV.cellsA] at hc
   cases ho:PV.onesB cs
   ·rw [ho] at hc; cases hc
   ·exact .inl ho
  | val _=>
   simp only [AV.cellsA] at hc;rename_i v0
   cases ho:v0.oneCell'
   ·rw [ho] at hc; cases hc
   ·exact .inr ho
  | slice _=>exact .inr Z
  | ifc=>exact .inr Z
  | aint _=>exact .inr Z
 rcases h9 with h9|h9
 ·exact gH h9 x hx
 ·have:z.cells=[z]:=by cases z <;> first|rfl|(simp [PV.one] at h9)
  rw [this] at hx;rw [List.mem_singleton.1 hx]; exact h9
theorem qe {t:TypeId}{x v:Operand}{i:TI}{tok sz n off:Nat}{es:List PV}{z:PV}{Y0z:AV}{sl':List (Nat×AV)}{ob':List (Nat×List AV)}(ho:o.op=.store t x v)(hd:o.dst=none)
  (hi:look C.tt t=some i) (hiz:i.size=sz) (hx:evo sl x=some (.ptr tok off)) (hoff:off=n*sz) (hq:∀ {g:Gh} {a:Act} {w:World},St C.n C.w0 C.F g ⟨sl,ob⟩ a w->∃ u,ARep w g (.stk tok sz es) u) (hn:n<es.length)
  (hv:evo sl v=some Y0z) (hY:Y0z.sub (.p z)) (hc:(AV.p z).cellsA=some (z.cells.map .p)) (hcl:Nat.beq z.cells.length sz=true) (htok:Nat.blt tok M1=true)
  (h1:sl'=sl.map λ p=>(p.1,upK tok sz n z p.2)) (h2:ui tok sz n z ob=some ob') (hK:K ⟨sl',ob'⟩):bw C o K ⟨sl,ob⟩:=by
 subst hiz h1 hoff;have htl:tok<M1:=n6 ▸ htok;have hcl':=d3 hcl;intro g a w hs;have h5:=bP hs hx;have h6:ARep w g (.p z) (a.eval v):=hY _ _ _ (bP hs hv);obtain ⟨vq,h7⟩:=hq hs;obtain ⟨hs1,hs2⟩:=ka hc h6;rw [cl] at hs1;generalize DT:a.eval x=u at h5
 cases h5 with
 | ptr how=>
 rename_i b
 cases h7 with
 | stkn=>simp at hn
 | stke=>simp at hn
 | stk how0 k2 DN DD DG DK DW hr=>
  rename_i b0 cap c e;rw [how] at how0; cases how0;obtain ⟨p,hpd⟩:∃ p,p=n*i.size:=⟨_,rfl⟩
  rw [<- hpd] at DT
  have hp:p+i.size<=c.size:=by
   have:=Nat.mul_le_mul_right i.size (show n+1<=cap by omega);rw [Nat.add_mul,Nat.one_mul] at this;rw [hpd,DN]; exact this
  have hone1:∀ u∈(a.eval v).cells.toList,u.oneCell'=true:=by
   intro u hu;obtain ⟨j,hj,rfl⟩:=List.getElem_of_mem hu;simp only [Array.length_toList] at hj;exact (hs2 j ((z.cells.map AV.p)[j]'(by simp; omega)) _ (List.getElem?_eq_getElem (by simp; omega)) (by simp [hj])).2
  have hstc:=run_storeCells_at C.P b p e (a.eval v).cells.toList 0 c w k2 (by simp; omega) hone1;simp only [Nat.add_zero,Array.length_toList] at hstc;obtain ⟨c',hc'⟩:∃ c',c'=(c.toList.take p++(a.eval v).cells.toList++c.toList.drop (p+(a.eval v).cells.size)).toArray:=⟨_,rfl⟩
  rw [<- hc'] at hstc;have hsz':=run_sizeOf C.good hi w;have DZ:(a.eval v).cells.size=i.size:=hs1.trans hcl';unfold Oper.wp
  have hrun:(execOp a.eval o).run C.P w=.ok .skip (w.setRow b c'):=by
   simp [execOp,ho,DT,Instr.storeAt,Instr.sureAddr,storeVar,hsz',DZ,hstc]
  rw [hrun];simp only [Oper.upon,hd,Act.put]
  have DO:∀ j,c'[j]? = if p<=j/\j<p+i.size then (a.eval v).cells[j-p]? else c[j]?:=by
   intro j;rw [hc'];have:=gW c.toList (a.eval v).cells.toList p (by simp; omega) j;simp only [Array.length_toList,Array.getElem?_toList,DZ] at this;simpa [DZ] using this
  have hsize':c'.size=c.size:=by
   rw [hc']; simp; omega
  have hev':Ev w g.st (w.setRow b c') g.st:=by
   intro b2 o2 h2;by_cases e1:b2=b
   ·subst e1;have:=(DW o2).1 h2;refine ⟨h2,?_⟩;simp only [World.cell?,k2,setRow_heap w b2 c c' e (0,0) k2];have h7:=DO o2;rw [if_neg O] at h7;simpa using h7
   ·exact ⟨h2,by simp only [World.cell?,setRow_other w b b2 c' e1]⟩
  have Hn:∀ id b2,Nat.beq id tok=false->g.ow id=some b2->b2≠b:=λ id b2 hD h e=>by
   subst e;have:=hs.inj id tok b2 h how;subst this;simp at hD
  have hE:EvO (Nat.beq · tok) w g (w.setRow b c') g:=by
   refine ⟨hev',λ id b2 _ h=>h,λ id b2 c2 e2 hD h h2=>⟨c2,(setRow_other w b b2 c' (Hn id b2 hD h)).trans h2,Z⟩,λ id b2 o2 hD h h3=>h3,λ id b2 es2 k2' hD h h2=>(setRow_other w b b2 c' (Hn id b2 hD h)).trans h2,λ i hi=>?_,λ id b2 o2 hD h _=>setRow_other w b b2 c' (Hn id b2 hD h)⟩
   cases hq:Nat.beq i tok
   ·rfl
   ·have:=d3 hq; have:=rH hi; omega
  have hup:∀ {y:AV} {u:Value},ARep w g y u->ARep (w.setRow b c') g (upK tok i.size n z y) u:=by
   intro y u h;unfold upK;split
   ·rename_i t s es1
    cases hq:Nat.beq t tok
    ·have:=h.dem hE;simpa [AV.dem,hq] using this
    ·have e1:=d3 hq;subst e1;simp only [cond_true]
     cases hq2:Nat.beq s i.size
     ·exact .undef _
     ·have e2:=d3 hq2;subst e2;simp only [cond_true]
      cases h with
      | stkn=>exact .stkn _ _
      | stke=>exact .stke _ _ _
      | stk how2 hb2 hcs2 hlen2 hsz2 hone2 hst2 hr2=>
       rename_i b2 cap2 c2 e2;rw [how] at how2; cases how2;rw [k2] at hb2; cases hb2;have hl:(es1.set n z).length=es1.length:=List.length_set;rw [<- hl];refine .stk how (setRow_heap w b c c' e (0,0) k2) (hsize'.trans hcs2) O (λ x hx=>?_) (λ x hx y hy=>?_) hst2 (λ k x j p1 hx hp1=>?_)
       ·rcases List.mem_or_eq_of_mem_set hx with hx|rfl
        ·exact hsz2 x hx
        ·exact hcl'
       ·rcases List.mem_or_eq_of_mem_set hx with hx|rfl
        ·exact hone2 x hx y hy
        ·exact sI hc hy
       ·rw [List.getElem?_set] at hx;split at hx
        ·rename_i hnk;subst hnk;split at hx
         ·simp only [aq] at hx;subst hx;have hjl:j<z.cells.length:=(List.getElem?_eq_some_iff.1 hp1).1;have hjc:j<(a.eval v).cells.size:=by omega
          have h8:=hs2 j (.p p1) _ (by simp [hp1]) (Array.getElem?_eq_getElem hjc);refine ⟨(a.eval v).cells[j],?_,?_⟩
          ·rw [DO,<- hpd,if_pos ⟨by omega,by omega⟩];rw [show p+j-p=j by omega];exact Array.getElem?_eq_getElem hjc
          ·cases h8.1 with
           | p hr=>exact hr.mono hev'
         ·cases hx
        ·rename_i hnk;obtain ⟨u,hu,hrr⟩:=hr2 k x j p1 hx hp1;have hjl:j<i.size:=by rw [<- hsz2 x (List.mem_of_getElem? hx)]; exact (List.getElem?_eq_some_iff.1 hp1).1
         refine ⟨u,?_,hrr.mono hev'⟩;rw [DO,if_neg ?_]
         ·exact hu
         ·rw [hpd];rcases Nat.lt_or_gt_of_ne hnk with h9|h9
          ·have:=Nat.mul_le_mul_right i.size (show n+1<=k from h9);rw [Nat.add_mul,Nat.one_mul] at this; omega
          ·have:=Nat.mul_le_mul_right i.size (show k+1<=n from h9);rw [Nat.add_mul,Nat.one_mul] at this; omega
   ·exact h.dem hE
  refine ⟨g,⟨sl.map λ p=>(p.1,upK tok i.size n z p.2),ob'⟩,?_,hK⟩;refine ⟨hs.nd,hs.sz,λ j=>?_,λ id' cs' h'=>?_,hs.inj,λ j b2 h=>?_,λ b2 o2 h=>?_,hs.fl,λ b2 h=>?_,hs.os,hs.out,hs.tape,?_,hs.stf,hs.owf,hs.shf.next (λ _ b c e _ _ h=>(nT k2 hsize').1 b c e h),hs.nst,hs.ev0.trans hev'⟩
  ·have h:=hs.sl j;simp only [AS.get,g0];simp only [AS.get] at h
   cases hl:look sl j with
   | none=>simp only [Option.map_none,Option.getD_none]; exact .undef _
   | some x=>rw [hl] at h; simpa using hup h
  ·obtain ⟨hne',ds,m1,rfl⟩:=pE h2 id' cs' h';obtain ⟨b2,c2,e2,n1,n2,n3,n4,n5⟩:=hs.ob id' ds m1
   have hD:Nat.beq id' tok=false:=by
    cases hq:Nat.beq id' tok
    ·rfl
    ·exact absurd (d3 hq) hne'
   have hb2:=Hn id' b2 hD n1;refine ⟨b2,c2,e2,n1,(setRow_other w b b2 c' hb2).trans n2,by simpa using n3,n4,λ j y hy=>?_⟩;simp only [List.getElem?_map,n8] at hy;obtain ⟨y0,hy0,rfl⟩:=hy;obtain ⟨u,hu,hr⟩:=n5 j y0 hy0;exact ⟨u,hu,hup hr⟩
  ·have:=hs.own j b2 h; exact ⟨by simpa using this.1,this.2⟩
  ·have:=hs.lt b2 o2 h; simpa using this
  ·have DZ:b2≠b:=λ e=>(hs.own tok b how).2 (e ▸ h);exact (setRow_other w b b2 c' DZ).trans (hs.fr b2 h)
  ·have:=hs.size; simpa using this
theorem z8 {q tok sz:Nat}{es:List PV}(hq:look sl q=some (.stk tok sz es)){g:Gh}{a:Act}{w:World}(hs:St C.n C.w0 C.F g ⟨sl,ob⟩ a w):∃ u,ARep w g (.stk tok sz es) u:=by
 have h7:=hs.sl q;simp only [AS.get,hq,ro] at h7;exact ⟨_,h7⟩
theorem yL {id j tok sz:Nat}{cs:List AV}{es:List PV}(hq:look ob id=some cs)(hj:cs[j]? = some (.stk tok sz es)){g:Gh}{a:Act}{w:World}(hs:St C.n C.w0 C.F g ⟨sl,ob⟩ a w):∃ u,ARep w g (.stk tok sz es) u:=by
 obtain ⟨b2,c2,e2,n1,n2,n3,n4,n5⟩:=hs.ob id cs hq;obtain ⟨u,_,hr⟩:=n5 j _ hj;exact ⟨u,hr⟩
theorem qT {t e:TypeId}{x y:Operand}{i ie:TI}{k:IntKind}{n:Int}{id sz:Nat}{es:List PV}(ho:o.op=.indexAddr t x y)(hd:o.dst=some d)(hn:Nat.blt d C.n=true)
  (hi:look C.tt t=some i) (DX:i.k=.slice e) (hie:look C.tt e=some ie) (hx:evo sl x=some (.stk id sz es))
  (hy:evo sl y=some (.p (.val (.int k n)))) (DG:ie.size=sz) (hb:0<=n/\n<(es.length:Int))
  (hK:K ⟨(d,.ptr id (n.toNat*sz))::sl,ob⟩):bw C o K ⟨sl,ob⟩:=by
 obtain ⟨u,h1,h2⟩:=bG C.good hi;have h3:=bB (h2.trans DX);subst h3;refine ok_one hd hn (λ g a w hs=>?_) hK;have h5:=bP hs hx;generalize hv:a.eval x=v at h5
 cases h5 with
 | stkn=>simp at hb; omega
 | stke=>simp at hb; omega
 | stk how hb' DN hlenc hszc DK DW hr=>
  rename_i b cap c e';exact ⟨.pointer (some ⟨b,n.toNat*sz,none⟩),by simp [execOp,ho,hv,cg hs hy,Instr.indexAt,asIntOf,run_underlying h1,hb.1,hb.2,run_sizeOf C.good hie,DG,add_lit],.ptr how⟩
theorem zJ {id sz:Nat}{es:List PV}{q:Nat}{sl':List (Nat×AV)}{ob':List (Nat×List AV)}(hid:id<M1)(hq:look sl q=some (.stk id sz es))(h1:dmS (Nat.beq · id) sl=some sl')(h2:dmO (Nat.beq · id) ob=some ob') :
  dQ C ⟨sl,ob⟩ ⟨(q,.p (.slice es))::sl',ob'⟩:=by
 intro g a w hs;have h6:=hs.sl q;simp only [AS.get,hq,ro] at h6
 have drop:∀ (st':Nat->Nat->Prop),(∀ b o,g.st b o->st' b o)->(∀ i b,i≠id->g.ow i=some b->∀ o,st' b o->g.st b o)->(∀ b o,st' b o->b<w.heap.size)->(∀ b,C.F b->∀ o,st' b o↔g.st b o) ->
   St C.n C.w0 C.F ⟨st',λ i=>if i=id then none else g.ow i⟩ (cO (Nat.beq · id) ⟨sl,ob⟩) a w:=by
  intro st' k1 k2 k3 k4;refine hs.evolve (Nat.beq · id) (yN hid) (λ b o h=>⟨k1 b o h,rfl⟩) (λ i b hD h=>?_) (λ i j b h1 h2=>?_) (λ i b h=>?_) k3 (λ b h=>rfl) Z Z Z (n7 _) k4 (λ i hi=>?_)
  ·have DZ:i≠id:=λ e=>by subst e; simp at hD
   exact ⟨by simp only [if_neg DZ]; exact h,Z,k2 i b DZ h⟩
  ·dsimp only at h1 h2;split at h1
   ·cases h1
   ·split at h2
    ·cases h2
    ·exact hs.inj i j b h1 h2
  ·dsimp only at h;split at h
   ·cases h
   ·exact hs.own i b h
  ·dsimp only; rw [if_neg O]
 obtain ⟨g',hs',hrep⟩:∃ g',St C.n C.w0 C.F g' (cO (Nat.beq · id) ⟨sl,ob⟩) a w/\ARep w g' (.p (.slice es)) (a.tmps.getD q Go.undef):=by
  generalize a.tmps.getD q Go.undef=vq at h6
  cases h6 with
  | stkn=>exact ⟨_,drop g.st (λ _ _ h=>h) (λ _ _ _ _ _ h=>h) hs.lt (λ _ _ _=>Iff.rfl),.p .nils⟩
  | stke=>exact ⟨_,drop g.st (λ _ _ h=>h) (λ _ _ _ _ _ h=>h) hs.lt (λ _ _ _=>Iff.rfl),.p (.nile _)⟩
  | stk how hb DN DD DG DK DW hr=>
   rename_i b cap c e;have hown:=hs.own id b how;refine ⟨_,drop (λ b' o=>g.st b' o\/(b'=b/\o<es.length*sz)) (λ _ _ h=>.inl h) (λ i b' DZ h o h2=>?_) (λ b' o h=>?_) (λ b' hF o=>?_),.p ?_⟩
   ·rcases h2 with h2|⟨h2,_⟩
    ·exact h2
    ·subst h2; exact absurd (hs.inj i id b' h how) DZ
   ·rcases h with h|⟨h,_⟩
    ·exact hs.lt b' o h
    ·subst h; exact hown.1
   ·constructor
    ·rintro (h|⟨h,_⟩)
     ·exact h
     ·subst h; exact absurd hF hown.2
    ·exact .inl
   ·refine .slice sz (λ i j=>(c[i*sz+j]?).getD Go.undef) DD DG DK (λ i x j p hx hp=>?_) (λ i x j p hx hp=>?_)
    ·obtain ⟨v,h3,h4⟩:=hr i x j p hx hp;have hil:i<es.length:=(List.getElem?_eq_some_iff.1 hx).1;have hjl:j<sz:=by have:=(List.getElem?_eq_some_iff.1 hp).1; rw [DG x (List.mem_of_getElem? hx)] at this; exact this
     have:=mF hil hjl;refine ⟨.inr ⟨Z,by omega⟩,?_⟩;simp only [World.cell?,hb,th];rw [h3];simp
    ·obtain ⟨v,h3,h4⟩:=hr i x j p hx hp;rw [h3];exact h4.mono λ b o h=>⟨.inl h,rfl⟩
 refine ⟨g',?_⟩;rw [pi h1,mN h2];refine { hs' with sl:=λ i=>?_ };simp only [AS.get,ba];by_cases e:q=i
 ·subst e; rw [if_pos rfl]; exact hrep
 ·rw [if_neg e]; exact hs'.sl i
theorem xT {t e:Nat}{x y:Operand}{i ie:TI}{k k':IntKind}{m:Int}(ho:o.op=.makeSlice t x y)(hd:o.dst=some d)(hn:Nat.blt d C.n=true)
  (hi:look C.tt t=some i) (DX:i.k=.slice e) (hie:look C.tt e=some ie) (hx:evo sl x=some (.p (.val (.int k 0)))) (hy:evo sl y=some (.p (.val (.int k' m))))
  (hb:0<=m/\m<=9223372036854775807/\(ie.bytes:Int)*m<=281474976710656) {sz:Nat} (DG:ie.size=sz) {ob':List (Nat×List AV)} (hob:dmO (λ i=>Nat.beq i d) ob=some ob')
  (hK:K ⟨(d,.stk d sz [])::(cO (λ i=>Nat.beq i d) ⟨sl,ob⟩).sl,ob'⟩):bw C o K ⟨sl,ob⟩:=by
 subst DG;have e1:=(mN hob).symm;have hdl:d<M1:=by have h1:=ph C.nl; have h2:d<C.n:=n6 ▸ hn; omega
 intro g a w hs;obtain ⟨c,hc,hrun⟩:=yj C.good hi DX hie k k' hb w;have hf:=hs.fresh (λ i=>Nat.beq i d) (λ i hi=>by have:=d3 hi; omega) d G (λ o=>o=m.toNat*ie.size) c e
 have hp:=hf.put (d:=some d) (λ t ht=>by cases ht; exact n6 ▸ hn) (x:=.stk d ie.size []) (v:=.slice (some ⟨w.heap.size,0,none⟩) 0 m.toNat)
  (.stk (es:=[]) (cap:=m.toNat) G bS (by simpa using hc) (Nat.zero_le _) G G  (λ o=>by
   constructor
   ·rintro (h|⟨_,h⟩)
    ·exact absurd (hs.lt _ _ h) (Nat.lt_irrefl _)
    ·exact h
   ·intro h; exact .inr ⟨rfl,h⟩) (λ i x j p hx=>by simp at hx))
 unfold Oper.wp
 have hrun':(execOp a.eval o).run C.P w=.ok (.value (.slice (some ⟨w.heap.size,0,none⟩) 0 m.toNat)) (w.alloc (.cells c e)):=by
  simp only [execOp,ho,cg hs hx,cg hs hy,Sem.run_bind,hrun,Result.andThen_ok,Sem.run_pure]
 rw [hrun'];simp only [Oper.upon,hd];rw [<- show (cO (λ i=>Nat.beq i d) ⟨sl,ob⟩).ob=ob' from e1] at hK;exact ⟨_,_,hp,hK⟩
end
mutual
def AV.stl (tok:Nat):AV->AV|.stk t s es=>bif Nat.beq t tok then .p (.slice es) else .stk t s es|.agg cs=>.agg (AV.stlL tok cs)|.tuple cs=>.tuple (AV.stlL tok cs)|x=>x.dem (Nat.beq · tok)
def AV.stlL (tok:Nat):List AV->List AV|[]=>[]|x::r=>x.stl tok::AV.stlL tok r
end
theorem ut (tok:Nat):∀ l:List AV,AV.stlL tok l=l.map (AV.stl tok)
 | []=>by rw [AV.stlL]; rfl
 | x::r=>by rw [AV.stlL,ut tok r]; rfl
theorem ARep.stl {tok:Nat}{w:World}{g g':Gh}(hE:EvO (Nat.beq · tok) w g w g')(hs:∀ b c e,g.ow tok=some b->w.heap[b]? = some (.cells c e (0,0))->∀ o,o<c.size->g'.st b o)
  {x:AV} {v:Value} (h:ARep w g x v):ARep w g' (x.stl tok) v:=by
 induction h with
 | agg hl h ih=>
  simp only [AV.stl,ut];refine .agg (by simpa using hl) λ i c v h1 h2=>?_;rw [List.getElem?_map] at h1;obtain ⟨x,hx,rfl⟩:=n8.1 h1;exact ih i x v hx h2
 | stkn t sz=>
  simp only [AV.stl]
  cases Nat.beq t tok
  ·exact .stkn _ _
  ·exact .p .nils
 | stke t sz a=>
  simp only [AV.stl]
  cases Nat.beq t tok
  ·exact .stke _ _ _
  ·exact .p (.nile _)
 | stk how hb DN DD DG DK DW hr=>
  rename_i t sz es b cap c e;have hd:=(ARep.stk how hb DN DD DG DK DW hr).dem hE;simp only [AV.stl];simp only [AV.dem] at hd
  cases hq:Nat.beq t tok
  ·rw [hq] at hd; exact hd
  ·have:=d3 hq;subst this;refine .p (.slice sz (λ i j=>(c[i*sz+j]?).getD Go.undef) DD DG DK (λ i x j p hx hp=>?_) (λ i x j p hx hp=>?_))
   ·obtain ⟨v,h3,h4⟩:=hr i x j p hx hp;refine ⟨hs b c e how hb _ ?_,?_⟩
    ·have:=(Array.getElem?_eq_some_iff.1 h3).1;omega
    ·simp only [World.cell?,hb,th];rw [h3];simp
   ·obtain ⟨v,h3,h4⟩:=hr i x j p hx hp;rw [h3];exact h4.mono hE.ev
 | undef v=>exact (ARep.undef v).dem hE
 | p h=>exact (ARep.p h).dem hE
 | vecn a b c=>exact (ARep.vecn a b c).dem hE
 | vece a b c=>exact (ARep.vece a b c).dem hE
 | vec h1 h2 h3 h4 h5 h6 h7=>exact (ARep.vec h1 h2 h3 h4 h5 h6 h7).dem hE
 | arr h1 h2 h3 h4=>exact (ARep.arr h1 h2 h3 h4).dem hE
 | ptr h1=>exact (ARep.ptr h1).dem hE
 | bptrn h1 h2 h3=>exact (ARep.bptrn h1 h2 h3).dem hE
 | bptr h1 h2 h3=>exact (ARep.bptr h1 h2 h3).dem hE
 | rptr a h1 h2=>exact (ARep.rptr a h1 h2).dem hE
 | tuple hl h ih=>
  simp only [AV.stl,ut];refine .tuple (by simpa using hl) λ i c v h1 h2=>?_;rw [List.getElem?_map] at h1;obtain ⟨x,hx,rfl⟩:=n8.1 h1;exact ih i x v hx h2
 | func hl h _=>exact (ARep.func hl h).dem hE
 | mp h1 h2 h3 h4 h5 h6=>exact (ARep.mp h1 h2 h3 h4 h5 h6).dem hE
 | mpr h1 h2 h3 h4 h5 h6 _=>exact (ARep.mpr h1 h2 h3 h4 h5 h6).dem hE
 | sem h1 h=>exact (ARep.sem h1 h).dem hE
 | it h1 h2 h3=>exact (ARep.it h1 h2 h3).dem hE
 | vecp h1 h2 h3 h4 h5 h6 h7 h8=>exact (ARep.vecp h1 h2 h3 h4 h5 h6 h7 h8).dem hE
 | elp h1 h2 h3 h4=>exact (ARep.elp h1 h2 h3 h4).dem hE
def AZ (tok:Nat):List AV->Option (List AV)
 | []=>some []
 | x::r=>(match frc (x.stl tok) with
  | some y=>(match AZ tok r with|some l=>some (y::l)|none=>none)
  | none=>none)
theorem w4 {tok:Nat}:∀ {l l':List AV},AZ tok l=some l'->l'=l.map (AV.stl tok)
 | [],l',h=>by cases h; rfl
 | x::r,l',h=>by
  unfold AZ at h;split at h
  ·rename_i y hy;split at h
   ·rename_i m hm; cases h; rw [rf hy,w4 hm]; rfl
   ·cases h
  ·cases h
def AR (tok:Nat):List (Nat×AV)->Option (List (Nat×AV))
 | []=>some []
 | (i,x)::r=>(match frc (x.stl tok) with
  | some y=>(match AR tok r with|some l=>some ((i,y)::l)|none=>none)
  | none=>none)
theorem xr {tok:Nat}:∀ {l l':List (Nat×AV)},AR tok l=some l'->l'=l.map λ p=>(p.1,p.2.stl tok)
 | [],l',h=>by cases h; rfl
 | (i,x)::r,l',h=>by
  unfold AR at h;split at h
  ·rename_i y hy;split at h
   ·rename_i m hm; cases h; rw [rf hy,xr hm]; rfl
   ·cases h
  ·cases h
def vZ (tok:Nat):List (Nat×List AV)->Option (List (Nat×List AV))
 | []=>some []
 | (i,cs)::r=>(match Nat.beq i tok with
  | true=>vZ tok r
  | false=>(match AZ tok cs with
   | some ds=>(match vZ tok r with|some l=>some ((i,ds)::l)|none=>none)
   | none=>none))
theorem pG {tok:Nat}:∀ {l l':List (Nat×List AV)},vZ tok l=some l'->∀ id cs,look l' id=some cs->id≠tok/\∃ ds,look l id=some ds/\cs=ds.map (AV.stl tok)
 | [],l',h,id,cs,hc=>by cases h; cases hc
 | (i,xs)::r,l',h,id,cs,hc=>by
  unfold vZ at h;split at h
  ·rename_i hb;obtain ⟨h1,ds,h2,h3⟩:=pG h id cs hc;have hi:=d3 hb;refine ⟨h1,ds,?_,h3⟩;rw [ba,if_neg (λ e'=>h1 O)];exact h2
  ·rename_i hb;have hi:i≠tok:=λ e=>by subst e; simp at hb
   split at h
   ·rename_i ds hds;split at h
    ·rename_i m hm
     cases h
     rw [ba] at hc ⊢;by_cases e1:i=id
     ·subst e1;rw [if_pos rfl] at hc ⊢
      cases hc
      exact ⟨hi,xs,Z,w4 hds⟩
     ·rw [if_neg e1] at hc ⊢;exact pG hm id cs hc
    ·cases h
   ·cases h
theorem ri {C:Cx}{sl sl':List (Nat×AV)}{ob ob':List (Nat×List AV)}(tok:Nat)(hid:Nat.blt tok M1=true)(h1:sl'=sl.map λ p=>(p.1,p.2.stl tok))(h2:vZ tok ob=some ob') :
  dQ C ⟨sl,ob⟩ ⟨sl',ob'⟩:=by
 have hid':tok<M1:=n6 ▸ hid;intro g a w hs;obtain ⟨st',hst'⟩:∃ st':Nat->Nat->Prop,∀ b o,st' b o↔g.st b o\/(g.ow tok=some b/\∃ c e,w.heap[b]? = some (.cells c e (0,0))/\o<c.size):=⟨_,λ _ _=>Iff.rfl⟩
 have k1:∀ b o,g.st b o->st' b o:=λ b o h=>(hst' b o).2 (.inl h)
 have k2:∀ i b,i≠tok->g.ow i=some b->∀ o,st' b o->g.st b o:=λ i b DZ h o h2=>by
  rcases (hst' b o).1 h2 with h3|⟨h3,_⟩
  ·exact h3
  ·exact absurd (hs.inj i tok b h h3) DZ
 obtain ⟨g',hg',how'⟩:∃ g':Gh,g'.st=st'/\∀ i,g'.ow i=if i=tok then none else g.ow i:=⟨⟨st',λ i=>if i=tok then none else g.ow i⟩,rfl,λ _=>rfl⟩
 have hs':St C.n C.w0 C.F g' (cO (Nat.beq · tok) ⟨sl,ob⟩) a w:=by
  refine hs.evolve (Nat.beq · tok) (yN hid') (λ b o h=>⟨by rw [hg']; exact k1 b o h,Z⟩) (λ i b hD h=>?_) (λ i j b h1 h2=>?_) (λ i b h=>?_) (λ b o h=>?_) (λ b h=>rfl) Z Z Z (n7 _) (λ b hF o=>?_) (λ i hi=>?_)
  ·have DZ:i≠tok:=λ e=>by subst e; simp at hD
   exact ⟨by rw [how',if_neg DZ]; exact h,Z,by rw [hg']; exact k2 i b DZ h⟩
  ·rw [how'] at h1 h2;split at h1
   ·cases h1
   ·split at h2
    ·cases h2
    ·exact hs.inj i j b h1 h2
  ·rw [how'] at h;split at h
   ·cases h
   ·exact hs.own i b h
  ·rw [hg'] at h;rcases (hst' b o).1 h with h|⟨h,_⟩
   ·exact hs.lt b o h
   ·exact (hs.own tok b h).1
  ·rw [hg'];refine ⟨λ h=>?_,k1 b o⟩;rcases (hst' b o).1 h with h|⟨h,_⟩
   ·exact h
   ·exact absurd hF (hs.own tok b h).2
  ·rw [how',if_neg O]
 have hE:EvO (Nat.beq · tok) w g w g':=by
  refine ⟨λ b o h=>⟨by rw [hg']; exact k1 b o h,Z⟩,λ id b hD h=>?_,λ id b c e hD h hb=>⟨c,hb,Z⟩,λ id b o hD h h3=>?_,λ id b es k hD h hb=>hb,λ i hi=>?_,λ _ _ _ _ _ _=>rfl⟩
  ·have DZ:id≠tok:=λ e=>by subst e; simp at hD
   rw [how',if_neg DZ]; exact h
  ·have DZ:id≠tok:=λ e=>by subst e; simp at hD
   rw [hg'] at h3;exact k2 id b DZ h o h3
  ·cases hq:Nat.beq i tok
   ·rfl
   ·have:=d3 hq; have:=rH hi; omega
 have hall:∀ b c e,g.ow tok=some b->w.heap[b]? = some (.cells c e (0,0))->∀ o,o<c.size->g'.st b o:=λ b c e h h2 o h3=>by
  rw [hg']; exact (hst' b o).2 (.inr ⟨h,c,e,h2,h3⟩)
 refine ⟨g',{ hs' with sl:=λ i=>?_,ob:=λ id cs hc=>?_ }⟩
 ·have h:=hs.sl i;rw [h1];simp only [AS.get,g0];simp only [AS.get] at h
  cases hl:look sl i with
  | none=>simp only [Option.map_none,Option.getD_none]; exact .undef _
  | some x=>rw [hl] at h; simpa using h.stl hE hall
 ·obtain ⟨DZ,ds,m1,rfl⟩:=pG h2 id cs hc;obtain ⟨b2,c2,e2,n1,n2,n3,n4,n5⟩:=hs.ob id ds m1;refine ⟨b2,c2,e2,by rw [how',if_neg DZ]; exact n1,n2,by simpa using n3,λ o h3=>n4 o (k2 id b2 DZ n1 o (by rw [<- hg']; exact h3)),λ j y hy=>?_⟩;simp only [List.getElem?_map,n8] at hy;obtain ⟨y0,hy0,rfl⟩:=hy;obtain ⟨u,hu,hr⟩:=n5 j y0 hy0;exact ⟨u,hu,hr.stl hE hall⟩
theorem gD {C:Cx}{sl sl':List (Nat×AV)}{ob ob':List (Nat×List AV)}(tok:Nat)(hid:Nat.blt tok M1=true)(h1:AR tok sl=some sl')(h2:vZ tok ob=some ob') :
  dQ C ⟨sl,ob⟩ ⟨sl',ob'⟩:=ri tok hid (xr h1) h2
mutual
theorem tD (D:Nat->Bool)(tok:Nat)(h:D tok=true):∀ x:AV,(x.dem D).dem (Nat.beq · tok)=x.dem D
 | .undef=>by simp only [AV.dem]
 | .p _=>by simp only [AV.dem]
 | .agg cs=>by simp only [AV.dem]; rw [l4 D tok h cs]
 | .tuple cs=>by simp only [AV.dem]; rw [l4 D tok h cs]
 | .func f cs=>by simp only [AV.dem]; rw [l4 D tok h cs]
 | .rptr _=>by simp only [AV.dem]
 | .sem ts R=>by
  cases hd:ts.any D
  ·have:ts.any (Nat.beq · tok)=false:=List.any_eq_false.2 λ t ht=>by
    have h1:=List.any_eq_false.1 hd t ht;intro h2;rw [d3 h2] at h1;exact h1 h
   simp only [AV.dem,hd,cond_false,this]
  ·simp only [AV.dem,hd,cond_true]
 | .vec t _ _ _|.arr t _ _ _|.ptr t _|.bptr _ _ t|.mp t _|.mpr t _ _ _ _|.stk t _ _|.it t _ _|.vecp t _ _ _|.elp t _=>by
  cases hd:D t
  ·have:Nat.beq t tok=false:=by
    cases hb:Nat.beq t tok
    ·rfl
    ·rw [d3 hb,h] at hd; cases hd
   simp only [AV.dem,hd,cond_false,this]
  ·simp only [AV.dem,hd,cond_true]
theorem l4 (D:Nat->Bool)(tok:Nat)(h:D tok=true):∀ l:List AV,jJ (Nat.beq · tok) (jJ D l)=jJ D l
 | []=>by simp only [jJ]
 | x::r=>by simp only [jJ]; rw [tD D tok h x,l4 D tok h r]
end
mutual
theorem xf (D:Nat->Bool)(tok:Nat)(h:D tok=true):∀ x:AV,(x.dem D).stl tok=x.dem D
 | .agg cs=>by simp only [AV.dem,AV.stl]; rw [rx D tok h cs]
 | .stk t s es=>by
  cases hd:D t
  ·have:Nat.beq t tok=false:=by
    cases hb:Nat.beq t tok
    ·rfl
    ·rw [d3 hb,h] at hd; cases hd
   simp only [AV.dem,hd,cond_false,AV.stl,this]
  ·simp only [AV.dem,hd,cond_true,AV.stl]
 | .undef=>by simp only [AV.dem,AV.stl]
 | .p x=>by simp only [AV.dem,AV.stl]
 | .tuple cs=>by simp only [AV.dem,AV.stl]; rw [rx D tok h cs]
 | .func f cs=>by have:=tD D tok h (.func f cs); simp only [AV.dem] at this; simp only [AV.dem,AV.stl]; exact this
 | .rptr _=>by simp only [AV.dem,AV.stl]
 | .sem ts R=>by
  cases hd:ts.any D
  ·have:ts.any (Nat.beq · tok)=false:=List.any_eq_false.2 λ t ht=>by
    have h1:=List.any_eq_false.1 hd t ht;intro h2;rw [d3 h2] at h1;exact h1 h
   simp only [AV.dem,hd,cond_false,AV.stl,this]
  ·simp only [AV.dem,hd,cond_true,AV.stl]
 | .vec t _ _ _|.arr t _ _ _|.ptr t _|.bptr _ _ t|.mp t _|.mpr t _ _ _ _|.it t _ _|.vecp t _ _ _|.elp t _=>by
  cases hd:D t
  ·have:Nat.beq t tok=false:=by
    cases hb:Nat.beq t tok
    ·rfl
    ·rw [d3 hb,h] at hd; cases hd
   simp only [AV.dem,hd,cond_false,AV.stl,this]
  ·simp only [AV.dem,hd,cond_true,AV.stl]
theorem rx (D:Nat->Bool)(tok:Nat)(h:D tok=true):∀ l:List AV,AV.stlL tok (jJ D l)=jJ D l
 | []=>by simp only [jJ,AV.stlL]
 | x::r=>by simp only [jJ,AV.stlL]; rw [xf D tok h x,rx D tok h r]
end
section
variable {C:Cx} {o:Oper} {K:AS->Prop} {sl:List (Nat×AV)} {ob:List (Nat×List AV)} {d:Nat}
theorem yC {α:Type}(f:α->PV)(l0 l:List α){t tx e e':TypeId}{x y:Operand}{k sz:Nat}{Y0z:AV}{i ie j:TI}{sl':List (Nat×AV)}{ob':List (Nat×List AV)}(ho:o.op=.call { callee:=.builtin .append,args:=#[x,y],argTypes:=#[t,tx] })(hd:o.dst=some d)(hn:Nat.blt d C.n=true)
  (hi:look C.tt t=some i) (DX:i.k=.slice e) (hie:look C.tt e=some ie) (hj:look C.tt tx=some j) (hjk:j.k=.slice e') (hx:evo sl x=some (.stk k sz (l0.map f))) (hk:Nat.blt k M1=true)
  (hy:evo sl y=some Y0z) (hY:Y0z.elems? = some (l.map f)) (DG:∀ x,(f x).cells.length=sz) (hys:0<l.length) (h1s:ie.size=sz) (h0:Nat.blt 0 sz=true) (hzl:Nat.beq ie.zero.length ie.size=true) (hby:Nat.blt 0 ie.bytes=true)
  (DD:(l0.length+l.length)*ie.bytes<=140737488355328) (h1:dmS (λ i=>Nat.beq i k) sl=some sl') (h2:dmO (λ i=>Nat.beq i k) ob=some ob')
  (hK:K ⟨(d,.stk k sz ((l0++l).map f))::sl',ob'⟩):bw C o K ⟨sl,ob⟩:=by
 have hby':1<=ie.bytes:=Nat.succ_le_of_lt (by simpa using hby);have h3:(l0.length+l.length)*1<=(l0.length+l.length)*ie.bytes:=Nat.mul_le_mul_left _ hby';refine uu ho hd hn hi DX hie hj hjk hx hk hy hY (λ y hy=>?_) (by simpa using hys) h1s h0 hzl (by rw [cl,cl]; exact DD) (by rw [cl,cl]; omega) ?_
 ·obtain ⟨x,_,rfl⟩:=List.mem_map.1 hy;exact DG x
 ·rw [<- List.map_append];simp only [cO];rw [<- pi h1,<- mN h2];exact hK
theorem kV {α:Type}(f:α->PV)(l:List α){t e:TypeId}{x y:Operand}{i ie:TI}{k:IntKind}{n:Int}{id sz:Nat}(ho:o.op=.indexAddr t x y)(hd:o.dst=some d)(hn:Nat.blt d C.n=true)
  (hi:look C.tt t=some i) (DX:i.k=.slice e) (hie:look C.tt e=some ie) (hx:evo sl x=some (.stk id sz (l.map f)))
  (hy:evo sl y=some (.p (.val (.int k n)))) (DG:ie.size=sz) (hb:0<=n/\n<(l.length:Int)) (hK:K ⟨(d,.ptr id (n.toNat*sz))::sl,ob⟩):bw C o K ⟨sl,ob⟩ :=
 qT ho hd hn hi DX hie hx hy DG (by rw [cl]; exact hb) hK
def qm {α:Type}(l:List α)(n:Int)(y:α):List α:=l.set n.toNat y
theorem wM {α:Type}(f:α->PV)(tok sz:Nat)(l:List α)(n:Int)(y:α):upK tok sz n.toNat (f y) (.stk tok sz (l.map f))=.stk tok sz ((qm l n y).map f):=by
 simp [upK,qm,List.map_set]
theorem Cj {α:Type}(f:α->PV)(l:List α)(y:α)(q:Nat){t:TypeId}{x v:Operand}{i:TI}{tok sz:Nat}{n:Int}{Y0z:AV}{sl':List (Nat×AV)}{ob':List (Nat×List AV)}(ho:o.op=.store t x v)(hd:o.dst=none)
  (hi:look C.tt t=some i) (hiz:i.size=sz) (hx:evo sl x=some (.ptr tok (n.toNat*sz))) (hq:look sl q=some (.stk tok sz (l.map f))) (hb:0<=n/\n<(l.length:Int))
  (hv:evo sl v=some Y0z) (hY:Y0z.sub (.p (f y))) (hc:(AV.p (f y)).cellsA=some ((f y).cells.map .p)) (hcl:Nat.beq (f y).cells.length sz=true) (htok:Nat.blt tok M1=true)
  (h1:sl'=sl.map λ p=>(p.1,upK tok sz n.toNat (f y) p.2)) (h2:ui tok sz n.toNat (f y) ob=some ob') (hK:K ⟨sl',ob'⟩):bw C o K ⟨sl,ob⟩ :=
 qe ho hd hi hiz hx Z (z8 hq) (by rw [cl]; omega) hv hY hc hcl htok h1 h2 hK
theorem qf {α:Type}(f:α->PV)(l:List α)(y:α)(id j:Nat){cs:List AV}{t:TypeId}{x v:Operand}{i:TI}{tok sz:Nat}{n:Int}{Y0z:AV}{sl':List (Nat×AV)}{ob':List (Nat×List AV)}(ho:o.op=.store t x v)(hd:o.dst=none)
  (hi:look C.tt t=some i) (hiz:i.size=sz) (hx:evo sl x=some (.ptr tok (n.toNat*sz))) (hq:look ob id=some cs) (hj:cs[j]? = some (.stk tok sz (l.map f))) (hb:0<=n/\n<(l.length:Int))
  (hv:evo sl v=some Y0z) (hY:Y0z.sub (.p (f y))) (hc:(AV.p (f y)).cellsA=some ((f y).cells.map .p)) (hcl:Nat.beq (f y).cells.length sz=true) (htok:Nat.blt tok M1=true)
  (h1:sl'=sl.map λ p=>(p.1,upK tok sz n.toNat (f y) p.2)) (h2:ui tok sz n.toNat (f y) ob=some ob') (hK:K ⟨sl',ob'⟩):bw C o K ⟨sl,ob⟩ :=
 qe ho hd hi hiz hx Z (yL hq hj) (by rw [cl]; omega) hv hY hc hcl htok h1 h2 hK
theorem kc {s0 s1 s2:AS}(h:∀ K':AS->Prop,K' s1->bw C o K' s0)(hg:dQ C s1 s2)(hK:K s2):bw C o K s0:=by
 intro g a w hs;have h1:=h (λ s=>s=s1) rfl g a w hs;unfold Oper.wp at h1 ⊢;refine kG (λ a' w' hn=>?_) (λ _ _ _ h=>h) h1;obtain ⟨g',s',hs',rfl⟩:=hn;obtain ⟨g2,hs2⟩:=hg _ _ _ hs';exact ⟨g2,_,hs2,hK⟩
theorem pF {s s0:AS}{D:Nat->Bool}{x:AV}{ob1:List (Nat×List AV)}(tok:Nat)(h:∀ K':AS->Prop,K' ⟨(d,x)::(cO D s).sl,ob1⟩->bw C o K' s0)(hid:Nat.blt tok M1=true)(hD:D tok=true)(hob:vZ tok ob1=some ob1)
  (hK:K ⟨(d,x.stl tok)::(cO D s).sl,ob1⟩):bw C o K s0:=by
 refine kc h (ri tok hid ?_ hob) hK;simp only [cO,mv,List.map_map];congr 1;refine List.map_congr_left λ p _=>?_;simp only [Function.comp,xf D tok hD]
theorem Be (tok sz n:Nat)(z:PV)(x:AV):upK tok sz n z x=x.dem (Nat.beq · tok)\/x.dem (Nat.beq · tok)=.undef:=by
 unfold upK;split
 ·rename_i t s es
  cases h:Nat.beq t tok
  ·left; simp only [AV.dem,h,cond_false]
  ·right; simp only [AV.dem,h,cond_true]
 ·exact .inl Z
theorem uW {α:Type}(f:α->PV)(l:List α)(y:α)(id j:Nat){cs:List AV}{t:TypeId}{x v:Operand}{i:TI}{tok sz:Nat}{n:Int}{Y0z:AV}{sl':List (Nat×AV)}{ob1 ob':List (Nat×List AV)}(ho:o.op=.store t x v)(hd:o.dst=none)
  (hi:look C.tt t=some i) (hiz:i.size=sz) (hx:evo sl x=some (.ptr tok (n.toNat*sz))) (hq:look ob id=some cs) (hj:cs[j]? = some (.stk tok sz (l.map f))) (hb:0<=n/\n<(l.length:Int))
  (hv:evo sl v=some Y0z) (hY:Y0z.sub (.p (f y))) (hc:(AV.p (f y)).cellsA=some ((f y).cells.map .p)) (hcl:∀ x,(f x).cells.length=sz) (htok:Nat.blt tok M1=true)
  (h1:sl'=sl.map λ p=>(p.1,p.2.dem (Nat.beq · tok))) (h2:ui tok sz n.toNat (f y) ob=some ob1) (h3:ob1=ob') (hK:K ⟨sl',ob'⟩):bw C o K ⟨sl,ob⟩:=by
 subst h1 h3;refine kc (s2:=⟨sl.map λ p=>(p.1,p.2.dem (Nat.beq · tok)),ob1⟩) (λ K' hK'=>qf f l y id j ho hd hi hiz hx hq hj hb hv hY hc (by simp [hcl y]) htok rfl h2 hK') (λ g a w hs=>⟨g,{ hs with sl:=λ j=>?_ }⟩) hK;have h:=hs.sl j;simp only [AS.get,g0] at h ⊢
 cases hl:look sl j with
 | none=>simp only [Option.map_none,Option.getD_none]; exact .undef _
 | some x=>
  rw [hl] at h;simp only [Option.map_some,ro] at h ⊢;rcases Be tok sz n.toNat (f y) x with e|e
  ·rw [<- e]; exact h
  ·rw [e]; exact .undef _
end
def bor:AV->Option AV|.stk _ _ es=>some (.p (.slice es))|x=>x.mapA (λ _=>none)
def ua:List AV->Option (List AV)
 | []=>some []
 | x::r=>match bor x,ua r with
  | some y,some l=>some (y::l)
  | _,_=>none
theorem wV:∀ {l l':List AV},ua l=some l'->l.length=l'.length/\∀ (i:Nat) x y,l[i]? = some x->l'[i]? = some y->bor x=some y
 | [],l',h=>by simp only [ua,aq] at h; subst h; exact ⟨Z,by simp⟩
 | x::r,l',h=>by
  simp only [ua] at h;split at h
  ·rename_i y q hy hq
   cases h
   obtain ⟨h1,h2⟩:=wV hq;refine ⟨by simp [h1],λ i a b ha hb=>?_⟩
   cases i with
   | zero=>simp only [List.getElem?_cons_zero,aq] at ha hb; subst ha hb; exact hy
   | succ i=>simp only [List.getElem?_cons_succ] at ha hb; exact h2 i a b ha hb
  ·cases h
section
variable {C:Cx} {o:Oper} {K:AS->Prop} {sl:List (Nat×AV)} {ob:List (Nat×List AV)} {d:Nat}
def sj (w:World)(g:Gh)(l:List AV)(b o:Nat):Prop :=g.st b o\/((∃ tok sz es,.stk tok sz es∈l/\g.ow tok=some b)/\∃ c e,w.heap[b]? = some (.cells c e (0,0))/\o<c.size)
theorem Ba {w:World}{g:Gh}{l:List AV}{x y:AV}{v:Value}(hx:x∈l)(h:ARep w g x v)(hy:bor x=some y):ARep w ⟨sj w g l,λ _=>none⟩ y v:=by
 have hE:EvO (λ _=>false) w ⟨g.st,λ _=>none⟩ w ⟨sj w g l,λ _=>none⟩ :=
  ⟨λ b o h=>⟨.inl h,rfl⟩,(by intro _ _ _ h; cases h),(by intro _ _ _ _ _ h; cases h),(by intro _ _ _ _ h; cases h),(by intro _ _ _ _ _ h; cases h),λ _ _=>rfl,(by intro _ _ _ _ h; cases h)⟩
 by_cases hs:∃ tok sz es,x=.stk tok sz es
 ·obtain ⟨tok,sz,es,rfl⟩:=hs;simp only [bor,aq] at hy;subst hy
  cases h with
  | stkn=>exact .p .nils
  | stke=>exact .p (.nile _)
  | stk how hb DN DD DG DK DW hr=>
   rename_i b cap c e;refine .p (.slice sz (λ i j=>(c[i*sz+j]?).getD Go.undef) DD DG DK (λ i x j p hx' hp=>?_) (λ i x j p hx' hp=>?_))
   ·obtain ⟨v,h3,h4⟩:=hr i x j p hx' hp;refine ⟨.inr ⟨⟨_,_,_,hx,how⟩,c,e,hb,?_⟩,?_⟩
    ·have:=(Array.getElem?_eq_some_iff.1 h3).1;omega
    ·simp only [World.cell?,hb,th];rw [h3];simp
   ·obtain ⟨v,h3,h4⟩:=hr i x j p hx' hp;rw [h3];exact h4.mono hE.ev
 ·have hm:x.mapA (λ _=>none)=some y:=by
   cases x <;> first|exact hy|exact absurd ⟨_,_,_,rfl⟩ hs
  exact (jj (g:=g) (g':=⟨g.st,λ _=>none⟩) rfl (λ i j b h _=>by cases h) h hm).mono hE
theorem zn:ua []=some []:=rfl
theorem ta {x y:AV}{r l:List AV}(h1:bor x=some y)(h2:ua r=some l):ua (x::r)=some (y::l):=by simp only [ua,h1,h2]
theorem xR {α:Type}(f:α->PV)(l0 l:List α){t tx e e':TypeId}{x y:Operand}(k:Nat){sz:Nat}{X Y0z:AV}{i ie j:TI}(ho:o.op=.call { callee:=.builtin .append,args:=#[x,y],argTypes:=#[t,tx] })(hd:o.dst=some d)(hn:Nat.blt d C.n=true)
  (hi:look C.tt t=some i) (DX:i.k=.slice e) (hie:look C.tt e=some ie) (hj:look C.tt tx=some j) (hjk:j.k=.slice e') (hx:evo sl x=some X) (hX:X.sub (.stk k sz (l0.map f))) (hk:Nat.blt k M1=true)
  (hy:evo sl y=some Y0z) (hY:Y0z.elems? = some (l.map f)) (DG:∀ x,(f x).cells.length=sz) (hys:0<l.length) (h1s:ie.size=sz) (h0:Nat.blt 0 sz=true) (hzl:Nat.beq ie.zero.length ie.size=true) (hby:Nat.blt 0 ie.bytes=true)
  (DD:(l0.length+l.length)*ie.bytes<=140737488355328)
  (hK:K ⟨(d,.stk k sz ((l0++l).map f))::(cO (λ i=>Nat.beq i k) ⟨sl,ob⟩).sl,(cO (λ i=>Nat.beq i k) ⟨sl,ob⟩).ob⟩):bw C o K ⟨sl,ob⟩:=by
 have hby':1<=ie.bytes:=Nat.succ_le_of_lt (by simpa using hby);have h3:(l0.length+l.length)*1<=(l0.length+l.length)*ie.bytes:=Nat.mul_le_mul_left _ hby';refine o6 ho hd hn hi DX hie hj hjk hx hX hk hy hY (λ y hy=>?_) (by simpa using hys) h1s h0 hzl (by rw [cl,cl]; exact DD) (by rw [cl,cl]; omega) ?_
 ·obtain ⟨x,_,rfl⟩:=List.mem_map.1 hy;exact DG x
 ·rw [<- List.map_append];exact hK
theorem mV {s0:AS}{x y:AV}{rest:List (Nat×AV)}{ob1:List (Nat×List AV)}(h:∀ K':AS->Prop,K' ⟨(d,x)::rest,ob1⟩->bw C o K' s0)(hs:x.sub y)(hK:K ⟨(d,y)::rest,ob1⟩):bw C o K s0:=by
 refine kc (s2:=⟨(d,y)::rest,ob1⟩) h (b7 ⟨λ j z hz=>?_,λ id cs hc=>⟨cs,hc,n7 _,λ i c d h1 h2=>by rw [h1] at h2; cases h2; exact AV.sub_refl _⟩⟩) hK;simp only [ba] at hz;simp only [AS.get,ba];by_cases e:d=j
 ·rw [if_pos e] at hz ⊢
  cases hz
  exact hs
 ·rw [if_neg e] at hz ⊢;rw [hz];exact AV.sub_refl _
end
theorem fm {P:Program}(w:World)(dT sT ty elem:TypeId)(g o dLen dCap:Nat)(a:Addr)(sLen sCap sz:Nat)(cur:Array Value)(t:TypeId)(cs:List Value)
  (hu:P.underlying dT=some (.slice elem)) (hs:(P.info? elem).map (·.size)=some sz)
  (hg:w.heap[g]? = some (.cells cur t (0,0))) (hn:cs.length=Nat.min sLen dLen*sz)
  (hsrc:∀ j v,cs[j]? = some v->w.cell? (a.add j)=some v) (hfit:o+cs.length<=cur.size) (h1:∀ v∈cs,v.oneCell'=true) :
  (Builtin.copy_ #[dT,sT] ty #[.slice (some ⟨g,o,none⟩) dLen dCap,.slice (some a) sLen sCap]).run P w =
   .ok (goInt (Nat.min sLen dLen)) (w.setRow g (cur.toList.take o++cs++cur.toList.drop (o+cs.length)).toArray):=by
 have hl:=run_loadCells_list (P:=P) w a cs hsrc;have DW:=run_storeCells_at P g o t cs 0 cur w hg (by simpa using hfit) h1
 cases hq:P.info? elem with
 | none=>simp [hq] at hs
 | some i=>
  have hi:i.size=sz:=by simpa [hq] using hs
  simp [Builtin.copy_,run_underlying hu,Builtin.lenOf,Builtin.firstCells,sizeOf,typeInfo,hq,hi,<- hn,hl,DW]
theorem lc {P:Program}(w:World)(tS tR e:TypeId)(ht:P.underlying tS=some (.slice e))(size:Nat)(hz:∀ w,(Go.sizeOf e).run P w=.ok size w)
  (a b:Addr) (la ca lb cb:Nat) (DZ:a.block≠b.block) {cA cB:Array Value} {tA tB:TypeId} {fA:Nat×Nat} (ha:w.heap[a.block]? = some (.cells cA tA fA)) (hb:w.heap[b.block]? = some (.cells cB tB (0,0))) (hA:cA.size≠0) :
  (Extern.SlicesOverlaps.overlaps #[tS,tS] #[tR] #[.slice (some a) la ca,.slice (some b) lb cb]).run P w=.ok (.bool false) w:=by
 have Hn:(a.block != b.block)=true:=by simpa using DZ
 have hnb':(a.block==b.block)=false:=by simpa using DZ
 have hsa:w.shape? a.block=some (tA,cA.size):=by simp [World.shape?,ha]
 have hsb:w.shape? b.block=some (tB,cB.size):=by simp [World.shape?,hb]
 have hfb:∀ o s,w.frozen? ⟨b.block,o,s⟩=false:=λ o s=>by simp [World.frozen?,hb]
 have hfb':w.frozen? b=false:=hfb b.off b.spot
 change Sem.run P (α:=Value) (do
  let some t:=(#[tS,tS]:Array TypeId)[0]?|stuck "slices.overlaps: no parameter types"
  let .slice elem <- underlying t|stuck "slices.overlaps: slice type expected"
  let size <- sizeOf elem
  match (some a:Option Addr),(some b:Option Addr) with
  | some a,some b=>
   if la=0\/lb=0\/size=0 then pure (Value.bool false)
   else if a.block != b.block&&(<- frozen a)&&(<- frozen b) then unsupported .addressObserved
   else do
    if a.block != b.block then do
     noView a; noView b
     if <- mayBeOne a b then return Value.bool ((<- choose (.extern "sameAddr.stringBytes" 2))==1)
    pure (Value.bool (a.block==b.block&&a.off<b.off+lb*size&&b.off<a.off+la*size))
  | _,_=>pure (Value.bool false)) w=_
 by_cases h0:la=0\/lb=0\/size=0
 ·simp [run_underlying ht,hz,h0]
 ·cases hk:cA.size with
  | zero=>exact absurd hk hA
  | succ kA=>
   rw [hk] at hsa
   cases hfa:w.frozen? a <;> simp [run_underlying ht,hz,h0,Hn,hnb',frozen,noView,viewAt,mayBeOne,stringish,shape,Sem.run,hsa,hsb,hfa,hfb]
def yl (c c':Array Value)(k n:Nat)(news:List Value):Prop :=(∀ j,j<k->c'[j]? = c[j]?)/\(∀ j,j<news.length->c'[k+j]? = news[j]?)/\(∀ j,k<=j->j<n->c'[news.length+j]? = c[j]?)
structure tH (w w':World)(B:Nat)(c':Array Value)(e:TypeId):Prop where
 os:w'.os=w.os
 out:w'.output=w.output
 tape:w'.tape=w.tape
 size:w.heap.size<=w'.heap.size
 here:w'.heap[B]? = some (.cells c' e (0,0))
 other:∀ k,k<w.heap.size->k≠B->w'.heap[k]? = w.heap[k]?
def ghI (g:Gh)(B m:Nat):Gh:=⟨λ b o=>g.st b o\/(b=B/\o=m),λ i=>if i=2000000 then some B else if M1<=i/\i<2*M1 then g.ow i else none⟩
theorem tK {g:Gh}{B m i b:Nat}(h:(ghI g B m).ow i=some b):(i=2000000/\B=b)\/(M1<=i/\i<2*M1/\g.ow i=some b):=by
 simp only [ghI] at h;split at h
 ·cases h; exact .inl ⟨‹_›,rfl⟩
 ·split at h
  ·rename_i h1; exact .inr ⟨h1.1,h1.2,h⟩
  ·cases h
theorem tL {w w':World}{g:Gh}{B m:Nat}{c':Array Value}{e:TypeId}(hok:Ok0 w g.st)(hm:c'.size=m)(h:tH w w' B c' e)
  (hold:(∃ c e0,w.heap[B]? = some (.cells c e0 (0,0))/\c.size=c'.size/\∀ o,g.st B o->o=m)\/w.heap.size<=B):Ev w g.st w' (ghI g B m).st:=by
 intro k o hk;refine ⟨.inl hk,?_⟩;have hlt:=hok.lt k o hk;by_cases e1:k=B
 ·subst e1;rcases hold with ⟨c,e0,h1,h2,h3⟩|h1
  ·have:=h3 o hk;simp only [World.cell?,h.here,h1];rw [Array.getElem?_eq_none O,Array.getElem?_eq_none O]
  ·omega
 ·simp only [World.cell?,h.other k hlt e1]
theorem pq {w w':World}{g:Gh}{B m:Nat}{c':Array Value}{e:TypeId}(hok:Ok0 w g.st)(hown:∀ i b,g.ow i=some b->b<w.heap.size/\i<2*M1)
  (hinj:∀ i j b,g.ow i=some b->g.ow j=some b->i=j) (hnst:∀ i b,M1<=i->g.ow i=some b->∀ o,¬ g.st b o) (hm:c'.size=m) (h:tH w w' B c' e)
  (hold:(g.ow 900000=some B/\∃ c e0,w.heap[B]? = some (.cells c e0 (0,0))/\c.size=c'.size/\∀ o,g.st B o->o=m)\/w.heap.size<=B):lZ w g w' (ghI g B m):=by
 have hB:B<w'.heap.size:=by
  have:=h.here;exact (Array.getElem?_eq_some_iff.1 this).1
 have hnew:∀ i,M1<=i->g.ow i≠some B:=by
  intro i hi e1;rcases hold with ⟨h1,_⟩|h1
  ·have:=hinj _ _ _ e1 h1; unfold M1 at *; omega
  ·have:=(hown _ _ e1).1; omega
 refine ⟨h.os,h.out,h.tape,h.size,λ k hk hno=>h.other k hk (λ e=>?_),λ i k hi=>?_,λ i j k hi hj=>?_,λ k o hk=>?_,λ k hk hno o=>⟨λ hs=>?_,λ hs=>.inl hs⟩,λ i h1 h2=>?_,λ i k c e h1 h2 h3=>?_,λ i k hi hk o hs=>?_,tL hok hm h (hold.imp_left And.right)⟩
 ·subst e;rcases hold with ⟨h1,_⟩|h1
  ·exact hno _ h1
  ·omega
 ·rcases tK hi with ⟨_,rfl⟩|⟨_,_,h1⟩
  ·refine ⟨hB,?_⟩;rcases hold with ⟨h1,_⟩|h1
   ·exact .inr ⟨_,h1⟩
   ·exact .inl h1
  ·exact ⟨Nat.lt_of_lt_of_le (hown _ _ h1).1 h.size,.inr ⟨_,h1⟩⟩
 ·rcases tK hi with ⟨e1,h1⟩|⟨a1,a2,h1⟩ <;> rcases tK hj with ⟨e2,h2⟩|⟨b1,b2,h2⟩
  ·omega
  ·subst h1; exact absurd h2 (hnew j b1)
  ·subst h2; exact absurd h1 (hnew i a1)
  ·exact hinj _ _ _ h1 h2
 ·rcases hk with hk|⟨rfl,_⟩
  ·exact Nat.lt_of_lt_of_le (hok.lt _ _ hk) h.size
  ·exact hB
 ·rcases hs with hs|⟨rfl,_⟩
  ·exact hs
  ·rcases hold with ⟨h1,_⟩|h1
   ·exact absurd h1 (hno _)
   ·omega
 ·simp only [ghI];rw [if_neg (by unfold M1 at *; omega),if_pos ⟨h1,h2⟩]
 ·have:=hnew i h1;exact ⟨c,(h.other k (hown _ _ h2).1 (λ e=>this (e ▸ h2))).trans h3,Z⟩
 ·rcases hs with hs|⟨rfl,_⟩
  ·exact hnst i k hi hk o hs
  ·exact hnew i hi hk
theorem rF {c c1 c2:Array Value}{k nn s:Nat}{news mid:List Value}(hk:k<=nn)(hnl:news.length=s)(hml:mid.length=nn-k)(hm:∀ (j:Nat) (v:Value),mid[j]? = some v->c[k+j]? = some v)
  (h1:∀ j,c1[j]? = if k+s<=j/\j<k+s+mid.length then mid[j-(k+s)]? else c[j]?) (h2:∀ j,c2[j]? = if k<=j/\j<k+news.length then news[j-k]? else c1[j]?):yl c c2 k nn news:=by
 refine ⟨λ j hj=>?_,λ j hj=>?_,λ j h3 h4=>?_⟩
 ·rw [h2,if_neg O,h1,if_neg O]
 ·rw [h2,if_pos O]; congr 1; omega
 ·rw [h2,if_neg O,h1,if_pos O,show news.length+j-(k+s)=j-k by omega];have hl:j-k<mid.length:=by omega
  rw [List.getElem?_eq_getElem hl];have:=hm _ _ (List.getElem?_eq_getElem hl);rw [show k+(j-k)=j by omega] at this;exact this.symm
theorem vj {c c2:Array Value}{k:Nat}{news:List Value}(h2:∀ j,c2[j]? = if k<=j/\j<k+news.length then news[j-k]? else c[j]?):yl c c2 k k news:=by
 refine ⟨λ j hj=>?_,λ j hj=>?_,λ j h3 h4=>by omega⟩
 ·rw [h2,if_neg O]
 ·rw [h2,if_pos O]; congr 1; omega
theorem sN {c ROW c1 c2:Array Value}{k nn s:Nat}{news mid:List Value}(hk:k<=nn)(hnl:news.length=s)(hml:mid.length=nn-k)(hm:∀ (j:Nat) (v:Value),mid[j]? = some v->c[k+j]? = some v)(h0:∀ j,j<k->ROW[j]? = c[j]?)
  (h1:∀ j,c1[j]? = if k<=j/\j<k+news.length then news[j-k]? else ROW[j]?) (h2:∀ j,c2[j]? = if k+s<=j/\j<k+s+mid.length then mid[j-(k+s)]? else c1[j]?):yl c c2 k nn news:=by
 refine ⟨λ j hj=>?_,λ j hj=>?_,λ j h3 h4=>?_⟩
 ·rw [h2,if_neg O,h1,if_neg O]; exact h0 j hj
 ·rw [h2,if_neg O,h1,if_pos O]; congr 1; omega
 ·rw [h2,if_pos O,show news.length+j-(k+s)=j-k by omega];have hl:j-k<mid.length:=by omega
  rw [List.getElem?_eq_getElem hl];have:=hm _ _ (List.getElem?_eq_getElem hl);rw [show k+(j-k)=j by omega] at this;exact this.symm
theorem setRow_size (w:World)(b:Nat)(c:Array Value):(w.setRow b c).heap.size=w.heap.size:=by unfold World.setRow; simp
theorem uz {w:World}{b:Nat}{c:Array Value}{e0:TypeId}(hb:w.heap[b]? = some (.cells c e0 (0,0)))(c2:Array Value):tH w (w.setRow b c2) b c2 e0 :=
 ⟨Z,Z,Z,Nat.le_of_eq (setRow_size _ _ _).symm,setRow_heap w b c c2 e0 (0,0) hb,λ k _ hk=>setRow_other w b k c2 hk⟩
theorem s6 {w:World}{b:Nat}{c:Array Value}{e0:TypeId}(hb:w.heap[b]? = some (.cells c e0 (0,0)))(c2:Array Value):tH w (w.drew.setRow b c2) b c2 e0 :=
 ⟨Z,Z,Z,Nat.le_of_eq (setRow_size w.drew _ _).symm,setRow_heap w.drew b c c2 e0 (0,0) hb,λ k _ hk=>setRow_other w.drew b k c2 hk⟩
theorem p6 (w:World)(c:Array Value)(e:TypeId):tH w (w.drew.alloc (.cells c e)) w.heap.size c e :=
 ⟨Z,Z,Z,by show w.heap.size<=(w.heap.push _).size; simp,bS (w:=w.drew),λ k hk _=>Lib.alloc_old w.drew _ k hk⟩
theorem p8 (w:World)(ROW:Array Value)(e:TypeId)(c1 c2:Array Value):tH w ((((w.alloc (.cells ROW e)).drew.setRow w.heap.size c1).drew).setRow w.heap.size c2) w.heap.size c2 e:=by
 have h0:((w.alloc (.cells ROW e)).drew).heap[w.heap.size]? = some (.cells ROW e (0,0)):=bS (w:=w);have h1:(((w.alloc (.cells ROW e)).drew.setRow w.heap.size c1).drew).heap[w.heap.size]? = some (.cells c1 e (0,0)):=setRow_heap _ _ ROW c1 e (0,0) h0;refine ⟨Z,Z,Z,?_,setRow_heap _ _ c1 c2 e (0,0) h1,λ k hk DZ=>?_⟩
 ·rw [setRow_size];show w.heap.size<=((w.alloc (.cells ROW e)).drew.setRow w.heap.size c1).heap.size;rw [setRow_size];show w.heap.size<=(w.heap.push _).size;simp
 ·rw [setRow_other _ _ k c2 DZ];show (((w.alloc (.cells ROW e)).drew.setRow w.heap.size c1)).heap[k]? = _;rw [setRow_other _ _ k c1 DZ];exact Lib.alloc_old w _ k hk
structure wb (P:Program)(F:FuncId)(e:TypeId)(sz bytes:Nat):Prop where
 room:∀ (w:World) (b n cap i vb voff vc:Nat) (c:Array Value) (e0:TypeId) (news:List Value) (cA:Array Value) (tA:TypeId) (fA:Nat×Nat),w.heap[b]? = some (.cells c e0 (0,0))->c.size=cap*sz->i<=n->n+1<=cap->n+1<=9223372036854775807->vb≠b ->
  news.length=sz->(∀ j v,news[j]? = some v->w.cell? ⟨vb,voff+j,none⟩=some v)->(∀ v∈news,v.oneCell'=true)->(∀ j v,j<n*sz->c[j]? = some v->v.oneCell'=true)->w.heap[vb]? = some (.cells cA tA fA) ->
  Calls P F #[.slice (some ⟨b,0,none⟩) n cap,.int .i64 i,.slice (some ⟨vb,voff,none⟩) 1 vc] w λ ed w'=>ed=.returned (.slice (some ⟨b,0,none⟩) (n+1) cap)/\∃ c',tH w w' b c' e0/\w'.heap.size=w.heap.size/\c'.size=c.size/\yl c c' (i*sz) (n*sz) news
 grow:∀ (w:World) (base:Option Addr) (n cap i vb voff vc:Nat) (c:Array Value) (news:List Value),(n=0/\cap=0\/∃ b e0,base=some ⟨b,0,none⟩/\w.heap[b]? = some (.cells c e0 (0,0))/\c.size=cap*sz)->i<=n->n<=cap->cap<n+1->(n+1)*bytes<=140737488355328 ->
  news.length=sz->(∀ j v,news[j]? = some v->w.cell? ⟨vb,voff+j,none⟩=some v)->(∀ v∈news,v.oneCell'=true)->(∀ j v,j<n*sz->c[j]? = some v->v.oneCell'=true) ->
  Calls P F #[.slice base n cap,.int .i64 i,.slice (some ⟨vb,voff,none⟩) 1 vc] w λ ed w'=>∃ G0z c',ed=.returned (.slice (some ⟨w.heap.size,0,none⟩) (n+1) G0z)/\tH w w' w.heap.size c' e/\n+1<=G0z/\c'.size=G0z*sz/\yl c c' (i*sz) (n*sz) news
def ip {α:Type}(l:List α)(i:Nat)(x:α):List α:=l.take i++x::l.drop i
theorem yV {α:Type}{l:List α}{i:Nat}{x:α}(hi:i<=l.length)(k:Nat):(ip l i x)[k]? = if k<i then l[k]? else if k=i then some x else l[k-1]?:=by
 unfold ip;rw [List.getElem?_append];have:(l.take i).length=i:=by rw [qr]; omega
 rw [this];split
 ·rename_i h; rw [List.getElem?_take,if_pos h]
 ·rename_i h;split
  ·rename_i h2; subst h2; simp
  ·rename_i h2;rw [List.getElem?_cons,if_neg O,List.getElem?_drop];congr 1; omega
theorem va {α β:Type}(f:α->β)(l:List α)(i:Nat)(x:α):ip (l.map f) i (f x)=(ip l i x).map f:=by
 unfold ip; simp [List.map_take,List.map_drop]
theorem vw {α:Type}{l:List α}{i:Nat}{x:α}(hi:i<=l.length):(ip l i x).length=l.length+1:=by
 unfold ip;rw [bt,qr,bx,List.length_drop]; omega
theorem nq {α:Type}{l:List α}{i:Nat}{x y:α}(h:y∈ip l i x):y=x\/y∈l:=by
 unfold ip at h;rcases sm.1 h with h|h
 ·exact .inr (List.mem_of_mem_take h)
 ·rcases wr.1 h with h|h
  ·exact .inl h
  ·exact .inr (List.mem_of_mem_drop h)
theorem tM {w w':World}{g:Gh}{B G0z sz:Nat}{c c':Array Value}{e:TypeId}{es:List PV}{i:Nat}{y:PV}{news:List Value}(hP:tH w w' B c' e)(hC:yl c c' (i*sz) (es.length*sz) news)(DT:Ev w g.st w' (ghI g B (G0z*sz)).st)
  (DW:∀ o,g.st B o->o=G0z*sz) (hi:i<=es.length) (hG:es.length+1<=G0z) (hs:c'.size=G0z*sz) (hn:news.length=sz) (hes:∀ x∈es,x.cells.length=sz) (hy:y.cells.length=sz) (DK:∀ x∈es,∀ c∈x.cells,c.one=true) (hyo:∀ c∈y.cells,c.one=true)
  (hr:∀ (i:Nat) x (j:Nat) p,es[i]? = some x->x.cells[j]? = some p->∃ v,c[i*sz+j]? = some v/\PRep w g.st p v) (hy2:∀ (j:Nat) p,y.cells[j]? = some p->∃ v,news[j]? = some v/\PRep w g.st p v) :
  ARep w' (ghI g B (G0z*sz)) (.stk 2000000 sz (ip es i y)) (.slice (some ⟨B,0,none⟩) (es.length+1) G0z):=by
 rw [<- vw (x:=y) hi];refine .stk (by simp [ghI]) hP.here hs (by rw [vw hi]; exact hG) (λ x hx=>?_) (λ x hx c hc=>?_) (λ o=>⟨λ h=>?_,λ h=>.inr ⟨rfl,h⟩⟩) (λ k x j p hx hp=>?_)
 ·rcases nq hx with rfl|hx
  ·exact hy
  ·exact hes x hx
 ·rcases nq hx with rfl|hx
  ·exact hyo c hc
  ·exact DK x hx c hc
 ·rcases h with h|⟨_,h⟩
  ·exact DW o h
  ·exact h
 ·have hjl:j<x.cells.length:=(List.getElem?_eq_some_iff.1 hp).1;rw [yV hi] at hx;split at hx
  ·rename_i hk;obtain ⟨u,hu,hur⟩:=hr k x j p hx hp;rw [hes x (List.mem_of_getElem? hx)] at hjl;exact ⟨u,by rw [hC.1 _ (mF hk hjl)]; exact hu,hur.mono DT⟩
  ·split at hx
   ·rename_i hk
    cases hx; subst hk
    obtain ⟨u,hu,hur⟩:=hy2 j p hp;exact ⟨u,by rw [hC.2.1 j O]; exact hu,hur.mono DT⟩
   ·rename_i FU EQ;obtain ⟨u,hu,hur⟩:=hr (k-1) x j p hx hp;rw [hes x (List.mem_of_getElem? hx)] at hjl;have hkl:k-1<es.length:=(List.getElem?_eq_some_iff.1 hx).1;have h1:=mF hkl hjl;have h2:i*sz<=(k-1)*sz:=Nat.mul_le_mul_right _ O
    have h3:k*sz=(k-1)*sz+sz:=by
     obtain ⟨m,rfl⟩:∃ m,k=m+1:=⟨k-1,by omega⟩
     rw [Nat.add_sub_cancel,Nat.succ_mul]
    refine ⟨u,?_,hur.mono DT⟩;rw [show k*sz+j=news.length+((k-1)*sz+j) by omega,hC.2.2 _ O h1];exact hu
theorem rN {P:Program}{F:FuncId}{e:TypeId}{sz bytes:Nat}(R:wb P F e sz bytes)(h0:0<sz)(es:List PV)(i:Nat)(y:PV)(hi:i<=es.length)
  (DD:(es.length+1)*bytes<=140737488355328) (hlen':es.length+1<=9223372036854775807) (hysz:y.cells.length=sz) :
  dh P F [.stk 900000 sz es,.p (.val (.int .i64 i)),.p (.slice [y])] [] (λ x q=>x=.stk 2000000 sz (ip es i y)/\q=[]):=by
 intro w g vs hok hown hinj hnst hvs hargs _
 obtain ⟨a,b,v,rfl⟩:∃ a b v,vs=#[a,b,v]:=by
  obtain ⟨l,rfl⟩:∃ l:List Value,vs=l.toArray:=⟨vs.toList,by simp⟩
  match l,hvs with
  | [a,b,v],_=>exact ⟨a,b,v,Z⟩
 have ha:=hargs 0 _ _ Z Z;have hb:=hargs 1 _ _ Z Z;have hv:=hargs 2 _ _ Z Z;replace ha:ARep w g (.stk 900000 sz es) a:=ha;replace hb:ARep w g (.p (.val (.int .i64 i))) b:=hb;replace hv:ARep w g (.p (.slice [y])) v:=hv
 have eb:b=.int .i64 i:=by
  cases hb with
  | p h=>cases h; rfl
 subst eb
 clear hargs hb
 obtain ⟨vb,voff,vc,cf,rfl,hc,hone1,hr1⟩:∃ (vb voff vc:Nat) (cf:Nat->Value),v=.slice (some ⟨vb,voff,none⟩) 1 vc/\(∀ (j:Nat) p,y.cells[j]? = some p->g.st vb (voff+j)/\w.cell? ⟨vb,voff+j,none⟩=some (cf j))/\(∀ c∈y.cells,c.one=true)/\(∀ (j:Nat) p,y.cells[j]? = some p->PRep w g.st p (cf j)):=by
  cases hv with
  | p h=>
   cases h with
   | slice sz' cf hcap DG DK hc hr=>
    refine ⟨_,_,_,cf 0,Z,λ j p hp=>?_,DK y G,λ j p hp=>hr 0 y j p Z hp⟩;have:=hc 0 y j p Z hp;simpa using this
 have hnews:∀ j,j<sz->∃ p,y.cells[j]? = some p:=λ j hj=>⟨y.cells[j],List.getElem?_eq_getElem O⟩
 let news:=(List.range sz).map cf
 have hnl:news.length=sz:=by simp [news]
 have hnget:∀ j v,news[j]? = some v->j<sz/\v=cf j:=by
  intro j v hj;have hl:j<news.length:=(List.getElem?_eq_some_iff.1 hj).1;rw [hnl] at hl;simp [news,hl] at hj;exact ⟨hl,hj.symm⟩
 have hncell:∀ j v,news[j]? = some v->w.cell? ⟨vb,voff+j,none⟩=some v:=by
  intro j v hj;obtain ⟨hl,rfl⟩:=hnget j v hj;obtain ⟨p,hp⟩:=hnews j hl;exact (hc j p hp).2
 have hn1:∀ v∈news,v.oneCell'=true:=by
  intro v hv;obtain ⟨j,hj⟩:=List.mem_iff_getElem?.1 hv;obtain ⟨hl,rfl⟩:=hnget j v hj;obtain ⟨p,hp⟩:=hnews j hl;exact PV.one_rep (hr1 j p hp) (hone1 p (List.mem_of_getElem? hp))
 have hy2:∀ (j:Nat) p,y.cells[j]? = some p->∃ v,news[j]? = some v/\PRep w g.st p v:=by
  intro j p hp;have hl:j<sz:=by have:=(List.getElem?_eq_some_iff.1 hp).1; omega
  exact ⟨cf j,by simp [news,hl],hr1 j p hp⟩
 have hempty:∀ base:Option Addr,es=[]->a=.slice base 0 0->Calls P F #[a,.int .i64 i,.slice (some ⟨vb,voff,none⟩) 1 vc] w λ ed w'=>∃ v r obs' g',ed=.returned v/\(r=AV.stk 2000000 sz (ip es i y)/\obs'=([]:List (Nat×List AV)))/\ARep w' g' r v/\(∀ p∈obs',jf w' g' p.1 p.2)/\lZ w g w' g':=by
  rintro base rfl rfl;have hi0:i=0:=by simpa using hi
  subst hi0;refine (R.grow w base 0 0 0 vb voff vc #[] news (.inl ⟨rfl,rfl⟩) (n7 _) (n7 _) (Nat.lt_succ_self _) (by simpa using DD) hnl hncell hn1 (λ j v hj=>by simp at hj)).mono ?_;rintro ed w' ⟨G0z,c',rfl,hP,hG,hs,hC⟩;have DT:=tL hok hs hP (.inr (n7 _));have hrep:=tM (es:=[]) (i:=0) (y:=y) hP hC DT (λ o h=>absurd (hok.lt _ _ h) (Nat.lt_irrefl _)) (n7 _) hG hs hnl G hysz G hone1 (λ i x j p hx=>by simp at hx) hy2;exact ⟨_,_,[],ghI g w.heap.size (G0z*sz),rfl,⟨rfl,rfl⟩,hrep,by simp,pq hok hown hinj hnst hs hP (.inr (n7 _))⟩
 cases ha with
 | stkn=>exact hempty none Z Z
 | stke=>exact hempty _ Z Z
 | @stk _ _ _ b0 cap c e0 how hb DN hlenc hszc DK DW hr=>
  have hcone:∀ j v,j<es.length*sz->c[j]? = some v->v.oneCell'=true:=by
   intro j v hj hjv;have hd:j / sz<es.length:=Nat.div_lt_of_lt_mul (by rw [Nat.mul_comm]; exact hj);have hm:j%sz<sz:=Nat.mod_lt _ h0;have hx:=hszc es[j / sz] (List.getElem_mem hd);obtain ⟨u,hu,hur⟩:=hr (j / sz) es[j / sz] (j%sz) _ (List.getElem?_eq_getElem hd) (List.getElem?_eq_getElem O);have e1:j / sz*sz+j%sz=j:=Nat.div_add_mod' _ _;rw [e1,hjv] at hu
   cases hu
   exact PV.one_rep hur (DK _ (List.getElem_mem hd) _ (List.getElem_mem _))
  by_cases hroom:es.length+1<=cap
  ·obtain ⟨p0,hp0⟩:=hnews 0 h0;obtain ⟨hst0,hcell0⟩:=hc 0 p0 hp0
   have DZ:vb≠b0:=by
    intro e1; subst e1;have:=(DW _).1 hst0;simp only [World.cell?,hb] at hcell0;rw [Array.getElem?_eq_none O] at hcell0
    cases hcell0
   obtain ⟨cA,tA,fA,hA⟩:∃ cA tA fA,w.heap[vb]? = some (.cells cA tA fA):=by
    simp only [World.cell?] at hcell0
    cases hh:w.heap[vb]? with
    | none=>rw [hh] at hcell0; cases hcell0
    | some o=>
     rw [hh] at hcell0
     cases o with
     | cells cA tA fA=>exact ⟨cA,tA,fA,Z⟩
     | _=>cases hcell0
   refine (R.room w b0 es.length cap i vb voff vc c e0 news cA tA fA hb DN hi hroom hlen' DZ hnl hncell hn1 hcone hA).mono ?_;rintro ed w' ⟨rfl,c',hP,hsz',hs,hC⟩;have hold:(∃ c e0,w.heap[b0]? = some (.cells c e0 (0,0))/\c.size=c'.size/\∀ o,g.st b0 o->o=cap*sz):=⟨c,e0,hb,hs.symm,λ o h=>(DW o).1 h⟩
   have hs':c'.size=cap*sz:=hs.trans DN;have DT:=tL hok hs' hP (.inl hold);have hrep:=tM (es:=es) (i:=i) (y:=y) hP hC DT (λ o h=>(DW o).1 h) hi hroom hs' hnl hszc hysz DK hone1 hr hy2;exact ⟨_,_,[],ghI g b0 (cap*sz),Z,⟨Z,Z⟩,hrep,by simp,pq hok hown hinj hnst hs' hP (.inl ⟨how,hold⟩)⟩
  ·refine (R.grow w (some ⟨b0,0,none⟩) es.length cap i vb voff vc c news (.inr ⟨b0,e0,rfl,hb,DN⟩) hi hlenc O DD hnl hncell hn1 hcone).mono ?_;rintro ed w' ⟨G0z,c',rfl,hP,hG,hs,hC⟩;have DT:=tL hok hs hP (.inr (n7 _));have hrep:=tM (es:=es) (i:=i) (y:=y) hP hC DT (λ o h=>absurd (hok.lt _ _ h) (Nat.lt_irrefl _)) hi hG hs hnl hszc hysz DK hone1 hr hy2;exact ⟨_,_,[],ghI g w.heap.size (G0z*sz),rfl,⟨rfl,rfl⟩,hrep,by simp,pq hok hown hinj hnst hs hP (.inr (n7 _))⟩
def BE:AV->Bool|.p (.val _)=>true|_=>false
def zN:AV->Bool|.p (.val _)=>true|.tuple cs=>cs.all BE|_=>false
theorem yv {w w':World}{g g':Gh}{r:AV}{v:Value}(hf:BE r=true)(h:ARep w g r v):ARep w' g' r v:=by
 cases h with
 | p h=>
  cases h with
  | val v=>exact .p (.val v)
  | _=>cases hf
 | _=>cases hf
theorem zo {w w':World}{g g':Gh}{r:AV}{v:Value}(hf:zN r=true)(h:ARep w g r v):ARep w' g' r v:=by
 cases h with
 | p h=>
  cases h with
  | val v=>exact .p (.val v)
  | _=>cases hf
 | tuple hl h=>exact .tuple hl (λ i c v hc hv=>yv (List.all_eq_true.1 hf c (List.mem_of_getElem? hc)) (h i c v hc hv))
 | _=>cases hf
section
variable {C:Cx} {o:Oper} {K:AS->Prop} {sl:List (Nat×AV)} {ob:List (Nat×List AV)} {d:Nat}
theorem vW {f:FuncId}{args:Array Operand}{ts:Array TypeId}{l l' q:List AV}{r0:AV}(hc:fW C.P f q (·=r0))(hfl:zN r0=true)(ho:o.op=.call { callee:=.value (.func f),args:=args,argTypes:=ts })
  (hd:o.dst=some d) (hn:Nat.blt d C.n=true) (hl:kp sl args.toList=some l) (hl':ua l=some l') (hq:mh l' q) (henter:∀ vs w,(callFunc f vs).run C.P w=.ok (.enter f vs) w)
  (hK:K ⟨(d,r0)::sl,ob⟩):bw C o K ⟨sl,ob⟩:=by
 intro g a w hs;obtain ⟨a1,a2⟩:=kI hs _ l hl;obtain ⟨m1,m2⟩:=wV hl';obtain ⟨b1,b2⟩:=iQ hq;have hEv:Ev w g.st w (sj w g l):=λ b o h=>⟨.inl h,rfl⟩
 have hok:Ok0 w (sj w g l):=by
  refine ⟨λ b o h=>?_,hs.ok0.gl.mono hEv⟩;rcases h with h|⟨_,c,e,h,_⟩
  ·exact hs.lt b o h
  ·exact (Array.getElem?_eq_some_iff.1 h).1
 have DD:=a1.symm.trans (m1.trans b1)
 have hcall:=hc w (sj w g l) (args.map a.eval) hok (by simpa using DD) (λ i c v hc hv=>by
  have hi':i<l'.length:=by have:=(List.getElem?_eq_some_iff.1 hc).1; omega
  have hi:i<l.length:=by omega
  have hv':(args.toList.map a.eval)[i]? = some v:=by rw [<- Array.toList_map]; simpa using hv
  have h1:=a2 i _ v (List.getElem?_eq_getElem hi) hv';have h2:=Ba (l:=l) (List.getElem_mem hi) h1 (m2 i _ _ (List.getElem?_eq_getElem hi) (List.getElem?_eq_getElem hi'))
  exact b2 i _ c (List.getElem?_eq_getElem hi') hc w _ v h2)
 unfold Oper.wp;have hrun:(execOp a.eval o).run C.P w=.ok (.enter f (args.map a.eval)) w:=by simp [execOp,ho,resolve,Act.eval,Deferred.ofValue,invoke,henter]
 rw [hrun];simp only [Oper.upon];refine hcall.mono λ e w' ⟨v,r,g',he,hR,hr,hA⟩=>?_;subst he;subst hR
 have hs':St C.n C.w0 C.F g ⟨sl,ob⟩ a w':=by
  refine hs.evolve0 (λ b o h=>?_) (λ id b h=>?_) hs.inj (λ i b h=>?_) (λ b o h=>?_) (λ b h=>?_) hA.os hA.out hA.tape hA.size (λ b hb o=>Iff.rfl) (λ _ _=>rfl)
  ·have hlt:=hs.lt b o h;exact ⟨h,by simp only [World.cell?,hA.fr b hlt]⟩
  ·have hlt:=(hs.own id b h).1;exact ⟨h,hA.fr b hlt,λ o ho=>ho⟩
  ·have:=hs.own i b h; have:=hA.size; exact ⟨by omega,(hs.own i b h).2⟩
  ·have:=hs.lt b o h; have:=hA.size; omega
  ·have:=hs.fl b h; have:=hs.size; exact hA.fr b O
 have hp:=hs'.put (d:=o.dst) (x:=r) (v:=v) (λ t ht=>by rw [hd] at ht; cases ht; exact n6 ▸ hn) (zo hfl hr);rw [hd] at hp;simp only;rw [hd];exact ⟨_,_,hp,hK⟩
theorem vy {α:Type} [Inhabited α] (f:α->PV)(l:List α)(cf:α->List PV)(q j:Nat){cs:List AV}{d:Nat}{t:TypeId}{x:Operand}{i:TI}{id sz:Nat}{n:Int}(ho:o.op=.load t x)(hd:o.dst=some d)(hn:Nat.blt d C.n=true)
  (hi:look C.tt t=some i) (hia:i.k.isAgg=true) (hx:evo sl x=some (.ptr id (n.toNat*sz))) (hq:look ob q=some cs) (hj:cs[j]? = some (.stk id sz (l.map f))) (DG:i.size=sz) (hb:0<=n/\n<(l.length:Int)) (hcf:∀ x,(f x).cells=cf x)
  (hK:K ⟨(d,.p (.agg (cf (lat l n))))::sl,ob⟩):bw C o K ⟨sl,ob⟩:=by
 obtain ⟨m,rfl⟩:∃ m:Nat,n=m:=⟨n.toNat,by omega⟩
 have hm:m<l.length:=by omega
 have hy:(l.map f)[m]? = some (f (lat l (m:Int))):=by rw [List.getElem?_map,List.getElem?_eq_getElem hm,cZ l m hm]; rfl
 rw [<- hcf] at hK;rw [Int.toNat_natCast] at hx;generalize f (lat l (m:Int))=y at hy hK;refine ok_one hd hn (λ g a w hs=>?_) hK;have h5:=bP hs hx;generalize hv:a.eval x=v at h5
 cases h5 with
 | ptr how=>
  rename_i b;obtain ⟨_,c0,_,_,_,_,_,hcs0⟩:=hs.ob q cs hq;obtain ⟨u0,_,h6⟩:=hcs0 j _ hj;generalize l.map f=es at h6 hy
  cases h6 with
  | stkn=>simp at hy
  | stke=>simp at hy
  | @stk _ _ _ b2 cap c e how2 hb DN DD hszc DK DW hr=>
   rw [how] at how2; cases how2;have hyl:=hszc y (List.mem_of_getElem? hy)
   have hc:∀ j,j<i.size->w.cell? ⟨b,m*sz+j,none⟩=some (c.getD (m*sz+j) Go.undef):=by
    intro j hj;have hj':j<y.cells.length:=by omega
    obtain ⟨u,hu,_⟩:=hr m y j _ hy (List.getElem?_eq_getElem hj');rw [kS hs hb,Array.getD_eq_getD_getElem?,hu]
    rfl
   have hld:=lk C.good hi hia (f:=λ j=>c.getD (m*sz+j) Go.undef) hc;refine ⟨.agg ((List.range i.size).map λ j=>c.getD (m*sz+j) Go.undef).toArray,by simp only [execOp,ho,hv,Instr.loadAt,Instr.sureAddr,Sem.run_bind,Sem.run_pure,Result.andThen_ok,hld],.p (.agg (by simp; omega) λ j y' v h1 h2=>?_)⟩;have hj:j<i.size:=by have:=(List.getElem?_eq_some_iff.1 h1).1; omega
   simp only [List.getElem?_toArray,List.getElem?_map,List.getElem?_range hj,Option.map_some,aq] at h2;subst h2;obtain ⟨u,hu,hr2⟩:=hr m y j y' hy h1;rw [Array.getD_eq_getD_getElem?,hu];exact hr2
theorem uG {α:Type}(f:α->PV)(l:List α)(y:α)(id j:Nat){cs:List AV}{t:TypeId}{x v:Operand}{i:TI}{tok sz:Nat}{n:Int}{Y0z:AV}{sl':List (Nat×AV)}{ob1 ob':List (Nat×List AV)}(ho:o.op=.store t x v)(hd:o.dst=none)
  (hi:look C.tt t=some i) (hiz:i.size=sz) (hx:evo sl x=some (.ptr tok (n.toNat*sz))) (hq:look ob id=some cs) (hj:cs[j]? = some (.stk tok sz (l.map f))) (hb:0<=n/\n<(l.length:Int))
  (hv:evo sl v=some Y0z) (hY:Y0z.sub (.p (f y))) (hc:(AV.p (f y)).cellsA=some ((f y).cells.map .p)) (hcl:∀ x,(f x).cells.length=sz) (htok:Nat.blt tok M1=true)
  (h1:sl'=sl.map λ p=>(p.1,upK tok sz n.toNat (f y) p.2)) (h2:ui tok sz n.toNat (f y) ob=some ob1) (h3:ob1=ob') (hK:K ⟨sl',ob'⟩):bw C o K ⟨sl,ob⟩:=by
 subst h1 h3;exact qf f l y id j ho hd hi hiz hx hq hj hb hv hY hc (by simp [hcl y]) htok rfl h2 hK
end
open Go.Proofs Go.RowKit Go
theorem lg:Tryz.prog.follows .mixedOrders=true:=by kernel_rfl
theorem gG (c:Array Value)(o:Nat)(l:List Value)(h:o+l.length<=c.size)(j:Nat):((c.toList.take o++l++c.toList.drop (o+l.length)).toArray)[j]? = if o<=j/\j<o+l.length then l[j-o]? else c[j]?:=by
 have:=gW c.toList l o (by simpa using h) j;simpa using this
theorem dB (c:Array Value)(o:Nat)(l:List Value)(h:o+l.length<=c.size):(c.toList.take o++l++c.toList.drop (o+l.length)).toArray.size=c.size:=by
 simp; omega
theorem pk:(Tryz.prog.info? 104).map (λ i=>(i.zero,i.size,i.bytes))=some (some (.agg #[.int .i64 0,.slice none 0 0,.slice none 0 0]),3,56):=by kernel_rfl
set_option maxRecDepth 100000 in
theorem sB (w:World)(b n cap vb voff m vc:Nat)(c:Array Value)(e0:TypeId)(news:List Value)(hb:w.heap[b]? = some (.cells c e0 (0,0)))(DN:c.size=cap*3)(hm0:0<m)(hroom:n+m<=cap)
  (hnl:news.length=m*3) (hn:∀ j v,news[j]? = some v->w.cell? ⟨vb,voff+j,none⟩=some v) (h1:∀ v∈news,v.oneCell'=true) (c':Array Value) (hc':c'=(c.toList.take (n*3)++news++c.toList.drop (n*3+news.length)).toArray) :
  Calls Tryz.prog 95 #[.slice (some ⟨b,0,none⟩) n cap,.int .i64 n,.slice (some ⟨vb,voff,none⟩) m vc] w λ ed w'=>
   ed=.returned (.slice (some ⟨b,0,none⟩) (n+m) cap)/\w'=w.setRow b c':=by
 have mixed:=lg;obtain ⟨i0,hi0,hz⟩:=n8.1 pk;have hzs:i0.size=3:=congrArg (λ x=>x.2.1) hz;have hz1:¬ ((m:Int)=0):=by omega
 have hsrc:Src Tryz.prog i0.size 102 (.slice (some ⟨vb,voff,none⟩) m vc) m news w:=by
  rw [hzs];exact Src.ofSlice w Tryz.underlying102 ⟨vb,voff,none⟩ m vc news O (λ j u hj=>by rw [Addr.add_lit]; exact hn j u hj) h1
 have hstc:=run_storeCells_at Tryz.prog b (n*3) e0 news 0 c w hb (by simp only [Nat.add_zero]; omega) h1;simp only [Nat.add_zero] at hstc;rw [<- hc'] at hstc
 have hrun:∀ ty,(Builtin.append_ #[102,102] ty #[.slice (some ⟨b,0,none⟩) n cap,.slice (some ⟨vb,voff,none⟩) m vc]).run Tryz.prog w=.ok (.slice (some ⟨b,0,none⟩) (n+m) cap) _:=λ ty=>
  gi _ _ ty _ i0 Tryz.underlying102 hi0 b n cap _ m news hsrc hroom (by rw [hzs]; first|exact hstc|(rw [Nat.mul_one]; exact hstc))
 clear hc' hstc hsrc hnl hn h1 hb DN
 go_enter Tryz.func95,Tryz.ntmps95
 go_wp2_with (at_builtin; refine Lib.wpList_append_run _ Z _ _ _ _ Z _ _ Z Z _ _ (hrun _) ?_)
 go_ret
 exact ⟨Z,Z⟩
set_option maxRecDepth 100000 in
theorem wH (w:World)(b n cap i vb voff m vc:Nat)(c:Array Value)(e0:TypeId)(news mid:List Value)(cA:Array Value)(tA:TypeId)(fA:Nat×Nat)(hb:w.heap[b]? = some (.cells c e0 (0,0)))(DN:c.size=cap*3)(hi:i<n)(hm0:0<m)(hroom:n+m<=cap)(hn63:n+m<=9223372036854775807)(hvb:vb≠b)
  (hnl:news.length=m*3) (hn:∀ j v,news[j]? = some v->w.cell? ⟨vb,voff+j,none⟩=some v) (h1:∀ v∈news,v.oneCell'=true) (hml:mid.length=(n-i)*3) (hm:∀ (j:Nat) (v:Value),mid[j]? = some v->c[i*3+j]? = some v) (hm1:∀ v∈mid,v.oneCell'=true)
  (hA:w.heap[vb]? = some (.cells cA tA fA)) (hA0:cA.size≠0)
  (c1 c2:Array Value) (hc1:c1=(c.toList.take ((i+m)*3)++mid++c.toList.drop ((i+m)*3+mid.length)).toArray) (hc2:c2=(c1.toList.take (i*3)++news++c1.toList.drop (i*3+news.length)).toArray) :
  Calls Tryz.prog 95 #[.slice (some ⟨b,0,none⟩) n cap,.int .i64 i,.slice (some ⟨vb,voff,none⟩) m vc] w λ ed w'=>
   ed=.returned (.slice (some ⟨b,0,none⟩) (n+m) cap)/\w'=w.drew.setRow b c2:=by
 have mixed:=lg;have hinf:(Tryz.prog.info? 104).map (·.size)=some 3:=by kernel_rfl
 have hz1:¬ ((m:Int)=0):=by omega
 have hz2:¬ ((i:Int)=(n:Int)):=by omega
 have hfit:(i+m)*3+mid.length<=c.size:=by omega
 have hs1:c1.size=c.size:=by rw [hc1]; exact dB c _ mid hfit
 have hov:∀ lb cb,(callFunc 124 #[.slice (some ⟨vb,voff,none⟩) m vc,.slice (some ⟨b,(i+m)*3,none⟩) lb cb]).run Tryz.prog w=.ok (.value (.bool false)) w:=λ lb cb=>by
  rw [run_callFunc_extern Tryz.func124 (by kernel_rfl) (by kernel_rfl) (by kernel_rfl) (e:=Extern.SlicesOverlaps.overlaps #[102,102] #[4]) (by kernel_rfl),
   lc w 102 4 104 Tryz.underlying102 3 (λ w=>by kernel_rfl) ⟨vb,voff,none⟩ ⟨b,(i+m)*3,none⟩ m vc lb cb hvb hA hb hA0]
  rfl
 have hcp1:∀ ty dc sc,(Builtin.copy_ #[102,102] ty #[.slice (some ⟨b,(i+m)*3,none⟩) (n+m-(i+m)) dc,.slice (some ⟨b,i*3,none⟩) (n+m-i) sc]).run Tryz.prog w.drew=.ok (goInt (Nat.min (n+m-i) (n+m-(i+m)))) (w.drew.setRow b c1):=λ ty dc sc=>by
  rw [hc1]
  exact fm w.drew _ _ ty _ b ((i+m)*3) (n+m-(i+m)) dc ⟨b,i*3,none⟩ (n+m-i) sc 3 c e0 mid Tryz.underlying102 hinf hb (by rw [hml]; simp only [Nat.min_def]; split <;> omega)
   (λ j v hj=>by rw [Addr.add_lit]; rw [World.cell?_drew]; simp only [World.cell?,hb]; exact hm j v hj) hfit hm1
 have hcp2:∀ (W:World),W.heap=(w.drew.setRow b c1).heap->∀ ty dc,(Builtin.copy_ #[102,102] ty #[.slice (some ⟨b,i*3,none⟩) (n+m-i) dc,.slice (some ⟨vb,voff,none⟩) m vc]).run Tryz.prog W=.ok (goInt (Nat.min m (n+m-i))) (W.setRow b c2):=λ W hW ty dc=>by
  have hWb:W.heap[b]? = some (.cells c1 e0 (0,0)):=by rw [hW]; exact setRow_heap w.drew b c c1 e0 (0,0) hb
  rw [hc2]
  exact fm W _ _ ty _ b (i*3) (n+m-i) dc ⟨vb,voff,none⟩ m vc 3 c1 e0 news Tryz.underlying102 hinf hWb (by rw [hnl]; simp only [Nat.min_def]; split <;> omega)
   (λ j v hj=>by
    rw [Addr.add_lit];have:=hn j v hj;simp only [World.cell?] at this ⊢;rw [hW,setRow_other w.drew b vb c1 hvb]
    exact this) O h1
 have hw1:IntKind.i64.wrap ((i:Int)+(m:Int))=(i:Int)+(m:Int):=by rw [IntKind.wrap_i64]; omega
 have hb1:(0:Int)<=(i:Int)+(m:Int):=by omega
 have hin:i<=n:=by omega
 have htn:((i:Int)+(m:Int)).toNat=i+m:=by omega
 have hb2:¬ (cap=i+m):=by omega
 have hb3:(i:Int)<=(n:Int)+(m:Int):=by omega
 have hb4:¬ (cap=i):=by omega
 clear DN hfit hs1 hml hm hm1 hnl hn h1 hc1 hc2 hinf hA hA0 hb
 go_enter Tryz.func95,Tryz.ntmps95
 go_wp2_with (simp only [hov])
 go_region_law_o (refine step_copy_runI Z _ _ 102 102 Z _ _ (by simp [Act.eval,Act.put]) (by simp [Act.eval,Act.put]) (hcp1 _ _ _) ?_)
 go_wp2_with (at_builtin; refine wpList_copy_runI _ Z _ _ 102 102 Z _ _ Z Z (hcp2 _ Z _ _) ?_)
 go_ret
 exact ⟨Z,by rw [setRow_setRow]⟩
set_option maxRecDepth 100000 in
theorem sv (w:World)(base:Option Addr)(n cap vb voff m vc:Nat)(olds news:List Value)(hm0:0<m)(hnc:n<=cap)(hroom:cap<n+m)(hbig:(n+m)*56<=140737488355328)(hold:(Builtin.firstCells 3 n (.slice base n cap)).run Tryz.prog w.drew=.ok olds.toArray w.drew)
  (hnil:base=none->n=0) (hnl:news.length=m*3) (hn:∀ j v,news[j]? = some v->w.cell? ⟨vb,voff+j,none⟩=some v) (h1:∀ v∈news,v.oneCell'=true) :
  Calls Tryz.prog 95 #[.slice base n cap,.int .i64 n,.slice (some ⟨vb,voff,none⟩) m vc] w λ ed w'=>
   ed=.returned (.slice (some ⟨w.heap.size,0,none⟩) (n+m) (grownCap w (n+m) cap 104))/\w'=w.drew.alloc (.cells ((olds++news).toArray++Builtin.zeroCells (.agg #[.int .i64 0,.slice none 0 0,.slice none 0 0]:Value).cells (grownCap w (n+m) cap 104-(n+m))) 104):=by
 have mixed:=lg;obtain ⟨i0,hi0,hz⟩:=n8.1 pk;have hzz:i0.zero=some (.agg #[.int .i64 0,.slice none 0 0,.slice none 0 0]):=congrArg Prod.fst hz;have hzs:i0.size=3:=congrArg (λ x=>x.2.1) hz;have hzb:i0.bytes=56:=congrArg (λ x=>x.2.2) hz;have hz1:¬ ((m:Int)=0):=by omega
 have hsrc:Src Tryz.prog i0.size 102 (.slice (some ⟨vb,voff,none⟩) m vc) m news w:=by
  rw [hzs];exact Src.ofSlice w Tryz.underlying102 ⟨vb,voff,none⟩ m vc news O (λ j u hj=>by rw [Addr.add_lit]; exact hn j u hj) h1
 have hrun:∀ ty,(Builtin.append_ #[102,102] ty #[.slice base n cap,.slice (some ⟨vb,voff,none⟩) m vc]).run Tryz.prog w=_:=λ ty=>
  run_append_grow_src w 102 102 ty 104 i0 _ Tryz.underlying102 hi0 hzz base n cap olds (by rw [hzs]; exact hold) _ m news hsrc hroom O (by rw [hzb]; exact growslice_fits hroom hbig)
 clear hsrc hnl hn h1 hold hzz hzs hzb hz hi0 hbig
 go_enter Tryz.func95,Tryz.ntmps95
 cases base with
 | none=>
  have h0:=hnil rfl;subst h0
  go_wp2_with (at_builtin; refine Lib.wpList_append_run _ Z _ _ _ _ Z _ _ Z Z _ _ (hrun _) ?_)
  all_goals (go_ret; exact ⟨Z,Z⟩)
 | some a=>
  obtain ⟨ab,ao,asp⟩:=a
  go_wp2_with (at_builtin; refine Lib.wpList_append_run _ Z _ _ _ _ Z _ _ Z Z _ _ (hrun _) ?_)
  all_goals (go_ret; exact ⟨Z,Z⟩)
set_option maxRecDepth 100000 in
theorem xV (w:World)(b n cap i vb voff m vc:Nat)(c:Array Value)(e0:TypeId)(pre news mid:List Value)(hb:w.heap[b]? = some (.cells c e0 (0,0)))(hvw:vb<w.heap.size)(hi:i<n)(hm0:0<m)(hnc:n<=cap)(hroom:cap<n+m)(hbig:(n+m)*56<=140737488355328)
  (hnl:news.length=m*3) (hn:∀ j v,news[j]? = some v->w.cell? ⟨vb,voff+j,none⟩=some v) (h1:∀ v∈news,v.oneCell'=true) (hpl:pre.length=i*3) (hp:∀ (j:Nat) (v:Value),pre[j]? = some v->c[j]? = some v)
  (hml:mid.length=(n-i)*3) (hm:∀ (j:Nat) (v:Value),mid[j]? = some v->c[i*3+j]? = some v) (hm1:∀ v∈mid,v.oneCell'=true) (G0z:Nat) (hG:G0z=grownCap w (n+m) cap 104) (ROW c1 c2:Array Value)
  (hROW:ROW=pre.toArray++Builtin.zeroCells (.agg #[.int .i64 0,.slice none 0 0,.slice none 0 0]:Value).cells (n+m-i)++Builtin.zeroCells (.agg #[.int .i64 0,.slice none 0 0,.slice none 0 0]:Value).cells (G0z-(n+m))) (hRl:ROW.size=G0z*3)
  (hc1:c1=(ROW.toList.take (i*3)++news++ROW.toList.drop (i*3+news.length)).toArray) (hc2:c2=(c1.toList.take ((i+m)*3)++mid++c1.toList.drop ((i+m)*3+mid.length)).toArray) :
  Calls Tryz.prog 95 #[.slice (some ⟨b,0,none⟩) n cap,.int .i64 i,.slice (some ⟨vb,voff,none⟩) m vc] w λ ed w'=>
   ed=.returned (.slice (some ⟨w.heap.size,0,none⟩) (n+m) G0z)/\w'=(((w.alloc (.cells ROW 104)).drew.setRow w.heap.size c1).drew).setRow w.heap.size c2:=by
 have mixed:=lg;obtain ⟨i0,hi0,hz⟩:=n8.1 pk;have hzz:i0.zero=some (.agg #[.int .i64 0,.slice none 0 0,.slice none 0 0]):=congrArg Prod.fst hz;have hzs:i0.size=3:=congrArg (λ x=>x.2.1) hz;have hzb:i0.bytes=56:=congrArg (λ x=>x.2.2) hz;have hinf:(Tryz.prog.info? 104).map (·.size)=some 3:=by kernel_rfl
 have hz1:¬ ((m:Int)=0):=by omega
 have hz2:¬ ((i:Int)=(n:Int)):=by omega
 have hz3:(cap:Int)<(n:Int)+(m:Int):=by omega
 have hbw:b<w.heap.size:=(Array.getElem?_eq_some_iff.1 hb).1;have hkk:(n:Int)+(m:Int)-(i:Int)=((n+m-i:Nat):Int):=by omega
 have DX:i+(n+m-i)=n+m:=by omega
 have hold:(Builtin.firstCells i0.size i (.slice (some ⟨b,0,none⟩) i cap)).run Tryz.prog w.drew=.ok pre.toArray w.drew:=by
  rw [hzs]
  exact run_firstCells_some w.drew 3 i ⟨b,0,none⟩ i cap pre O (λ j v hj=>by
   rw [Addr.add_lit,th,World.cell?_drew]; simp only [World.cell?,hb]; exact hp j v hj)
 have hrz:∀ ty,(Builtin.append_ #[102,3] ty #[.slice (some ⟨b,0,none⟩) i cap,.int .i64 ((n:Int)+(m:Int)-(i:Int))]).run Tryz.prog w =
   .ok (.slice (some ⟨w.heap.size,0,none⟩) (n+m) G0z) (w.drew.alloc (.cells ROW 104)):=λ ty=>by
  have h:=Lib.run_append_grow_zeros w 102 3 ty 104 i0 _ .i64 .i64 Tryz.underlying102 Tryz.underlying3 hi0 hzz (some ⟨b,0,none⟩) i cap pre hold (n+m-i) O O O O  (by rw [hzb]; omega) (by rw [hzb,DX]; exact growslice_fits hroom hbig);rw [DX,<- hG,<- hROW] at h;rw [hkk];exact h
 have hGn:n+m<=G0z:=by rw [hG]; exact grownCap_ge w _ _ _
 have hG63:G0z<=9223372036854775807:=by
  have:=grownCap_le_maxLen w (n+m) cap 104 (by unfold maxLen; omega);rw [<- hG] at this;unfold maxLen at this;omega
 have hfit1:i*3+news.length<=ROW.size:=by rw [hRl,hnl]; omega
 have hs1:c1.size=ROW.size:=by rw [hc1]; exact dB ROW _ news hfit1
 have hcpA:∀ (W:World),W.heap=(w.drew.alloc (.cells ROW 104)).heap->∀ ty dc,(Builtin.copy_ #[102,102] ty #[.slice (some ⟨w.heap.size,i*3,none⟩) (n+m-i) dc,.slice (some ⟨vb,voff,none⟩) m vc]).run Tryz.prog W=.ok (goInt (Nat.min m (n+m-i))) (W.setRow w.heap.size c1):=λ W hW ty dc=>by
  have hWb:W.heap[w.heap.size]? = some (.cells ROW 104 (0,0)):=by rw [hW]; exact bS (w:=w.drew)
  rw [hc1]
  exact fm W _ _ ty _ w.heap.size (i*3) (n+m-i) dc ⟨vb,voff,none⟩ m vc 3 ROW 104 news Tryz.underlying102 hinf hWb (by rw [hnl]; simp only [Nat.min_def]; split <;> omega)
   (λ j v hj=>by
    rw [Addr.add_lit];have:=hn j v hj;simp only [World.cell?] at this ⊢;rw [hW,Lib.alloc_old w.drew _ vb hvw]
    exact this) hfit1 h1
 have hcpB:∀ (W:World),W.heap=((w.drew.alloc (.cells ROW 104)).setRow w.heap.size c1).heap->∀ ty dc sc,(Builtin.copy_ #[102,102] ty #[.slice (some ⟨w.heap.size,(i+m)*3,none⟩) (n+m-(i+m)) dc,.slice (some ⟨b,i*3,none⟩) (n-i) sc]).run Tryz.prog W=.ok (goInt (Nat.min (n-i) (n+m-(i+m)))) (W.setRow w.heap.size c2):=λ W hW ty dc sc=>by
  have hWb:W.heap[w.heap.size]? = some (.cells c1 104 (0,0)):=by rw [hW]; exact setRow_heap _ _ ROW c1 104 (0,0) (bS (w:=w.drew))
  rw [hc2]
  exact fm W _ _ ty _ w.heap.size ((i+m)*3) (n+m-(i+m)) dc ⟨b,i*3,none⟩ (n-i) sc 3 c1 104 mid Tryz.underlying102 hinf hWb (by rw [hml]; simp only [Nat.min_def]; split <;> omega)
   (λ j v hj=>by
    rw [Addr.add_lit];simp only [World.cell?];rw [hW,setRow_other _ _ b c1 O,Lib.alloc_old w.drew _ b hbw];have:w.drew.heap[b]? = some (.cells c e0 (0,0)):=hb;rw [this]
    exact hm j v hj) (by rw [hs1,hRl,hml]; omega) hm1
 have hGi:¬ (G0z=i):=by omega
 have hGim:¬ (G0z=i+m):=by omega
 have hci:¬ (cap=i):=by omega
 have hw1:IntKind.i64.wrap ((i:Int)+(m:Int))=(i:Int)+(m:Int):=by rw [IntKind.wrap_i64]; omega
 have hb1:(0:Int)<=(i:Int)+(m:Int):=by omega
 have hin:i<=n:=by omega
 have htn:((i:Int)+(m:Int)).toNat=i+m:=by omega
 have hb3:(i:Int)<=(n:Int):=by omega
 have hE1:((w.alloc (.cells ROW 104)).drew).heap=(w.drew.alloc (.cells ROW 104)).heap:=rfl;have hF1:(((w.alloc (.cells ROW 104)).drew.setRow w.heap.size c1).drew).heap=((w.drew.alloc (.cells ROW 104)).setRow w.heap.size c1).heap:=rfl
 clear hkk DX hold hROW hG hRl hc1 hc2 hfit1 hs1 hml hm hm1 hnl hn h1 hpl hp hb hinf hzz hzs hzb hz hi0 hbig
 go_enter Tryz.func95,Tryz.ntmps95
 go_wp2_with (first
  | (at_builtin; refine Lib.wpList_append_run _ Z _ _ _ _ Z _ _ Z Z _ _ (hrz _) ?_)
  | (at_builtin; refine wpList_copy_runI _ Z _ _ 102 102 Z _ _ Z Z (hcpA _ hE1 _ _) ?_)
  | (at_builtin; refine wpList_copy_runI _ Z _ _ 102 102 Z _ _ Z Z (hcpB _ Z _ _ _) ?_))
 go_region_law_o (refine step_copy_runI Z _ _ 102 102 Z (.slice (some ⟨w.heap.size,(i+m)*3,none⟩) (n+m-(i+m)) (G0z-(i+m))) (.slice (some ⟨b,i*3,none⟩) (n-i) (cap-i)) (by simp [Act.eval,Act.put]) (by simp [Act.eval,Act.put]) (hcpB _ hF1 3 (G0z-(i+m)) (cap-i)) ?_)
 go_wp2
 go_ret
 exact ⟨Z,Z⟩
theorem zD:wb Tryz.prog 95 104 3 56 where
 room:=by
  intro w b n cap i vb voff vc c e0 news cA tA fA hb DN hi hroom hn63 hvb hnl hn h1 DK hA;rcases Nat.lt_or_ge i n with hlt|hge
  ·have hA0:cA.size≠0:=by
    have:0<news.length:=by omega
    have:=hn 0 _ (List.getElem?_eq_getElem this);simp only [World.cell?,hA] at this;intro h0;rw [Array.getElem?_eq_none O] at this
    cases this
   obtain ⟨mid,hmid⟩:∃ mid,mid=(c.toList.drop (i*3)).take ((n-i)*3):=⟨_,rfl⟩
   have hml:mid.length=(n-i)*3:=by
    rw [hmid,qr,List.length_drop,Array.length_toList]; omega
   have hm:∀ (j:Nat) (v:Value),mid[j]? = some v->c[i*3+j]? = some v:=by
    intro j v hj;have hjl:j<(n-i)*3:=by have:=(List.getElem?_eq_some_iff.1 hj).1; omega
    rw [hmid,List.getElem?_take,if_pos hjl,List.getElem?_drop] at hj;simpa using hj
   have hm1:∀ v∈mid,v.oneCell'=true:=by
    intro v hv;obtain ⟨j,hj⟩:=List.mem_iff_getElem?.1 hv;have hjl:j<(n-i)*3:=by have:=(List.getElem?_eq_some_iff.1 hj).1; omega
    exact DK (i*3+j) v O (hm j v hj)
   refine (wH w b n cap i vb voff 1 vc c e0 news mid cA tA fA hb DN hlt (by decide) hroom O hvb O hn h1 hml hm hm1 hA hA0 _ _ rfl rfl).mono ?_;rintro ed w' ⟨rfl,rfl⟩;have hfit:(i+1)*3+mid.length<=c.size:=by omega
   have hs1:=dB c ((i+1)*3) mid hfit;have hfit2:=Nat.le_of_eq hs1.symm;refine ⟨Z,_,s6 hb _,setRow_size _ _ _,(dB _ (i*3) news O).trans hs1,?_⟩;refine rF (s:=3) (mid:=mid) O hnl O hm (λ j=>?_) (λ j=>gG _ _ news O j);have:=gG c ((i+1)*3) mid hfit j;rw [show (i+1)*3=i*3+3 by omega] at this ⊢;exact this
  ·obtain rfl:i=n:=by omega
   refine (sB w b i cap vb voff 1 vc c e0 news hb DN (by decide) hroom O hn h1 _ rfl).mono ?_;rintro ed w' ⟨rfl,rfl⟩;refine ⟨rfl,_,uz hb _,setRow_size _ _ _,dB c _ news O,?_⟩;exact vj (λ j=>gG c _ news O j)
 grow:=by
  intro w base n cap i vb voff vc c news hbase hi hncap hroom hbig hnl hn h1 DK
  have hvw:vb<w.heap.size:=by
   have:0<news.length:=by omega
   exact block_lt_of_cell (hn 0 _ (List.getElem?_eq_getElem this))
  have hgn:=grownCap_ge w (n+1) cap 104;rcases Nat.lt_or_ge i n with hlt|hge
  ·obtain ⟨b,e0,rfl,hb,DN⟩:∃ b e0,base=some ⟨b,0,none⟩/\w.heap[b]? = some (.cells c e0 (0,0))/\c.size=cap*3:=by
    rcases hbase with h|h
    ·omega
    ·exact h
   obtain ⟨mid,hmid⟩:∃ mid,mid=(c.toList.drop (i*3)).take ((n-i)*3):=⟨_,rfl⟩
   have hml:mid.length=(n-i)*3:=by
    rw [hmid,qr,List.length_drop,Array.length_toList]; omega
   have hm:∀ (j:Nat) (v:Value),mid[j]? = some v->c[i*3+j]? = some v:=by
    intro j v hj;have hjl:j<(n-i)*3:=by have:=(List.getElem?_eq_some_iff.1 hj).1; omega
    rw [hmid,List.getElem?_take,if_pos hjl,List.getElem?_drop] at hj;simpa using hj
   have hm1:∀ v∈mid,v.oneCell'=true:=by
    intro v hv;obtain ⟨j,hj⟩:=List.mem_iff_getElem?.1 hv;have hjl:j<(n-i)*3:=by have:=(List.getElem?_eq_some_iff.1 hj).1; omega
    exact DK (i*3+j) v O (hm j v hj)
   obtain ⟨pre,hpre⟩:∃ pre,pre=c.toList.take (i*3):=⟨_,rfl⟩
   have hpl:pre.length=i*3:=by
    rw [hpre,qr,Array.length_toList]; omega
   have hp:∀ (j:Nat) (v:Value),pre[j]? = some v->c[j]? = some v:=by
    intro j v hj;have hjl:j<i*3:=by have:=(List.getElem?_eq_some_iff.1 hj).1; omega
    rw [hpre,List.getElem?_take,if_pos hjl] at hj;simpa using hj
   obtain ⟨G0z,hG⟩:∃ G0z,G0z=grownCap w (n+1) cap 104:=⟨_,rfl⟩
   rw [<- hG] at hgn;obtain ⟨ROW,hROW⟩:∃ ROW:Array Value,ROW=pre.toArray++Builtin.zeroCells (.agg #[.int .i64 0,.slice none 0 0,.slice none 0 0]:Value).cells (n+1-i)++Builtin.zeroCells (.agg #[.int .i64 0,.slice none 0 0,.slice none 0 0]:Value).cells (G0z-(n+1)):=⟨_,rfl⟩
   have hzc:(.agg #[.int .i64 0,.slice none 0 0,.slice none 0 0]:Value).cells.size=3:=by kernel_rfl
   have hRl:ROW.size=G0z*3:=by
    rw [hROW];simp only [Array.size_append,List.size_toArray,hpl,size_zeroCells,hzc];omega
   refine (xV w b n cap i vb voff 1 vc c e0 pre news mid hb hvw hlt (by decide) hncap hroom hbig O hn h1 hpl hp hml hm hm1 G0z hG ROW _ _ hROW hRl rfl rfl).mono ?_;rintro ed w' ⟨rfl,rfl⟩;have hfit1:i*3+news.length<=ROW.size:=by omega
   have hs1:=dB ROW (i*3) news hfit1;have hfit2:(i+1)*3+mid.length<=ROW.size:=by omega
   refine ⟨G0z,_,Z,p8 w ROW 104 _ _,hgn,((dB _ ((i+1)*3) mid O).trans hs1).trans hRl,?_⟩;refine sN (s:=3) (mid:=mid) (ROW:=ROW) O hnl O hm (λ j hj=>?_) (λ j=>gG ROW _ news hfit1 j) (λ j=>?_)
   ·have hj':j<pre.length:=by omega
    rw [hROW,Array.append_assoc,Array.getElem?_append,if_pos (by simpa using hj'),List.getElem?_toArray,List.getElem?_eq_getElem hj',hp j _ (List.getElem?_eq_getElem hj')]
   ·have:=gG (ROW.toList.take (i*3)++news++ROW.toList.drop (i*3+news.length)).toArray ((i+1)*3) mid (by rw [hs1]; exact hfit2) j;rw [show (i+1)*3=i*3+3 by omega] at this ⊢;exact this
  ·obtain rfl:i=n:=by omega
   obtain ⟨olds,hol,hold,hoc⟩:∃ olds:List Value,olds.length=i*3/\(Builtin.firstCells 3 i (.slice base i cap)).run Tryz.prog w.drew=.ok olds.toArray w.drew/\(∀ j,j<i*3->olds[j]? = c[j]?):=by
    rcases hbase with ⟨rfl,rfl⟩|⟨b,e0,rfl,hb,DN⟩
    ·refine ⟨[],Z,?_,λ j hj=>by omega⟩
     cases base with
     | none=>exact run_firstCells_none w.drew 3 0 0 0
     | some a=>exact run_firstCells_some w.drew 3 0 a 0 0 [] Z (λ j v hj=>by simp at hj)
    ·have hl:(c.toList.take (i*3)).length=i*3:=by rw [qr,Array.length_toList]; omega
     refine ⟨c.toList.take (i*3),hl,run_firstCells_some w.drew 3 i ⟨b,0,none⟩ i cap _ O (λ j v hj=>?_),λ j hj=>by rw [List.getElem?_take,if_pos hj]; simp⟩;have hjl:j<i*3:=by have:=(List.getElem?_eq_some_iff.1 hj).1; omega
     rw [List.getElem?_take,if_pos hjl] at hj;rw [Addr.add_lit,th,World.cell?_drew]; simp only [World.cell?,hb]; simpa using hj
   have hnil:base=none->i=0:=by
    rintro rfl;rcases hbase with ⟨h,_⟩|⟨b,e0,h,_⟩
    ·exact h
    ·cases h
   refine (sv w base i cap vb voff 1 vc olds news (by decide) hncap hroom hbig hold hnil O hn h1).mono ?_;rintro ed w' ⟨rfl,rfl⟩;obtain ⟨G0z,hG⟩:∃ G0z,G0z=grownCap w (i+1) cap 104:=⟨_,rfl⟩
   rw [<- hG] at hgn ⊢;have hzc:(.agg #[.int .i64 0,.slice none 0 0,.slice none 0 0]:Value).cells.size=3:=by kernel_rfl
   refine ⟨G0z,_,Z,p6 w _ 104,hgn,?_,?_,?_,λ j h3 h4=>by omega⟩
   ·simp only [Array.size_append,List.size_toArray,bt,hol,hnl,size_zeroCells,hzc]; omega
   ·intro j hj;rw [Array.getElem?_append,if_pos (by simp only [List.size_toArray,bt]; omega),List.getElem?_toArray,List.getElem?_append,if_pos O];exact hoc j hj
   ·intro j hj;rw [Array.getElem?_append,if_pos (by simp only [List.size_toArray,bt]; omega),List.getElem?_toArray,List.getElem?_append,if_neg O];congr 1; omega
def ct (Dz:List ak)(DI:Int)(v_2:List ak):Option (List ak) :=ck ((0:Int)<=DI/\DI<=(Dz.length:Int))<|ck (v_2.length=1)<|ck ((Dz.length+1)*56<=140737488355328)<|some (ip Dz DI.toNat (v_2.headD default))
theorem iR (Dz:List ak)(DI:Int)(v_2:List ak)(r:List ak)(h0:ct Dz DI v_2=some r):dh Tryz.prog 95 [.stk 900000 3 (Dz.map aE),.p (eI DI),.p (eL aE v_2)] [] (λ x y=>x=.stk 2000000 3 (r.map aE)/\y=[]):=by
 unfold ct at h0;obtain ⟨FU,h1⟩:=iq h0;obtain ⟨EQ,h2⟩:=iq h1;obtain ⟨GK,h3⟩:=iq h2
 cases h3
 obtain ⟨z,rfl⟩:∃ z,v_2=[z]:=by
  match v_2,EQ with
  | [z],_=>exact ⟨z,Z⟩
 obtain ⟨i,rfl⟩:∃ i:Nat,DI=i:=⟨DI.toNat,by omega⟩
 have hi:i<=(Dz.map aE).length:=by rw [cl]; omega
 have h:=rN zD (by decide) (Dz.map aE) i (aE z) hi (by rw [cl]; omega) (by rw [cl]; omega) ((congrArg List.length (ak.CM z)).trans (by cases z with|mk=>rfl));rw [va] at h;exact h
theorem pz:(Tryz.prog.info? 9).map (λ i=>(i.zero,i.size,i.bytes))=some (some (.string ⟨#[]⟩),1,16):=by kernel_rfl
set_option maxRecDepth 100000 in
theorem sH (w:World)(b n cap vb voff m vc:Nat)(c:Array Value)(e0:TypeId)(news:List Value)(hb:w.heap[b]? = some (.cells c e0 (0,0)))(DN:c.size=cap)(hm0:0<m)(hroom:n+m<=cap)
  (hnl:news.length=m) (hn:∀ j v,news[j]? = some v->w.cell? ⟨vb,voff+j,none⟩=some v) (h1:∀ v∈news,v.oneCell'=true) (c':Array Value) (hc':c'=(c.toList.take (n)++news++c.toList.drop (n+news.length)).toArray) :
  Calls Tryz.prog 94 #[.slice (some ⟨b,0,none⟩) n cap,.int .i64 n,.slice (some ⟨vb,voff,none⟩) m vc] w λ ed w'=>
   ed=.returned (.slice (some ⟨b,0,none⟩) (n+m) cap)/\w'=w.setRow b c':=by
 have mixed:=lg;obtain ⟨i0,hi0,hz⟩:=n8.1 pz;have hzs:i0.size=1:=congrArg (λ x=>x.2.1) hz;have hz1:¬ ((m:Int)=0):=by omega
 have hsrc:Src Tryz.prog i0.size 29 (.slice (some ⟨vb,voff,none⟩) m vc) m news w:=by
  rw [hzs];exact Src.ofSlice w Tryz.underlying29 ⟨vb,voff,none⟩ m vc news O (λ j u hj=>by rw [Addr.add_lit]; exact hn j u hj) h1
 have hstc:=run_storeCells_at Tryz.prog b (n) e0 news 0 c w hb (by simp only [Nat.add_zero]; omega) h1;simp only [Nat.add_zero] at hstc;rw [<- hc'] at hstc
 have hrun:∀ ty,(Builtin.append_ #[29,29] ty #[.slice (some ⟨b,0,none⟩) n cap,.slice (some ⟨vb,voff,none⟩) m vc]).run Tryz.prog w=.ok (.slice (some ⟨b,0,none⟩) (n+m) cap) _:=λ ty=>
  gi _ _ ty _ i0 Tryz.underlying29 hi0 b n cap _ m news hsrc hroom (by rw [hzs]; first|exact hstc|(rw [Nat.mul_one]; exact hstc))
 clear hc' hstc hsrc hnl hn h1 hb DN
 go_enter Tryz.func94,Tryz.ntmps94
 go_wp2_with (at_builtin; refine Lib.wpList_append_run _ Z _ _ _ _ Z _ _ Z Z _ _ (hrun _) ?_)
 go_ret
 exact ⟨Z,Z⟩
set_option maxRecDepth 100000 in
theorem wh (w:World)(b n cap i vb voff m vc:Nat)(c:Array Value)(e0:TypeId)(news mid:List Value)(cA:Array Value)(tA:TypeId)(fA:Nat×Nat)(hb:w.heap[b]? = some (.cells c e0 (0,0)))(DN:c.size=cap)(hi:i<n)(hm0:0<m)(hroom:n+m<=cap)(hn63:n+m<=9223372036854775807)(hvb:vb≠b)
  (hnl:news.length=m) (hn:∀ j v,news[j]? = some v->w.cell? ⟨vb,voff+j,none⟩=some v) (h1:∀ v∈news,v.oneCell'=true) (hml:mid.length=(n-i)) (hm:∀ (j:Nat) (v:Value),mid[j]? = some v->c[i+j]? = some v) (hm1:∀ v∈mid,v.oneCell'=true)
  (hA:w.heap[vb]? = some (.cells cA tA fA)) (hA0:cA.size≠0)
  (c1 c2:Array Value) (hc1:c1=(c.toList.take ((i+m))++mid++c.toList.drop ((i+m)+mid.length)).toArray) (hc2:c2=(c1.toList.take (i)++news++c1.toList.drop (i+news.length)).toArray) :
  Calls Tryz.prog 94 #[.slice (some ⟨b,0,none⟩) n cap,.int .i64 i,.slice (some ⟨vb,voff,none⟩) m vc] w λ ed w'=>
   ed=.returned (.slice (some ⟨b,0,none⟩) (n+m) cap)/\w'=w.drew.setRow b c2:=by
 have mixed:=lg;have hinf:(Tryz.prog.info? 9).map (·.size)=some 1:=by kernel_rfl
 have hz1:¬ ((m:Int)=0):=by omega
 have hz2:¬ ((i:Int)=(n:Int)):=by omega
 have hfit:(i+m)+mid.length<=c.size:=by omega
 have hs1:c1.size=c.size:=by rw [hc1]; exact dB c _ mid hfit
 have hov:∀ lb cb,(callFunc 122 #[.slice (some ⟨vb,voff,none⟩) m vc,.slice (some ⟨b,(i+m),none⟩) lb cb]).run Tryz.prog w=.ok (.value (.bool false)) w:=λ lb cb=>by
  rw [run_callFunc_extern Tryz.func122 (by kernel_rfl) (by kernel_rfl) (by kernel_rfl) (e:=Extern.SlicesOverlaps.overlaps #[29,29] #[4]) (by kernel_rfl),
   lc w 29 4 9 Tryz.underlying29 1 (λ w=>by kernel_rfl) ⟨vb,voff,none⟩ ⟨b,(i+m),none⟩ m vc lb cb hvb hA hb hA0]
  rfl
 have hcp1:∀ ty dc sc,(Builtin.copy_ #[29,29] ty #[.slice (some ⟨b,(i+m),none⟩) (n+m-(i+m)) dc,.slice (some ⟨b,i,none⟩) (n+m-i) sc]).run Tryz.prog w.drew=.ok (goInt (Nat.min (n+m-i) (n+m-(i+m)))) (w.drew.setRow b c1):=λ ty dc sc=>by
  rw [hc1]
  exact fm w.drew _ _ ty _ b ((i+m)) (n+m-(i+m)) dc ⟨b,i,none⟩ (n+m-i) sc 1 c e0 mid Tryz.underlying29 hinf hb (by rw [hml]; simp only [Nat.min_def]; split <;> omega)
   (λ j v hj=>by rw [Addr.add_lit]; rw [World.cell?_drew]; simp only [World.cell?,hb]; exact hm j v hj) hfit hm1
 have hcp2:∀ (W:World),W.heap=(w.drew.setRow b c1).heap->∀ ty dc,(Builtin.copy_ #[29,29] ty #[.slice (some ⟨b,i,none⟩) (n+m-i) dc,.slice (some ⟨vb,voff,none⟩) m vc]).run Tryz.prog W=.ok (goInt (Nat.min m (n+m-i))) (W.setRow b c2):=λ W hW ty dc=>by
  have hWb:W.heap[b]? = some (.cells c1 e0 (0,0)):=by rw [hW]; exact setRow_heap w.drew b c c1 e0 (0,0) hb
  rw [hc2]
  exact fm W _ _ ty _ b (i) (n+m-i) dc ⟨vb,voff,none⟩ m vc 1 c1 e0 news Tryz.underlying29 hinf hWb (by rw [hnl]; simp only [Nat.min_def]; split <;> omega)
   (λ j v hj=>by
    rw [Addr.add_lit];have:=hn j v hj;simp only [World.cell?] at this ⊢;rw [hW,setRow_other w.drew b vb c1 hvb]
    exact this) O h1
 have hw1:IntKind.i64.wrap ((i:Int)+(m:Int))=(i:Int)+(m:Int):=by rw [IntKind.wrap_i64]; omega
 have hb1:(0:Int)<=(i:Int)+(m:Int):=by omega
 have hin:i<=n:=by omega
 have htn:((i:Int)+(m:Int)).toNat=i+m:=by omega
 have hb2:¬ (cap=i+m):=by omega
 have hb3:(i:Int)<=(n:Int)+(m:Int):=by omega
 have hb4:¬ (cap=i):=by omega
 clear DN hfit hs1 hml hm hm1 hnl hn h1 hc1 hc2 hinf hA hA0 hb
 go_enter Tryz.func94,Tryz.ntmps94
 go_wp2_with (simp only [hov])
 go_region_law_o (refine step_copy_runI Z _ _ 29 29 Z _ _ (by simp [Act.eval,Act.put]) (by simp [Act.eval,Act.put]) (hcp1 _ _ _) ?_)
 go_wp2_with (at_builtin; refine wpList_copy_runI _ Z _ _ 29 29 Z _ _ Z Z (hcp2 _ Z _ _) ?_)
 go_ret
 exact ⟨Z,by rw [setRow_setRow]⟩
set_option maxRecDepth 100000 in
theorem sK (w:World)(base:Option Addr)(n cap vb voff m vc:Nat)(olds news:List Value)(hm0:0<m)(hnc:n<=cap)(hroom:cap<n+m)(hbig:(n+m)*16<=140737488355328)(hold:(Builtin.firstCells 1 n (.slice base n cap)).run Tryz.prog w.drew=.ok olds.toArray w.drew)
  (hnil:base=none->n=0) (hnl:news.length=m) (hn:∀ j v,news[j]? = some v->w.cell? ⟨vb,voff+j,none⟩=some v) (h1:∀ v∈news,v.oneCell'=true) :
  Calls Tryz.prog 94 #[.slice base n cap,.int .i64 n,.slice (some ⟨vb,voff,none⟩) m vc] w λ ed w'=>
   ed=.returned (.slice (some ⟨w.heap.size,0,none⟩) (n+m) (grownCap w (n+m) cap 9))/\w'=w.drew.alloc (.cells ((olds++news).toArray++Builtin.zeroCells (.string ⟨#[]⟩:Value).cells (grownCap w (n+m) cap 9-(n+m))) 9):=by
 have mixed:=lg;obtain ⟨i0,hi0,hz⟩:=n8.1 pz;have hzz:i0.zero=some (.string ⟨#[]⟩):=congrArg Prod.fst hz;have hzs:i0.size=1:=congrArg (λ x=>x.2.1) hz;have hzb:i0.bytes=16:=congrArg (λ x=>x.2.2) hz;have hz1:¬ ((m:Int)=0):=by omega
 have hsrc:Src Tryz.prog i0.size 29 (.slice (some ⟨vb,voff,none⟩) m vc) m news w:=by
  rw [hzs];exact Src.ofSlice w Tryz.underlying29 ⟨vb,voff,none⟩ m vc news O (λ j u hj=>by rw [Addr.add_lit]; exact hn j u hj) h1
 have hrun:∀ ty,(Builtin.append_ #[29,29] ty #[.slice base n cap,.slice (some ⟨vb,voff,none⟩) m vc]).run Tryz.prog w=_:=λ ty=>
  run_append_grow_src w 29 29 ty 9 i0 _ Tryz.underlying29 hi0 hzz base n cap olds (by rw [hzs]; exact hold) _ m news hsrc hroom O (by rw [hzb]; exact growslice_fits hroom hbig)
 clear hsrc hnl hn h1 hold hzz hzs hzb hz hi0 hbig
 go_enter Tryz.func94,Tryz.ntmps94
 cases base with
 | none=>
  have h0:=hnil rfl;subst h0
  go_wp2_with (at_builtin; refine Lib.wpList_append_run _ Z _ _ _ _ Z _ _ Z Z _ _ (hrun _) ?_)
  all_goals (go_ret; exact ⟨Z,Z⟩)
 | some a=>
  obtain ⟨ab,ao,asp⟩:=a
  go_wp2_with (at_builtin; refine Lib.wpList_append_run _ Z _ _ _ _ Z _ _ Z Z _ _ (hrun _) ?_)
  all_goals (go_ret; exact ⟨Z,Z⟩)
set_option maxRecDepth 100000 in
theorem x6 (w:World)(b n cap i vb voff m vc:Nat)(c:Array Value)(e0:TypeId)(pre news mid:List Value)(hb:w.heap[b]? = some (.cells c e0 (0,0)))(hvw:vb<w.heap.size)(hi:i<n)(hm0:0<m)(hnc:n<=cap)(hroom:cap<n+m)(hbig:(n+m)*16<=140737488355328)
  (hnl:news.length=m) (hn:∀ j v,news[j]? = some v->w.cell? ⟨vb,voff+j,none⟩=some v) (h1:∀ v∈news,v.oneCell'=true) (hpl:pre.length=i) (hp:∀ (j:Nat) (v:Value),pre[j]? = some v->c[j]? = some v)
  (hml:mid.length=(n-i)) (hm:∀ (j:Nat) (v:Value),mid[j]? = some v->c[i+j]? = some v) (hm1:∀ v∈mid,v.oneCell'=true) (G0z:Nat) (hG:G0z=grownCap w (n+m) cap 9) (ROW c1 c2:Array Value)
  (hROW:ROW=pre.toArray++Builtin.zeroCells (.string ⟨#[]⟩:Value).cells (n+m-i)++Builtin.zeroCells (.string ⟨#[]⟩:Value).cells (G0z-(n+m))) (hRl:ROW.size=G0z)
  (hc1:c1=(ROW.toList.take (i)++news++ROW.toList.drop (i+news.length)).toArray) (hc2:c2=(c1.toList.take ((i+m))++mid++c1.toList.drop ((i+m)+mid.length)).toArray) :
  Calls Tryz.prog 94 #[.slice (some ⟨b,0,none⟩) n cap,.int .i64 i,.slice (some ⟨vb,voff,none⟩) m vc] w λ ed w'=>
   ed=.returned (.slice (some ⟨w.heap.size,0,none⟩) (n+m) G0z)/\w'=(((w.alloc (.cells ROW 9)).drew.setRow w.heap.size c1).drew).setRow w.heap.size c2:=by
 have mixed:=lg;obtain ⟨i0,hi0,hz⟩:=n8.1 pz;have hzz:i0.zero=some (.string ⟨#[]⟩):=congrArg Prod.fst hz;have hzs:i0.size=1:=congrArg (λ x=>x.2.1) hz;have hzb:i0.bytes=16:=congrArg (λ x=>x.2.2) hz;have hinf:(Tryz.prog.info? 9).map (·.size)=some 1:=by kernel_rfl
 have hz1:¬ ((m:Int)=0):=by omega
 have hz2:¬ ((i:Int)=(n:Int)):=by omega
 have hz3:(cap:Int)<(n:Int)+(m:Int):=by omega
 have hbw:b<w.heap.size:=(Array.getElem?_eq_some_iff.1 hb).1;have hkk:(n:Int)+(m:Int)-(i:Int)=((n+m-i:Nat):Int):=by omega
 have DX:i+(n+m-i)=n+m:=by omega
 have hold:(Builtin.firstCells i0.size i (.slice (some ⟨b,0,none⟩) i cap)).run Tryz.prog w.drew=.ok pre.toArray w.drew:=by
  rw [hzs]
  exact run_firstCells_some w.drew 1 i ⟨b,0,none⟩ i cap pre O (λ j v hj=>by
   rw [Addr.add_lit,th,World.cell?_drew]; simp only [World.cell?,hb]; exact hp j v hj)
 have hrz:∀ ty,(Builtin.append_ #[29,3] ty #[.slice (some ⟨b,0,none⟩) i cap,.int .i64 ((n:Int)+(m:Int)-(i:Int))]).run Tryz.prog w =
   .ok (.slice (some ⟨w.heap.size,0,none⟩) (n+m) G0z) (w.drew.alloc (.cells ROW 9)):=λ ty=>by
  have h:=Lib.run_append_grow_zeros w 29 3 ty 9 i0 _ .i64 .i64 Tryz.underlying29 Tryz.underlying3 hi0 hzz (some ⟨b,0,none⟩) i cap pre hold (n+m-i) O O O O  (by rw [hzb]; omega) (by rw [hzb,DX]; exact growslice_fits hroom hbig);rw [DX,<- hG,<- hROW] at h;rw [hkk];exact h
 have hGn:n+m<=G0z:=by rw [hG]; exact grownCap_ge w _ _ _
 have hG63:G0z<=9223372036854775807:=by
  have:=grownCap_le_maxLen w (n+m) cap 9 (by unfold maxLen; omega);rw [<- hG] at this;unfold maxLen at this;omega
 have hfit1:i+news.length<=ROW.size:=by rw [hRl,hnl]; omega
 have hs1:c1.size=ROW.size:=by rw [hc1]; exact dB ROW _ news hfit1
 have hcpA:∀ (W:World),W.heap=(w.drew.alloc (.cells ROW 9)).heap->∀ ty dc,(Builtin.copy_ #[29,29] ty #[.slice (some ⟨w.heap.size,i,none⟩) (n+m-i) dc,.slice (some ⟨vb,voff,none⟩) m vc]).run Tryz.prog W=.ok (goInt (Nat.min m (n+m-i))) (W.setRow w.heap.size c1):=λ W hW ty dc=>by
  have hWb:W.heap[w.heap.size]? = some (.cells ROW 9 (0,0)):=by rw [hW]; exact bS (w:=w.drew)
  rw [hc1]
  exact fm W _ _ ty _ w.heap.size (i) (n+m-i) dc ⟨vb,voff,none⟩ m vc 1 ROW 9 news Tryz.underlying29 hinf hWb (by rw [hnl]; simp only [Nat.min_def]; split <;> omega)
   (λ j v hj=>by
    rw [Addr.add_lit];have:=hn j v hj;simp only [World.cell?] at this ⊢;rw [hW,Lib.alloc_old w.drew _ vb hvw]
    exact this) hfit1 h1
 have hcpB:∀ (W:World),W.heap=((w.drew.alloc (.cells ROW 9)).setRow w.heap.size c1).heap->∀ ty dc sc,(Builtin.copy_ #[29,29] ty #[.slice (some ⟨w.heap.size,(i+m),none⟩) (n+m-(i+m)) dc,.slice (some ⟨b,i,none⟩) (n-i) sc]).run Tryz.prog W=.ok (goInt (Nat.min (n-i) (n+m-(i+m)))) (W.setRow w.heap.size c2):=λ W hW ty dc sc=>by
  have hWb:W.heap[w.heap.size]? = some (.cells c1 9 (0,0)):=by rw [hW]; exact setRow_heap _ _ ROW c1 9 (0,0) (bS (w:=w.drew))
  rw [hc2]
  exact fm W _ _ ty _ w.heap.size ((i+m)) (n+m-(i+m)) dc ⟨b,i,none⟩ (n-i) sc 1 c1 9 mid Tryz.underlying29 hinf hWb (by rw [hml]; simp only [Nat.min_def]; split <;> omega)
   (λ j v hj=>by
    rw [Addr.add_lit];simp only [World.cell?];rw [hW,setRow_other _ _ b c1 O,Lib.alloc_old w.drew _ b hbw];have:w.drew.heap[b]? = some (.cells c e0 (0,0)):=hb;rw [this]
    exact hm j v hj) (by rw [hs1,hRl,hml]; omega) hm1
 have hGi:¬ (G0z=i):=by omega
 have hGim:¬ (G0z=i+m):=by omega
 have hci:¬ (cap=i):=by omega
 have hw1:IntKind.i64.wrap ((i:Int)+(m:Int))=(i:Int)+(m:Int):=by rw [IntKind.wrap_i64]; omega
 have hb1:(0:Int)<=(i:Int)+(m:Int):=by omega
 have hin:i<=n:=by omega
 have htn:((i:Int)+(m:Int)).toNat=i+m:=by omega
 have hb3:(i:Int)<=(n:Int):=by omega
 have hE1:((w.alloc (.cells ROW 9)).drew).heap=(w.drew.alloc (.cells ROW 9)).heap:=rfl;have hF1:(((w.alloc (.cells ROW 9)).drew.setRow w.heap.size c1).drew).heap=((w.drew.alloc (.cells ROW 9)).setRow w.heap.size c1).heap:=rfl
 clear hkk DX hold hROW hG hRl hc1 hc2 hfit1 hs1 hml hm hm1 hnl hn h1 hpl hp hb hinf hzz hzs hzb hz hi0 hbig
 go_enter Tryz.func94,Tryz.ntmps94
 go_wp2_with (first
  | (at_builtin; refine Lib.wpList_append_run _ Z _ _ _ _ Z _ _ Z Z _ _ (hrz _) ?_)
  | (at_builtin; refine wpList_copy_runI _ Z _ _ 29 29 Z _ _ Z Z (hcpA _ hE1 _ _) ?_)
  | (at_builtin; refine wpList_copy_runI _ Z _ _ 29 29 Z _ _ Z Z (hcpB _ Z _ _ _) ?_))
 go_region_law_o (refine step_copy_runI Z _ _ 29 29 Z (.slice (some ⟨w.heap.size,(i+m),none⟩) (n+m-(i+m)) (G0z-(i+m))) (.slice (some ⟨b,i,none⟩) (n-i) (cap-i)) (by simp [Act.eval,Act.put]) (by simp [Act.eval,Act.put]) (hcpB _ hF1 3 (G0z-(i+m)) (cap-i)) ?_)
 go_wp2
 go_ret
 exact ⟨Z,Z⟩
theorem yw:wb Tryz.prog 94 9 1 16 where
 room:=by
  intro w b n cap i vb voff vc c e0 news cA tA fA hb DN hi hroom hn63 hvb hnl hn h1 DK hA;simp only [Nat.mul_one] at *;rcases Nat.lt_or_ge i n with hlt|hge
  ·have hA0:cA.size≠0:=by
    have:0<news.length:=by omega
    have:=hn 0 _ (List.getElem?_eq_getElem this);simp only [World.cell?,hA] at this;intro h0;rw [Array.getElem?_eq_none O] at this
    cases this
   obtain ⟨mid,hmid⟩:∃ mid,mid=(c.toList.drop (i)).take ((n-i)):=⟨_,rfl⟩
   have hml:mid.length=(n-i):=by
    rw [hmid,qr,List.length_drop,Array.length_toList]; omega
   have hm:∀ (j:Nat) (v:Value),mid[j]? = some v->c[i+j]? = some v:=by
    intro j v hj;have hjl:j<(n-i):=by have:=(List.getElem?_eq_some_iff.1 hj).1; omega
    rw [hmid,List.getElem?_take,if_pos hjl,List.getElem?_drop] at hj;simpa using hj
   have hm1:∀ v∈mid,v.oneCell'=true:=by
    intro v hv;obtain ⟨j,hj⟩:=List.mem_iff_getElem?.1 hv;have hjl:j<(n-i):=by have:=(List.getElem?_eq_some_iff.1 hj).1; omega
    exact DK (i+j) v O (hm j v hj)
   refine (wh w b n cap i vb voff 1 vc c e0 news mid cA tA fA hb DN hlt (by decide) hroom O hvb O hn h1 hml hm hm1 hA hA0 _ _ rfl rfl).mono ?_;rintro ed w' ⟨rfl,rfl⟩;have hfit:(i+1)+mid.length<=c.size:=by omega
   have hs1:=dB c ((i+1)) mid hfit;have hfit2:=Nat.le_of_eq hs1.symm;refine ⟨Z,_,s6 hb _,setRow_size _ _ _,(dB _ (i) news O).trans hs1,?_⟩;refine rF (s:=1) (mid:=mid) O hnl O hm (λ j=>?_) (λ j=>gG _ _ news O j);have:=gG c ((i+1)) mid hfit j;exact this
  ·obtain rfl:i=n:=by omega
   refine (sH w b i cap vb voff 1 vc c e0 news hb DN (by decide) hroom O hn h1 _ rfl).mono ?_;rintro ed w' ⟨rfl,rfl⟩;refine ⟨rfl,_,uz hb _,setRow_size _ _ _,dB c _ news O,?_⟩;exact vj (λ j=>gG c _ news O j)
 grow:=by
  intro w base n cap i vb voff vc c news hbase hi hncap hroom hbig hnl hn h1 DK;simp only [Nat.mul_one] at *
  have hvw:vb<w.heap.size:=by
   have:0<news.length:=by omega
   exact block_lt_of_cell (hn 0 _ (List.getElem?_eq_getElem this))
  have hgn:=grownCap_ge w (n+1) cap 9;rcases Nat.lt_or_ge i n with hlt|hge
  ·obtain ⟨b,e0,rfl,hb,DN⟩:∃ b e0,base=some ⟨b,0,none⟩/\w.heap[b]? = some (.cells c e0 (0,0))/\c.size=cap:=by
    rcases hbase with h|h
    ·omega
    ·exact h
   obtain ⟨mid,hmid⟩:∃ mid,mid=(c.toList.drop (i)).take ((n-i)):=⟨_,rfl⟩
   have hml:mid.length=(n-i):=by
    rw [hmid,qr,List.length_drop,Array.length_toList]; omega
   have hm:∀ (j:Nat) (v:Value),mid[j]? = some v->c[i+j]? = some v:=by
    intro j v hj;have hjl:j<(n-i):=by have:=(List.getElem?_eq_some_iff.1 hj).1; omega
    rw [hmid,List.getElem?_take,if_pos hjl,List.getElem?_drop] at hj;simpa using hj
   have hm1:∀ v∈mid,v.oneCell'=true:=by
    intro v hv;obtain ⟨j,hj⟩:=List.mem_iff_getElem?.1 hv;have hjl:j<(n-i):=by have:=(List.getElem?_eq_some_iff.1 hj).1; omega
    exact DK (i+j) v O (hm j v hj)
   obtain ⟨pre,hpre⟩:∃ pre,pre=c.toList.take (i):=⟨_,rfl⟩
   have hpl:pre.length=i:=by
    rw [hpre,qr,Array.length_toList]; omega
   have hp:∀ (j:Nat) (v:Value),pre[j]? = some v->c[j]? = some v:=by
    intro j v hj;have hjl:j<i:=by have:=(List.getElem?_eq_some_iff.1 hj).1; omega
    rw [hpre,List.getElem?_take,if_pos hjl] at hj;simpa using hj
   obtain ⟨G0z,hG⟩:∃ G0z,G0z=grownCap w (n+1) cap 9:=⟨_,rfl⟩
   rw [<- hG] at hgn;obtain ⟨ROW,hROW⟩:∃ ROW:Array Value,ROW=pre.toArray++Builtin.zeroCells (.string ⟨#[]⟩:Value).cells (n+1-i)++Builtin.zeroCells (.string ⟨#[]⟩:Value).cells (G0z-(n+1)):=⟨_,rfl⟩
   have hzc:(.string ⟨#[]⟩:Value).cells.size=1:=by kernel_rfl
   have hRl:ROW.size=G0z:=by
    rw [hROW];simp only [Array.size_append,List.size_toArray,hpl,size_zeroCells,hzc];omega
   refine (x6 w b n cap i vb voff 1 vc c e0 pre news mid hb hvw hlt (by decide) hncap hroom hbig O hn h1 hpl hp hml hm hm1 G0z hG ROW _ _ hROW hRl rfl rfl).mono ?_;rintro ed w' ⟨rfl,rfl⟩;have hfit1:i+news.length<=ROW.size:=by omega
   have hs1:=dB ROW (i) news hfit1;have hfit2:(i+1)+mid.length<=ROW.size:=by omega
   refine ⟨G0z,_,Z,p8 w ROW 9 _ _,hgn,((dB _ ((i+1)) mid O).trans hs1).trans hRl,?_⟩;refine sN (s:=1) (mid:=mid) (ROW:=ROW) O hnl O hm (λ j hj=>?_) (λ j=>gG ROW _ news hfit1 j) (λ j=>?_)
   ·have hj':j<pre.length:=by omega
    rw [hROW,Array.append_assoc,Array.getElem?_append,if_pos (by simpa using hj'),List.getElem?_toArray,List.getElem?_eq_getElem hj',hp j _ (List.getElem?_eq_getElem hj')]
   ·have:=gG (ROW.toList.take (i)++news++ROW.toList.drop (i+news.length)).toArray ((i+1)) mid (by rw [hs1]; exact hfit2) j;exact this
  ·obtain rfl:i=n:=by omega
   obtain ⟨olds,hol,hold,hoc⟩:∃ olds:List Value,olds.length=i/\(Builtin.firstCells 1 i (.slice base i cap)).run Tryz.prog w.drew=.ok olds.toArray w.drew/\(∀ j,j<i->olds[j]? = c[j]?):=by
    rcases hbase with ⟨rfl,rfl⟩|⟨b,e0,rfl,hb,DN⟩
    ·refine ⟨[],Z,?_,λ j hj=>by omega⟩
     cases base with
     | none=>exact run_firstCells_none w.drew 1 0 0 0
     | some a=>exact run_firstCells_some w.drew 1 0 a 0 0 [] Z (λ j v hj=>by simp at hj)
    ·have hl:(c.toList.take (i)).length=i:=by rw [qr,Array.length_toList]; omega
     refine ⟨c.toList.take (i),hl,run_firstCells_some w.drew 1 i ⟨b,0,none⟩ i cap _ O (λ j v hj=>?_),λ j hj=>by rw [List.getElem?_take,if_pos hj]; simp⟩;have hjl:j<i:=by have:=(List.getElem?_eq_some_iff.1 hj).1; omega
     rw [List.getElem?_take,if_pos hjl] at hj;rw [Addr.add_lit,th,World.cell?_drew]; simp only [World.cell?,hb]; simpa using hj
   have hnil:base=none->i=0:=by
    rintro rfl;rcases hbase with ⟨h,_⟩|⟨b,e0,h,_⟩
    ·exact h
    ·cases h
   refine (sK w base i cap vb voff 1 vc olds news (by decide) hncap hroom hbig hold hnil O hn h1).mono ?_;rintro ed w' ⟨rfl,rfl⟩;obtain ⟨G0z,hG⟩:∃ G0z,G0z=grownCap w (i+1) cap 9:=⟨_,rfl⟩
   rw [<- hG] at hgn ⊢;have hzc:(.string ⟨#[]⟩:Value).cells.size=1:=by kernel_rfl
   refine ⟨G0z,_,Z,p6 w _ 9,hgn,?_,?_,?_,λ j h3 h4=>by omega⟩
   ·simp only [Array.size_append,List.size_toArray,bt,hol,hnl,size_zeroCells,hzc]; omega
   ·intro j hj;rw [Array.getElem?_append,if_pos (by simp only [List.size_toArray,bt]; omega),List.getElem?_toArray,List.getElem?_append,if_pos O];exact hoc j hj
   ·intro j hj;rw [Array.getElem?_append,if_pos (by simp only [List.size_toArray,bt]; omega),List.getElem?_toArray,List.getElem?_append,if_neg O];congr 1; omega
def cX (Dz:List Bk)(DI:Int)(v_2:List Bk):Option (List Bk) :=ck ((0:Int)<=DI/\DI<=(Dz.length:Int))<|ck (v_2.length=1)<|ck ((Dz.length+1)*16<=140737488355328)<|some (ip Dz DI.toNat (v_2.headD default))
theorem jO (Dz:List Bk)(DI:Int)(v_2:List Bk)(r:List Bk)(h0:cX Dz DI v_2=some r):dh Tryz.prog 94 [.stk 900000 1 (Dz.map eS),.p (eI DI),.p (eL eS v_2)] [] (λ x y=>x=.stk 2000000 1 (r.map eS)/\y=[]):=by
 unfold cX at h0;obtain ⟨FU,h1⟩:=iq h0;obtain ⟨EQ,h2⟩:=iq h1;obtain ⟨GK,h3⟩:=iq h2
 cases h3
 obtain ⟨z,rfl⟩:∃ z,v_2=[z]:=by
  match v_2,EQ with
  | [z],_=>exact ⟨z,Z⟩
 obtain ⟨i,rfl⟩:∃ i:Nat,DI=i:=⟨DI.toNat,by omega⟩
 have hi:i<=(Dz.map eS).length:=by rw [cl]; omega
 have h:=rN yw (by decide) (Dz.map eS) i (eS z) hi (by rw [cl]; omega) (by rw [cl]; omega) (rfl);rw [va] at h;exact h
end Go.Ab
end
section
namespace Go.Ab.R06
open Go.Proofs Go.Ab Go.Ab.RB
attribute [local irreducible] awp iJ bw aB dh AV.sub M dQ
def ew (Dz:Bk):Nat->Int->(List UInt8)->Option (List UInt8)|0,_,_=>none|m+1,t37,FV=>if t37<(Dz.length:Int) then ck ((0:Int)<=t37/\t37<(Dz.length:Int))<|(if byt Dz t37=10 then(aZ (aH.mk FV) ([92,110]:Bk)).bind λ r42=>some r42.2.2.CV else if byt Dz t37=13 then(aZ (aH.mk FV) ([92,114]:Bk)).bind λ Ek=>some Ek.2.2.CV else if byt Dz t37=9 then(aZ (aH.mk FV) ([92,116]:Bk)).bind λ Fc=>some Fc.2.2.CV else(if byt Dz t37=34 then some true else some (decide (byt Dz t37=92)) : Option Bool).bind λ t51=>if t51=true then(bL (aH.mk FV) 92).bind λ r53=>(bL (aH.mk r53.2.CV) (byt Dz t37)).bind λ r55=>some r55.2.CV else(if byt Dz t37<32 then some true else some (decide (byt Dz t37=127)) : Option Bool).bind λ t58=>if t58=true then ck (inR (byt Dz t37))<|(gO (byt Dz t37) 16).bind λ Jp=>ck (([92,117,123]:Bk).length+Jp.length<=9223372036854775807)<|ck ((([92,117,123]:Bk)++Jp).length+([125]:Bk).length<=9223372036854775807)<|(aZ (aH.mk FV) ((([92,117,123]:Bk)++Jp)++([125]:Bk))).bind λ r65=>some r65.2.2.CV else(bL (aH.mk FV) (byt Dz t37)).bind λ r67=>some r67.2.CV : Option (List UInt8)).bind λ f69=>ck (inR (t37+1))<|ew Dz m (t37+1) f69 else some FV
def ig (n:Nat)(Dz:Bk):Option Bk :=(bL (aH.mk []) 34).bind λ r1=>(ew Dz n 0 r1.2.CV).bind λ f73=>(bL (aH.mk f73) 34).bind λ r74=>(eg (aH.mk r74.2.CV)).bind λ r76=>some r76.1
theorem mi (n:Nat)(Dz:Bk)(r:Bk)(h0:ig n Dz=some r):aB Tryz.prog 140 [eS Dz] (·=.p (eS r)):=by
 unfold ig at h0;refine aR good Tryz.func140 Z Z Z λ w0=>mP (λ v:Bk=>.p (eS v)) ?_;refine nx 6 Z (mO Z (sZ Z Z Z Z Z Z Z ?_));refine nx 3 Z (bd h0 λ r1 e2 h0=>?_);refine mO Z (bN [3] [890000] 101000 101001 (cL (aH.mk []) 34 _ e2) Z Z Z Z Z ⟨sr,sr,trivial⟩ Z Z ⟨⟨_,Z,⟨sr,AV.sub_nilvec _ _ _,trivial⟩⟩,trivial⟩ Z Z Z Z Z Z Z Z Tryz.call170 Z Z ?_);refine nx 5 Z (oLs Z ?_);refine nx 3 Z (bd h0 λ o82 h1 h0=>?_);refine kE 0 o82 (λ v83=>⟨[(3,.ptr 3 0)],[(3,[.bptr 140 2 3,.vec 108000 1 (5+1) (v83.map eU)])]⟩) ?_ ?_
 ·refine nx 3 Z (bd h0 λ r74 e75 h0=>?_);refine mO Z (bN [3] [108000] 116000 116001 (cL (aH.mk o82) 34 _ e75) Z Z Z Z Z ⟨sr,sr,trivial⟩ Z Z ⟨⟨_,Z,⟨sr,sr,trivial⟩⟩,trivial⟩ Z Z Z Z Z Z Z Z Tryz.call170 Z Z ?_);refine nx 3 Z (bd h0 λ r76 e77 h0=>?_);refine mO Z (bN [3] [116000] 117000 117000 (ij (aH.mk r74.2.CV) _ e77) Z Z Z Z Z ⟨sr,trivial⟩ Z Z ⟨⟨_,Z,⟨sr,sr,trivial⟩⟩,trivial⟩ Z Z Z Z Z Z Z Z Tryz.call78 Z Z ?_);exact nx 3 Z (mQ (oi h0) Z (sr))
 refine lG (λ (Jt:Int×(List UInt8))=>⟨[(0,.p (eS Dz)),(3,.ptr 3 0),(8,.p (eI (Dz.length:Int))),(9,.p (eI Jt.1))],[(3,[.bptr 140 2 3,.vec 108000 1 (5+1) (Jt.2.map eU)])]⟩) (λ m (Jt:Int×(List UInt8))=>ew Dz m Jt.1 Jt.2) Y (0,r1.2.CV) h1 (bj (bI 101000 108000 rfl rfl rfl rfl rfl) (gE rfl rfl)) ?_;rintro m ⟨t37,FV⟩ h1;replace h1:ew Dz (m+1) t37 FV=some o82:=h1;rw [ew] at h1;refine nx 5 rfl (fD [10] h1 rfl (λ c39 h1=>?_) λ c39 h1=>?_)
 ·refine nx 13 Z (oI h1 Z λ Ga h1=>?_);refine nx 2 Z (bd h1 λ o85 h2 h1=>?_);refine kN o85 (λ v86=>⟨[(0,.p (eS Dz)),(3,.ptr 3 0),(8,.p (eI (Dz.length:Int))),(9,.p (eI t37))],[(3,[.bptr 140 2 3,.vec 115000 1 (5+1) (v86.map eU)])]⟩) ?_ ?_
  ·refine nx 2 Z (oA h1 Z Z λ J0 h1=>?_);exact nx 2 Z (eX (t37+1,o85) h1 (bj (bI 115000 108000 Z Z Z Z Z) (gE Z Z)))
  refine nx 7 Z (fD [17,19] h2 Z (λ c41 h2=>?_) λ c41 h2=>?_)
  ·refine nx 2 Z (bd h2 λ r42 e43 h2=>?_);refine mO Z (bN [3] [108000] 109000 109001 (bu (aH.mk FV) ([92,110]:Bk) _ e43) Z Z Z Z Z ⟨sr,sr,trivial⟩ Z Z ⟨⟨_,Z,⟨sr,sr,trivial⟩⟩,trivial⟩ Z Z Z Z Z Z Z Z Tryz.call77 Z Z ?_);exact nx 1 Z (eX _ (oi h2).symm (bj (bI 109000 115000 Z Z Z Z Z) (gE Z Z)))
  refine nx 7 Z (fD [21,23] h2 Z (λ c44 h2=>?_) λ c44 h2=>?_)
  ·refine nx 2 Z (bd h2 λ Ek e46 h2=>?_);refine mO Z (bN [3] [108000] 110000 110001 (bu (aH.mk FV) ([92,114]:Bk) _ e46) Z Z Z Z Z ⟨sr,sr,trivial⟩ Z Z ⟨⟨_,Z,⟨sr,sr,trivial⟩⟩,trivial⟩ Z Z Z Z Z Z Z Z Tryz.call77 Z Z ?_);exact nx 1 Z (eX _ (oi h2).symm (bj (bI 110000 115000 Z Z Z Z Z) (gE Z Z)))
  refine nx 7 Z (fD [25,27] h2 Z (λ Ki h2=>?_) λ Ki h2=>?_)
  ·refine nx 2 Z (bd h2 λ Fc Je h2=>?_);refine mO Z (bN [3] [108000] 111000 111001 (bu (aH.mk FV) ([92,116]:Bk) _ Je) Z Z Z Z Z ⟨sr,sr,trivial⟩ Z Z ⟨⟨_,Z,⟨sr,sr,trivial⟩⟩,trivial⟩ Z Z Z Z Z Z Z Z Tryz.call77 Z Z ?_);exact nx 1 Z (eX _ (oi h2).symm (bj (bI 111000 115000 Z Z Z Z Z) (gE Z Z)))
  refine nx 2 Z (bd h2 λ JJ h3 h2=>?_);refine kN JJ (λ v88=>⟨[(0,.p (eS Dz)),(3,.ptr 3 0),(5,.p (eK .u8 (byt Dz t37))),(8,.p (eI (Dz.length:Int))),(9,.p (eI t37)),(29,.p (eB v88))],[(3,[.bptr 140 2 3,.vec 108000 1 (5+1) (FV.map eU)])]⟩) ?_ ?_
  ·refine nx 1 Z (fB [29] h2 Z (λ c52 h2=>?_) λ c52 h2=>?_)
   ·refine nx 3 Z (bd h2 λ r53 e54 h2=>?_);refine mO Z (bN [3] [108000] 112000 112001 (cL (aH.mk FV) 92 _ e54) Z Z Z Z Z ⟨sr,sr,trivial⟩ Z Z ⟨⟨_,Z,⟨sr,sr,trivial⟩⟩,trivial⟩ Z Z Z Z Z Z Z Z Tryz.call170 Z Z ?_);refine nx 3 Z (bd h2 λ r55 e56 h2=>?_);refine mO Z (bN [3] [112000] 113000 113001 (cL (aH.mk r53.2.CV) (byt Dz t37) _ e56) Z Z Z Z Z ⟨sr,sr,trivial⟩ Z Z ⟨⟨_,Z,⟨sr,sr,trivial⟩⟩,trivial⟩ Z Z Z Z Z Z Z Z Tryz.call170 Z Z ?_);exact nx 1 Z (eX _ (oi h2).symm (bj (bI 113000 115000 Z Z Z Z Z) (gE Z Z)))
   refine nx 2 Z (bd h2 λ o89 h3 h2=>?_);refine kN o89 (λ v90=>⟨[(0,.p (eS Dz)),(3,.ptr 3 0),(5,.p (eK .u8 (byt Dz t37))),(8,.p (eI (Dz.length:Int))),(9,.p (eI t37)),(39,.p (eB v90))],[(3,[.bptr 140 2 3,.vec 108000 1 (5+1) (FV.map eU)])]⟩) ?_ ?_
   ·refine nx 1 Z (fB [39] h2 Z (λ c59 h2=>?_) λ c59 h2=>?_)
    ·refine nx 3 Z (cc' h2 λ II h2=>?_);refine mO Z (ez Z Z Z Z Z Z Z Z (ic II) ?_);refine bd h2 λ Jp e62 h2=>oK (nr (byt Dz t37) 16 _ e62) Z ⟨sr,sr,trivial⟩ Tryz.call171 Z (oC h2 Z λ J4 h2=>?_);refine oC h2 Z λ HW h2=>bd h2 λ r65 e66 h2=>mO Z (bN [3] [108000] 114000 114001 (bu (aH.mk FV) ((([92,117,123]:Bk)++Jp)++([125]:Bk)) _ e66) Z Z Z Z Z ⟨sr,sr,trivial⟩ Z Z ⟨⟨_,Z,⟨sr,sr,trivial⟩⟩,trivial⟩ Z Z Z Z Z Z Z Z Tryz.call77 Z Z ?_);exact nx 1 Z (eX _ (oi h2).symm (bj (bI 114000 115000 Z Z Z Z Z) (gE Z Z)))
    refine nx 3 Z (bd h2 λ r67 e68 h2=>?_);refine mO Z (bN [3] [108000] 115000 115001 (cL (aH.mk FV) (byt Dz t37) _ e68) Z Z Z Z Z ⟨sr,sr,trivial⟩ Z Z ⟨⟨_,Z,⟨sr,sr,trivial⟩⟩,trivial⟩ Z Z Z Z Z Z Z Z Tryz.call170 Z Z ?_);exact nx 1 Z (eX _ (oi h2).symm (gE Z Z))
   refine nx 4 Z (fD [41,42] h3 Z (λ c57 h3=>?_) λ c57 h3=>?_)
   ·exact nx 5 Z (eX _ (oi h3).symm (gE Z Z))
   exact nx 5 Z (eX _ (oi h3).symm (gE Z Z))
  refine nx 4 Z (fD [31,32] h3 Z (λ c50 h3=>?_) λ c50 h3=>?_)
  ·exact nx 5 Z (eX _ (oi h3).symm (gE Z Z))
  exact nx 5 Z (eX _ (oi h3).symm (gE Z Z))
 exact nx 2 Z (eXi _ (oi h1).symm (gE Z Z))
def jW (Em:Int):Option Bk :=(strconv_Itoa Em).bind λ r1=>some r1
theorem px (Em:Int)(r:Bk)(h0:jW Em=some r):aB Tryz.prog 155 [eI Em] (·=.p (eS r)):=by
 unfold jW at h0;refine aR good Tryz.func155 Z Z Z λ w0=>mP (λ v:Bk=>.p (eS v)) ?_;refine nx 7 Z (bd h0 λ r1 e2 h0=>?_);refine oK (gB Em _ e2) Z ⟨sr,trivial⟩ Tryz.call47 Z (nx 3 Z ?_);exact mQ (oi h0) Z (sr)
end Go.Ab.R06
end
section
namespace Go.Ab.R06
open Go.Ab Go.Ab.RB
section
variable {α β:Type} {P:α->Prop}
theorem ax {g:Nat->Nat->Option β}{k:Nat->Nat->β->Option α}(x:β)(h:Ev2 g (·=x))(hk:Ev2 (λ n m=>k n m x) P):Ev2 (λ n m=>(g n m).bind (k n m)) P :=
 aK (·=x) h λ y hy=>by subst hy; exact hk
end
def oy (p:Nat->Bool):Nat->Nat->Bool|_,0=>true|i,k+1=>p i&&oy p (i+1) k
theorem eqB {a b:Bool}(h:a=true↔b=true):a=b:=Bool.eq_iff_iff.2 h
end Go.Ab.R06
namespace Go.Ab.R06
open Go.Ab Go.Ab.RB Go.Lib
def oo:Int:=9007199254740992
end Go.Ab.R06
namespace Go.Ab.R06
open Go.Ab Go.Ab.RB Go.Lib
theorem Br (x:Int):IntKind.wrap .u8 x=x%256:=by simp [IntKind.wrap,IntKind.bits,IntKind.signed]
theorem t63:(List.range 256).all (λ n=>fJ .u8 (n:Int) 63==((n%64:Nat):Int))=true:=by kernel_rfl
theorem tab {f g:Nat->Int}{m:Nat}(h:(List.range m).all (λ n=>f n==g n)=true)(n:Nat)(hn:n<m):f n=g n:=eq_of_beq (List.all_eq_true.1 h n (List.mem_range.2 hn))
def zt (r:Int):Prop:=(0<=r/\r<55296)\/(57343<r/\r<=1114111)
theorem ci (l:Bk)(h:l≠[]):decodeGo (str l)=decodeL l:=by
 unfold decodeGo;rw [if_neg]
 ·rfl
 ·rw [kd]; intro q; exact h (List.length_eq_zero_iff.1 q)
theorem yo (l:Bk)(h:l≠[]):1<=(decodeL l).2/\(decodeL l).2<=l.length/\(¬ ((decodeL l).1=65533/\(decodeL l).2=1)->zt ((decodeL l).1:Int)/\encodeRune ((decodeL l).1:Int)=l.take (decodeL l).2):=by
 have hl:0<l.length:=List.length_pos_iff.2 h;have hd:=decN l.length (l.getD 0 0).toNat (l.getD 1 0).toNat (l.getD 2 0).toNat (l.getD 3 0).toNat O (UInt8.toNat_lt _);rw [<- decodeL_N] at hd;refine ⟨hd.1,hd.2.1,λ q=>⟨?_,encode_decode l h q⟩⟩;have:=hd.2.2.2.2.2;unfold zt; omega
theorem wC (l:Bk)(h:l≠[]):validD l=true↔¬ ((decodeL l).1=65533/\(decodeL l).2=1)/\validD (l.drop (decodeL l).2)=true:=by
 rw [validD_step l h];by_cases q:(decodeL l).1=65533/\(decodeL l).2=1
 ·simp [q]
 ·simp [q]
end Go.Ab.R06
namespace Go.Ab.R06
open Go.Ab Go.Ab.RB Go.Lib
theorem tU (f x:Bk)(h:f.length+x.length<=100000000000):aZ (aH.mk f) x=some ((x.length:Int),false,aH.mk (f++x)):=by
 unfold aZ dy;rw [Option.bind_some,fe (by simp only; omega)]
theorem vu (f:Bk)(b:UInt8)(h:f.length<=100000000000):bL (aH.mk f) (b.toNat:Int)=some (false,aH.mk (f++[b])):=by
 have:=b.toNat_lt;unfold bL dy;rw [Option.bind_some,fe O,fe (by simp; omega),Aa]
theorem bstr (f:Bk)(h:f.length<=1000000000000):eg (aH.mk f)=some (f,aH.mk f):=by
 unfold eg;rw [fe (by simp only; omega)]
def kC (b:UInt8):Bk :=if b.toNat=10 then [92,110] else if b.toNat=13 then [92,114] else if b.toNat=9 then [92,116] else if b.toNat=34\/b.toNat=92 then [92,b] else if b.toNat<32\/b.toNat=127 then [92,117,123]++fT b.toNat++[125] else [b]
def nw (s:Bk):Bk:=34::(s.flatMap kC++[34])
theorem Bw {b:UInt8}(h:b.toNat=10):kC b=[92,110]:=by unfold kC; rw [if_pos h]
theorem Bv {b:UInt8}(h:b.toNat=13):kC b=[92,114]:=by unfold kC; rw [if_neg O,if_pos h]
theorem BD {b:UInt8}(h:b.toNat=9):kC b=[92,116]:=by unfold kC; rw [if_neg O,if_neg O,if_pos h]
theorem Cy {b:UInt8}(h:b.toNat=34\/b.toNat=92):kC b=[92,b]:=by unfold kC; rw [if_neg O,if_neg O,if_neg O,if_pos h]
theorem Bt {b:UInt8}(h1:b.toNat≠10)(h2:b.toNat≠13)(h3:b.toNat≠9)(h:b.toNat<32\/b.toNat=127):kC b=[92,117,123]++fT b.toNat++[125]:=by
 unfold kC; rw [if_neg h1,if_neg h2,if_neg h3,if_neg O,if_pos h]
theorem Bp {b:UInt8}(h1:b.toNat≠34)(h2:b.toNat≠92)(h:¬ (b.toNat<32\/b.toNat=127)):kC b=[b]:=by
 unfold kC; rw [if_neg O,if_neg O,if_neg O,if_neg O,if_neg h]
theorem mA (n:Nat):1<=(fT n).length/\(fT n).length<=2:=by
 unfold fT; split <;> simp
theorem rO (b:UInt8):1<=(kC b).length/\(kC b).length<=6:=by
 have:=mA b.toNat;unfold kC
 repeat' split
 all_goals (simp; try omega)
theorem rA (s:Bk):s.length<=(s.flatMap kC).length/\(s.flatMap kC).length<=6*s.length:=by
 induction s with
 | nil=>simp
 | cons b r ih=>have:=rO b; simp only [List.flatMap_cons,bt,bx]; omega
theorem Ac (s:Bk)(hs:s.length<=1000000000):∀ (k i:Nat) (f:Bk),i+k=s.length->f.length<=6*i+1->Ev2 (λ _ m=>ew s m (i:Int) f) (·=f++(s.drop i).flatMap kC):=by
 intro k
 induction k with
 | zero=>
  intro i f hi hf;refine bD ?_;simp only [ew];refine aU O (ac ?_);rw [List.drop_of_length_le O]; simp
 | succ k ih=>
  intro i f hi hf;refine bD ?_;simp only [ew];refine aV O (al O ?_);have hb:byt s i=((s.getD i 0).toNat:Int):=oD s i;rw [hb]
  have hd:s.drop i=s.getD i 0::s.drop (i+1):=by
   rw [List.getD_eq_getElem?_getD,List.getElem?_eq_getElem O,ro];exact List.drop_eq_getElem_cons O
  rw [hd,List.flatMap_cons];generalize s.getD i 0=b;have hbl:=b.toNat_lt;have he:=rO b;refine ax (f++kC b) ?_ ?_
  ·refine ar (λ h1=>?_) (λ h1=>ar (λ h2=>?_) (λ h2=>ar (λ h3=>?_) (λ h3=>?_)))
   ·rw [Bw O];exact ax _ (cu (tU f [92,110] (by simp only [bx,d4]; omega)) rfl) (ac rfl)
   ·rw [Bv O];exact ax _ (cu (tU f [92,114] (by simp only [bx,d4]; omega)) rfl) (ac rfl)
   ·rw [BD O];exact ax _ (cu (tU f [92,116] (by simp only [bx,d4]; omega)) rfl) (ac rfl)
   refine ax (decide (b.toNat=34\/b.toNat=92)) ?_ ?_
   ·by_cases h:b.toNat=34
    ·exact aV O (ac (by simp [h]))
    ·exact aU O (ac (eqB (by rw [decide_eq_true_eq,decide_eq_true_eq]; omega)))
   by_cases h4:b.toNat=34\/b.toNat=92
   ·rw [Cy h4];refine aV (by simp [h4]) ?_;refine ax _ (cu (vu f 92 O) rfl) (ax _ (cu (vu (f++[92]) b (by simp only [bt,bx,d4]; omega)) rfl) (ac ?_));simp
   refine aU (by simp only [decide_eq_true_eq]; exact h4) ?_;refine ax (decide (b.toNat<32\/b.toNat=127)) ?_ ?_
   ·by_cases h:b.toNat<32
    ·exact aV O (ac (by simp [h]))
    ·exact aU O (ac (eqB (by rw [decide_eq_true_eq,decide_eq_true_eq]; omega)))
   by_cases h5:b.toNat<32\/b.toNat=127
   ·rw [Bt O O O h5];refine aV (by simp [h5]) (al (aM O O) ?_)
    have hx:gO (b.toNat:Int) 16=some (fT b.toNat):=by
     unfold gO;rw [fe ⟨Z,by omega,by omega⟩]; rfl
    have hxl:=mA b.toNat;refine ax _ (cu hx Z) (al (by simp only [bx,d4]; omega) (al (by simp only [bt,bx,d4]; omega) ?_));exact ax _ (cu (tU f _ (by simp only [bt,bx,d4]; omega)) Z) (ac G)
   ·rw [Bp O O  h5];refine aU (by simp only [decide_eq_true_eq]; exact h5) ?_;exact ax _ (cu (vu f b O) rfl) (ac rfl)
  ·refine al (aM O O) ?_;have:=ih (i+1) (f++kC b) O (by rw [bt]; omega);rw [Int.natCast_add,Int.natCast_one] at this;simpa using this
theorem uA (s:Bk)(hs:s.length<=1000000000):Ev2 (λ n _=>ig n s) (·=nw s):=by
 simp only [ig];have hf:=rA s;refine ax _ (cu (vu [] 34 G) rfl) ?_;have l:=Ac s hs s.length 0 [34] O G;rw [List.drop_zero] at l;refine ax _ (bp l) ?_;refine ax _ (cu (vu _ 34 (by simp only [bt,bx,d4]; omega)) rfl) (ax _ (cu (bstr _ (by simp only [bt,bx,d4]; omega)) rfl) (ac ?_));simp [nw]
end Go.Ab.R06
namespace Go.Ab.R06
open Go.Ab Go.Ab.RB Go.Lib
def hexs:Bk:=[48,49,50,51,52,53,54,55,56,57,97,98,99,100,101,102]
theorem BB {b:UInt8}{n:Nat}(hn:n<256):b.toNat=n↔b=UInt8.ofNat n:=by
 constructor
 ·intro h; apply UInt8.toNat_inj.1; rw [h,UInt8.toNat_ofNat']; omega
 ·intro h; rw [h,UInt8.toNat_ofNat']; omega
end Go.Ab.R06
namespace Go.Ab.R06
open Go.Ab Go.Ab.RB Go.Lib
def badR (c:Nat×Nat):Prop:=(c.1=65533/\c.2=1)\/c.1<32\/c.1=127
instance (c:Nat×Nat):Decidable (badR c):=inferInstanceAs (Decidable (_\/_))
theorem qM:∀ (k u:Nat),u<10^(k+1)->(decDigits u).length<=k+1:=by
 intro k
 induction k with
 | zero=>intro u h; rw [decDigits,dif_pos (by simpa using h)]; simp
 | succ k ih=>
  intro u h;rw [decDigits];split
  ·simp
  ·have:=ih (u / 10) (by rw [Nat.pow_succ] at h; omega);rw [bt]; simp; omega
end Go.Ab.R06
end
section
namespace Go.Ab.R06
open Go.Proofs Go.Ab Go.Ab.RB
attribute [local irreducible] awp iJ bw aB dh AV.sub M dQ
def ee (Dz:Bk)(DI:Int)(lo_2:Int)(hi_3:Int):Option Bool :=(if DI<(Dz.length:Int) then ck ((0:Int)<=DI/\DI<(Dz.length:Int))<|if lo_2<=byt Dz DI then ck ((0:Int)<=DI/\DI<(Dz.length:Int))<|some (decide (byt Dz DI<=hi_3))else some false else some false : Option Bool).bind λ t5=>some t5
theorem gL (Dz:Bk)(DI:Int)(lo_2:Int)(hi_3:Int)(r:Bool)(h0:ee Dz DI lo_2 hi_3=some r):aB Tryz.prog 198 [eS Dz,eI DI,eK .u8 lo_2,eK .u8 hi_3] (·=.p (eB r)):=by
 unfold ee at h0;refine aR good Tryz.func198 Z Z Z λ w0=>mP (λ v:Bool=>.p (eB v)) ?_;refine nx 5 Z (bd h0 λ o7 h1 h0=>?_);refine kN o7 (λ v8=>⟨[(8,.p (eB v8))],[]⟩) ?_ ?_
 ·exact nx 2 Z (mQ (oi h0) Z (sr))
 refine nx 3 Z (oLs Z ?_);refine nx 2 Z (fD [12,13] h1 Z (λ c1 h1=>?_) λ c1 h1=>?_)
 ·refine nx 2 Z (oI h1 Z λ EQ h1=>?_);refine nx 4 Z (fD [18,19,20] h1 Z (λ c3 h1=>?_) λ c3 h1=>?_)
  ·refine nx 2 Z (oI h1 Z λ G5 h1=>?_);exact nx 5 Z (eX _ (oi h1).symm (gE Z Z))
  exact nx 8 Z (eX _ (oi h1).symm (gE Z Z))
 exact nx 15 Z (eX _ (oi h1).symm (gE Z Z))
def jl (Dz:Bk)(DI:Int):Option (Int×Int) :=(if DI<0 then some true else some (decide ((Dz.length:Int)<=DI)) : Option Bool).bind λ t2=>if t2=true then some (0,0)else ck ((0:Int)<=DI/\DI<(Dz.length:Int))<|if byt Dz DI<128 then ck (inR (byt Dz DI))<|some (byt Dz DI,1)else(if 194<=byt Dz DI then if byt Dz DI<=223 then ck (inR (DI+1))<|(ee Dz (DI+1) 128 191).bind λ El=>some El else some false else some false : Option Bool).bind λ t12=>if t12=true then ck (inR (fJ .u8 (byt Dz DI) 31))<|ck ((0:Int)<=6)<|ck (inR (DI+1))<|ck ((0:Int)<=DI+1/\DI+1<(Dz.length:Int))<|ck (inR (fJ .u8 (byt Dz (DI+1)) 63))<|some (iOr .i64 (jg .i64 (fJ .u8 (byt Dz DI) 31) 6) (fJ .u8 (byt Dz (DI+1)) 63),2)else(if byt Dz DI=224 then some 160 else some 128 : Option Int).bind λ lo20=>(if byt Dz DI=237 then some 159 else some 191 : Option Int).bind λ hi22=>(if 224<=byt Dz DI then if byt Dz DI<=239 then ck (inR (DI+1))<|(ee Dz (DI+1) lo20 hi22).bind λ D4=>if D4=true then ck (inR (DI+2))<|(ee Dz (DI+2) 128 191).bind λ Is=>some Is else some false else some false else some false : Option Bool).bind λ t32=>if t32=true then ck (inR (fJ .u8 (byt Dz DI) 15))<|ck ((0:Int)<=12)<|ck (inR (DI+1))<|ck ((0:Int)<=DI+1/\DI+1<(Dz.length:Int))<|ck (inR (fJ .u8 (byt Dz (DI+1)) 63))<|ck ((0:Int)<=6)<|ck (inR (DI+2))<|ck ((0:Int)<=DI+2/\DI+2<(Dz.length:Int))<|ck (inR (fJ .u8 (byt Dz (DI+2)) 63))<|some (iOr .i64 (iOr .i64 (jg .i64 (fJ .u8 (byt Dz DI) 15) 12) (jg .i64 (fJ .u8 (byt Dz (DI+1)) 63) 6)) (fJ .u8 (byt Dz (DI+2)) 63),3)else(if byt Dz DI=240 then some 144 else some 128 : Option Int).bind λ lo44=>(if byt Dz DI=244 then some 143 else some 191 : Option Int).bind λ hi46=>(if 240<=byt Dz DI then if byt Dz DI<=244 then ck (inR (DI+1))<|(ee Dz (DI+1) lo44 hi46).bind λ Gw=>if Gw=true then ck (inR (DI+2))<|(ee Dz (DI+2) 128 191).bind λ Fx=>if Fx=true then ck (inR (DI+3))<|(ee Dz (DI+3) 128 191).bind λ Ea=>some Ea else some false else some false else some false else some false : Option Bool).bind λ t60=>if t60=true then ck (inR (fJ .u8 (byt Dz DI) 7))<|ck ((0:Int)<=18)<|ck (inR (DI+1))<|ck ((0:Int)<=DI+1/\DI+1<(Dz.length:Int))<|ck (inR (fJ .u8 (byt Dz (DI+1)) 63))<|ck ((0:Int)<=12)<|ck (inR (DI+2))<|ck ((0:Int)<=DI+2/\DI+2<(Dz.length:Int))<|ck (inR (fJ .u8 (byt Dz (DI+2)) 63))<|ck ((0:Int)<=6)<|ck (inR (DI+3))<|ck ((0:Int)<=DI+3/\DI+3<(Dz.length:Int))<|ck (inR (fJ .u8 (byt Dz (DI+3)) 63))<|some (iOr .i64 (iOr .i64 (iOr .i64 (jg .i64 (fJ .u8 (byt Dz DI) 7) 18) (jg .i64 (fJ .u8 (byt Dz (DI+1)) 63) 12)) (jg .i64 (fJ .u8 (byt Dz (DI+2)) 63) 6)) (fJ .u8 (byt Dz (DI+3)) 63),4)else some (0,0)
theorem qG (Dz:Bk)(DI:Int)(r:Int×Int)(h0:jl Dz DI=some r):aB Tryz.prog 185 [eS Dz,eI DI] (·=.tuple [.p (eI r.1),.p (eI r.2)]):=by
 unfold jl at h0;refine aR good Tryz.func185 Z Z Z λ w0=>mP (λ v:Int×Int=>.tuple [.p (eI v.1),.p (eI v.2)]) ?_;refine nx 7 Z (bd h0 λ o83 h1 h0=>?_);refine kN o83 (λ v84=>⟨[(0,.p (eS Dz)),(1,.p (eI DI)),(16,.p (eB v84))],[]⟩) ?_ ?_
 ·refine nx 1 Z (fB [16] h0 Z (λ c3 h0=>?_) λ c3 h0=>?_)
  ·exact nx 7 Z (mQ (oi h0) Z (cm ⟨sr,sr,trivial⟩))
  refine nx 6 Z (oI h0 Z λ G5 h0=>?_);refine nx 8 Z (fD [21] h0 Z (λ c5 h0=>?_) λ c5 h0=>?_)
  ·refine nx 4 Z (cc' h0 λ HE h0=>?_);refine mO Z (ez Z Z Z Z Z Z Z Z (ic HE) ?_);exact nx 4 Z (mQ (oi h0) Z (cm ⟨sr,sr,trivial⟩))
  refine nx 4 Z (bd h0 λ o85 h1 h0=>?_);refine kN o85 (λ v86=>⟨[(0,.p (eS Dz)),(1,.p (eI DI)),(6,.p (eK .u8 (byt Dz DI))),(35,.p (eB v86))],[]⟩) ?_ ?_
  ·refine nx 1 Z (fB [35] h0 Z (λ FI h0=>?_) λ FI h0=>?_)
   ·refine nx 5 Z (cc' h0 λ Fg h0=>?_);refine mO Z (ez Z Z Z Z Z Z Z Z (ic Fg) ?_);refine cc' h0 λ E8 h0=>mO Z (rS Z Z Z Z Z Z E8 ?_);refine nx 2 Z (oA h0 Z Z λ E3 h0=>?_);refine oI h0 Z λ FS h0=>nx 1 Z (cc' h0 λ Ff h0=>?_);refine mO Z (ez Z Z Z Z Z Z Z Z (ic Ff) ?_);exact nx 5 Z (mQ (oi h0) Z (cm ⟨sr,sr,trivial⟩))
   refine nx 8 Z (bd h0 λ JJ h1 h0=>?_);refine kN JJ (λ v88=>⟨[(0,.p (eS Dz)),(1,.p (eI DI)),(6,.p (eK .u8 (byt Dz DI))),(7,.p (eK .u8 v88)),(8,.p (eK .u8 191))],[]⟩) ?_ ?_
   ·refine nx 2 Z (bd h0 λ o89 h1 h0=>?_);refine kN o89 (λ v90=>⟨[(0,.p (eS Dz)),(1,.p (eI DI)),(6,.p (eK .u8 (byt Dz DI))),(7,.p (eK .u8 JJ)),(8,.p (eK .u8 v90))],[]⟩) ?_ ?_
    ·refine nx 3 Z (bd h0 λ o91 h1 h0=>?_);refine kN o91 (λ v92=>⟨[(0,.p (eS Dz)),(1,.p (eI DI)),(6,.p (eK .u8 (byt Dz DI))),(70,.p (eB v92))],[]⟩) ?_ ?_
     ·refine nx 1 Z (fB [70] h0 Z (λ c33 h0=>?_) λ c33 h0=>?_)
      ·refine nx 2 Z (cc' h0 λ Hq h0=>?_);refine cc' h0 λ GJ h0=>cc' h0 λ Gc h0=>cc' h0 λ Gb h0=>cc' h0 λ GI h0=>cc' h0 λ FN h0=>cc' h0 λ Ga h0=>cc' h0 λ J8 h0=>cc' h0 λ Hp h0=>mD [(0,.p (eS Dz)),(1,.p (eI DI)),(6,.p (eK .u8 (byt Dz DI)))] Z ⟨Z,Z,Z,trivial⟩ Z (dR 2 Z ?_);refine dq (.p (eI (fJ .u8 (byt Dz DI) 15))) [72] Z (λ _ e _ q=>ae Z (ez Z Z Z Z Z Z Z (e _ _ Z) (ic Hq) q)) Z (dq (.p (eI (jg .i64 (fJ .u8 (byt Dz DI) 15) 12))) [73] Z (λ _ e _ q=>ae Z (rS Z Z Z (e _ _ Z) Z Z GJ q)) Z ?_);refine dR 2 Z (dq (.p (eI (DI+1))) [76] Z (λ _ e _ q=>ae Z (oQ Z Z Z (e _ _ Z) Z Z Gc q)) Z ?_);refine dq (.p (eK .u8 (byt Dz (DI+1)))) [75,77] Z (λ _ e _ q=>ae Z (kF Z Z Z Z Z (e _ _ Z) (e _ _ Z) Gb q)) Z (dR 1 Z ?_);refine dq (.p (eI (fJ .u8 (byt Dz (DI+1)) 63))) [79] Z (λ _ e _ q=>ae Z (ez Z Z Z Z Z Z Z (e _ _ Z) (ic GI) q)) Z (dq (.p (eI (jg .i64 (fJ .u8 (byt Dz (DI+1)) 63) 6))) [80] Z (λ _ e _ q=>ae Z (rS Z Z Z (e _ _ Z) Z Z FN q)) Z ?_);refine dR 3 Z (dq (.p (eI (DI+2))) [84] Z (λ _ e _ q=>ae Z (oQ Z Z Z (e _ _ Z) Z Z Ga q)) Z ?_);refine dq (.p (eK .u8 (byt Dz (DI+2)))) [83,85] Z (λ _ e _ q=>ae Z (kF Z Z Z Z Z (e _ _ Z) (e _ _ Z) J8 q)) Z (dR 1 Z ?_);refine dq (.p (eI (fJ .u8 (byt Dz (DI+2)) 63))) [87] Z (λ _ e _ q=>ae Z (ez Z Z Z Z Z Z Z (e _ _ Z) (ic Hp) q)) Z (dR 3 Z ?_);refine dE Z (nx 2 Z ?_);exact mQ (oi h0) Z (cm ⟨sr,sr,trivial⟩)
      refine nx 8 Z (bd h0 λ o93 h1 h0=>?_);refine kN o93 (λ v94=>⟨[(0,.p (eS Dz)),(1,.p (eI DI)),(6,.p (eK .u8 (byt Dz DI))),(7,.p (eK .u8 v94)),(8,.p (eK .u8 191))],[]⟩) ?_ ?_
      ·refine nx 2 Z (bd h0 λ o95 h1 h0=>?_);refine kN o95 (λ v96=>⟨[(0,.p (eS Dz)),(1,.p (eI DI)),(6,.p (eK .u8 (byt Dz DI))),(7,.p (eK .u8 o93)),(8,.p (eK .u8 v96))],[]⟩) ?_ ?_
       ·refine nx 3 Z (bd h0 λ o97 h1 h0=>?_);refine kN o97 (λ v98=>⟨[(0,.p (eS Dz)),(1,.p (eI DI)),(6,.p (eK .u8 (byt Dz DI))),(119,.p (eB v98))],[]⟩) ?_ ?_
        ·refine nx 1 Z (fB [119] h0 Z (λ c61 h0=>?_) λ c61 h0=>?_)
         ·refine nx 2 Z (cc' h0 λ J5 h0=>?_);refine cc' h0 λ J4 h0=>cc' h0 λ HW h0=>cc' h0 λ J3 h0=>cc' h0 λ hk66 h0=>cc' h0 λ hk67 h0=>cc' h0 λ hk68 h0=>cc' h0 λ J2 h0=>cc' h0 λ J0 h0=>cc' h0 λ hk71 h0=>cc' h0 λ hk72 h0=>cc' h0 λ HV h0=>cc' h0 λ GG h0=>?_;refine mD [(0,.p (eS Dz)),(1,.p (eI DI)),(6,.p (eK .u8 (byt Dz DI)))] Z ⟨Z,Z,Z,trivial⟩ Z (dR 2 Z ?_);refine dq (.p (eI (fJ .u8 (byt Dz DI) 7))) [121] Z (λ _ e _ q=>ae Z (ez Z Z Z Z Z Z Z (e _ _ Z) (ic J5) q)) Z (dq (.p (eI (jg .i64 (fJ .u8 (byt Dz DI) 7) 18))) [122] Z (λ _ e _ q=>ae Z (rS Z Z Z (e _ _ Z) Z Z J4 q)) Z ?_);refine dR 2 Z (dq (.p (eI (DI+1))) [125] Z (λ _ e _ q=>ae Z (oQ Z Z Z (e _ _ Z) Z Z HW q)) Z ?_);refine dq (.p (eK .u8 (byt Dz (DI+1)))) [124,126] Z (λ _ e _ q=>ae Z (kF Z Z Z Z Z (e _ _ Z) (e _ _ Z) J3 q)) Z (dR 1 Z ?_);refine dq (.p (eI (fJ .u8 (byt Dz (DI+1)) 63))) [128] Z (λ _ e _ q=>ae Z (ez Z Z Z Z Z Z Z (e _ _ Z) (ic hk66) q)) Z (dq (.p (eI (jg .i64 (fJ .u8 (byt Dz (DI+1)) 63) 12))) [129] Z (λ _ e _ q=>ae Z (rS Z Z Z (e _ _ Z) Z Z hk67 q)) Z ?_);refine dR 3 Z (dq (.p (eI (DI+2))) [133] Z (λ _ e _ q=>ae Z (oQ Z Z Z (e _ _ Z) Z Z hk68 q)) Z ?_);refine dq (.p (eK .u8 (byt Dz (DI+2)))) [132,134] Z (λ _ e _ q=>ae Z (kF Z Z Z Z Z (e _ _ Z) (e _ _ Z) J2 q)) Z (dR 1 Z ?_);refine dq (.p (eI (fJ .u8 (byt Dz (DI+2)) 63))) [136] Z (λ _ e _ q=>ae Z (ez Z Z Z Z Z Z Z (e _ _ Z) (ic J0) q)) Z (dq (.p (eI (jg .i64 (fJ .u8 (byt Dz (DI+2)) 63) 6))) [137] Z (λ _ e _ q=>ae Z (rS Z Z Z (e _ _ Z) Z Z hk71 q)) Z ?_);refine dR 3 Z (dq (.p (eI (DI+3))) [141] Z (λ _ e _ q=>ae Z (oQ Z Z Z (e _ _ Z) Z Z hk72 q)) Z ?_);refine dq (.p (eK .u8 (byt Dz (DI+3)))) [140,142] Z (λ _ e _ q=>ae Z (kF Z Z Z Z Z (e _ _ Z) (e _ _ Z) HV q)) Z (dR 1 Z ?_);refine dq (.p (eI (fJ .u8 (byt Dz (DI+3)) 63))) [144] Z (λ _ e _ q=>ae Z (ez Z Z Z Z Z Z Z (e _ _ Z) (ic GG) q)) Z (dR 3 Z ?_);refine dE Z (nx 1 Z ?_);refine mG (gE (t:=⟨[(4,.p (eI (iOr .i64 (iOr .i64 (iOr .i64 (jg .i64 (fJ .u8 (byt Dz DI) 7) 18) (jg .i64 (fJ .u8 (byt Dz (DI+1)) 63) 12)) (jg .i64 (fJ .u8 (byt Dz (DI+2)) 63) 6)) (fJ .u8 (byt Dz (DI+3)) 63)))),(5,.p (eI 4))],[]⟩) Z Z) (nx 1 Z ?_);exact mQ (oi h0) Z (cm ⟨sr,sr,trivial⟩)
         exact nx 8 Z (mQ (oi h0) Z (cm ⟨sr,sr,trivial⟩))
        refine nx 4 Z (fD [95,96] h1 Z (λ Ki h1=>?_) λ Ki h1=>?_)
        ·refine nx 4 Z (fD [98,99,100] h1 Z (λ c48 h1=>?_) λ c48 h1=>?_)
         ·refine nx 2 Z (oA h1 Z Z λ IL h1=>?_);refine nx 2 Z (bd h1 λ Gw e51 h1=>?_);refine oK (gL Dz (DI+1) o93 o95 _ e51) Z ⟨sr,sr,sr,sr,trivial⟩ Tryz.call198 Z (nx 2 Z ?_);refine fB [106,107,108] h1 Z (λ c52 h1=>?_) λ c52 h1=>?_
          ·refine nx 2 Z (oA h1 Z Z λ F8 h1=>?_);refine bd h1 λ Fx J9 h1=>oK (gL Dz (DI+2) 128 191 _ J9) Z ⟨sr,sr,sr,sr,trivial⟩ Tryz.call198 Z (nx 2 Z ?_);refine fB [112,113,114] h1 Z (λ Kh h1=>?_) λ Kh h1=>?_
           ·refine nx 2 Z (oA h1 Z Z λ HX h1=>?_);refine bd h1 λ Ea e59 h1=>oK (gL Dz (DI+3) 128 191 _ e59) Z ⟨sr,sr,sr,sr,trivial⟩ Tryz.call198 Z (nx 2 Z ?_);exact eX _ (oi h1).symm (gE Z Z)
           exact nx 6 Z (eX _ (oi h1).symm (gE Z Z))
          exact nx 12 Z (eX _ (oi h1).symm (gE Z Z))
         exact nx 20 Z (eX _ (oi h1).symm (gE Z Z))
        exact nx 24 Z (eX _ (oi h1).symm (gE Z Z))
       refine nx 5 Z (fD [93] h1 Z (λ c45 h1=>?_) λ c45 h1=>?_)
       ·exact nx 4 Z (eX _ (oi h1).symm (gE Z Z))
       exact nx 2 Z (eX _ (oi h1).symm (gE Z Z))
      refine nx 5 Z (fD [91] h1 Z (λ c43 h1=>?_) λ c43 h1=>?_)
      ·exact nx 4 Z (eX _ (oi h1).symm (gE Z Z))
      exact nx 2 Z (eX _ (oi h1).symm (gE Z Z))
     refine nx 4 Z (fD [52,53] h1 Z (λ FB h1=>?_) λ FB h1=>?_)
     ·refine nx 4 Z (fD [55,56,57] h1 Z (λ Hu h1=>?_) λ Hu h1=>?_)
      ·refine nx 2 Z (oA h1 Z Z λ FP h1=>?_);refine nx 2 Z (bd h1 λ D4 GT h1=>?_);refine oK (gL Dz (DI+1) JJ o89 _ GT) Z ⟨sr,sr,sr,sr,trivial⟩ Tryz.call198 Z (nx 2 Z ?_);refine fB [63,64,65] h1 Z (λ Ht h1=>?_) λ Ht h1=>?_
       ·refine nx 2 Z (oA h1 Z Z λ IN h1=>?_);refine bd h1 λ Is e31 h1=>oK (gL Dz (DI+2) 128 191 _ e31) Z ⟨sr,sr,sr,sr,trivial⟩ Tryz.call198 Z (nx 2 Z ?_);exact eX _ (oi h1).symm (gE Z Z)
       exact nx 6 Z (eX _ (oi h1).symm (gE Z Z))
      exact nx 14 Z (eX _ (oi h1).symm (gE Z Z))
     exact nx 18 Z (eX _ (oi h1).symm (gE Z Z))
    refine nx 5 Z (fD [50] h1 Z (λ Hv h1=>?_) λ Hv h1=>?_)
    ·exact nx 4 Z (eX _ (oi h1).symm (gE Z Z))
    exact nx 2 Z (eX _ (oi h1).symm (gE Z Z))
   refine nx 5 Z (fD [48] h1 Z (λ FW h1=>?_) λ FW h1=>?_)
   ·exact nx 4 Z (eX _ (oi h1).symm (gE Z Z))
   exact nx 2 Z (eX _ (oi h1).symm (gE Z Z))
  refine nx 4 Z (fD [25,26] h1 Z (λ c7 h1=>?_) λ c7 h1=>?_)
  ·refine nx 4 Z (fD [28,29,30] h1 Z (λ c8 h1=>?_) λ c8 h1=>?_)
   ·refine nx 2 Z (oA h1 Z Z λ HU h1=>?_);refine bd h1 λ El Gt h1=>oK (gL Dz (DI+1) 128 191 _ Gt) Z ⟨sr,sr,sr,sr,trivial⟩ Tryz.call198 Z (nx 2 Z ?_);exact eX _ (oi h1).symm (gE Z Z)
   exact nx 6 Z (eX _ (oi h1).symm (gE Z Z))
  exact nx 10 Z (eX _ (oi h1).symm (gE Z Z))
 refine nx 4 Z (fD [10,11] h1 Z (λ c1 h1=>?_) λ c1 h1=>?_)
 ·exact nx 6 Z (eX _ (oi h1).symm (gE Z Z))
 refine nx 2 Z (oLs Z ?_);exact nx 3 Z (eX _ (oi h1).symm (gE Z Z))
def fy (Dz:Bk):Nat->Int->Option (Unit⊕Bool)|0,_=>none|m+1,i8=>if i8<(Dz.length:Int) then(jl Dz i8).bind λ El=>if El.2=0 then some (.inr false)else ck (inR (i8+El.2))<|fy Dz m (i8+El.2)else some (.inl ())
def kb (n:Nat)(Dz:Bk):Option Bool :=if 4096<(Dz.length:Int) then some false else jn (fy Dz n 0) λ _Gq=>some true
theorem rm (n:Nat)(Dz:Bk)(r:Bool)(h0:kb n Dz=some r):aB Tryz.prog 159 [eS Dz] (·=.p (eB r)):=by
 unfold kb at h0;refine aR good Tryz.func159 Z Z Z λ w0=>mP (λ v:Bool=>.p (eB v)) ?_;refine nx 8 Z (oLs Z ?_);refine nx 2 Z (fD [8] h0 Z (λ c1 h0=>?_) λ c1 h0=>?_)
 ·exact nx 6 Z (mQ (oi h0) Z (sr))
 refine nx 8 rfl ?_;obtain ⟨Gr,h1,Eg,hR0⟩:=fj h0;refine kEx 0 (λ FJ:Unit=>Gr=.inl FJ) (λ FJ=>⟨[],[]⟩) (λ FJ hv=>?_) ?_
 ·have h0:=Eg _ hv;exact nx 6 Z (mQ (oi h0) Z (sr))
 refine lG (λ (Hc:Int)=>⟨[(0,.p (eS Dz)),(3,.p (eI Hc))],[]⟩) (λ m (Hc:Int)=>fy Dz m Hc) Y 0 h1 (gE rfl rfl) ?_;rintro m i8 h1;replace h1:fy Dz (m+1) i8=some Gr:=h1;rw [fy] at h1;refine nx 5 rfl (oLs rfl ?_);refine nx 2 rfl (fD [12] h1 rfl (λ c9 h1=>?_) λ c9 h1=>?_)
 ·refine nx 7 Z (bd h1 λ El Gt h1=>?_);refine oK (qG Dz i8 _ Gt) Z ⟨sr,sr,trivial⟩ Tryz.call185 Z (nx 12 Z ?_);refine fD [20] h1 Z (λ F4 h1=>?_) λ F4 h1=>?_
  ·exact nx 6 Z (mQ (hR0 _ (oi h1).symm) Z (sr))
  refine nx 5 Z (oA h1 Z Z λ Gf h1=>?_);exact nx 2 Z (eX (i8+El.2) h1 (gE Z Z))
 exact nx 2 Z (eXi _ (oi h1).symm (gE Z Z))
def lj (Em:Int):Option Bool :=(if (-9007199254740992)<=Em then some (decide (Em<=9007199254740992))else some false : Option Bool).bind λ t2=>some t2
theorem rr (Em:Int)(r:Bool)(h0:lj Em=some r):aB Tryz.prog 133 [eI Em] (·=.p (eB r)):=by
 unfold lj at h0;refine aR good Tryz.func133 Z Z Z λ w0=>mP (λ v:Bool=>.p (eB v)) ?_;refine nx 5 Z (bd h0 λ o4 h1 h0=>?_);refine kN o4 (λ v5=>⟨[(2,.p (eB v5))],[]⟩) ?_ ?_
 ·exact nx 2 Z (mQ (oi h0) Z (sr))
 refine nx 4 Z (fD [4,5] h1 Z (λ c1 h1=>?_) λ c1 h1=>?_)
 ·exact nx 5 Z (eX _ (oi h1).symm (gE Z Z))
 exact nx 5 Z (eX _ (oi h1).symm (gE Z Z))
end Go.Ab.R06
end
