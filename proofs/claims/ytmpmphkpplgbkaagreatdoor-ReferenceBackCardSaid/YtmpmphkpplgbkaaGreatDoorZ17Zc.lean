/- Texts of the proof, one behind the other. No statement is proved here. -/
import Derived.WalkKit
import Derived.Lib.Builder
import Derived.Lib.UnsafeStr
import Derived.Laws.Externs
import Derived.Shelf.RegionOpenPlain
import Derived.Below
import Derived.Lib.LaidTab
import Derived.Shelf.LaysM
import Derived.Shelf.Strconv.Itoa3
import Derived.Shelf.Lays
import Derived.Shelf.Small.Utf8
import Derived.Shelf.Small.Strs
import Derived.Shelf.Strings.Prefix
import Derived.Shelf.LaysC
import Derived.Shelf.Strconv.ParseIntPublic10
import Derived.Shelf.Unicode.DecodeAny
import Derived.Shelf.Unicode.ValidAny
import Derived.Test.YtmpmphkpplgbkaaGreatDoorProg
import Derived.Lib.AppendIntMem
import Derived.Deep.LoopGhost
import Derived.Laws.Runes
import Derived.Scope
import Derived.Deep.QuietTactic
import Derived.BigQuiet
import Derived.Laws.RangeString
import Derived.Lib.IndexAny
import Derived.Lib.TrimU
import Derived.MapKept
import Derived.Lib.AppendZeros
import Derived.Lib.OthersKept
import Derived.Defers
import Derived.Test.YtmpmphkpplgbkaaGreatDoorZ17Za
import Derived.Test.YtmpmphkpplgbkaaGreatDoorZ17Zb
set_option maxHeartbeats 4000000
section
namespace Go.Ab
open Go.Proofs Go.RowKit Go
structure cw where
 HW:Bytes
def gb (b:cw):Option cw:=some b
def fu (b:cw):Option (Bytes×cw):=ck (b.HW.length<=9223372036854775807) <| some (b.HW,b)
theorem FK:∃ j,Tryz.prog.info? 178=some j/\j.size=2:=by
 have h:(Tryz.prog.info? 178).map (·.size)=some 2:=by kernel_rfl
 obtain ⟨j,hj,hs⟩:=ph.1 h;exact ⟨j,hj,hs⟩
set_option maxRecDepth 100000 in
theorem tq (b:Nat)(w:World)(h0:w.cell? ⟨b,0,none⟩=some (.pointer (some ⟨b,0,none⟩))) :
  Calls Tryz.prog 161 #[.pointer (some ⟨b,0,none⟩)] w λ e w'=>e=.returned (.tuple #[])/\w'=w:=by
 obtain ⟨j,hj,_⟩:=FK
 go_enter Tryz.func161,Tryz.ntmps161
 go_wp2
 rw [Lib.run_neq_ptr_same w _ Tryz.underlying176 hj]
 go_wp2
 go_end0
 exact ⟨Z,Z⟩
set_option maxRecDepth 100000 in
theorem sF (b:Nat)(w:World)(h0:w.cell? ⟨b,0,none⟩=some (.pointer none))(hsh:w.shape? b=some (178,2))(hfz:w.frozen? ⟨b,0,none⟩=false) :
  Calls Tryz.prog 161 #[.pointer (some ⟨b,0,none⟩)] w λ e w'=>e=.returned (.tuple #[])/\w'=w.setCell ⟨b,0,none⟩ (.pointer (some ⟨b,0,none⟩)):=by
 obtain ⟨j,hj,hjs⟩:=FK
 go_enter Tryz.func161,Tryz.ntmps161
 go_wp2
 rw [Lib.run_to_unsafe w ⟨b,0,none⟩ Tryz.underlying176 Tryz.underlying197 hj (by rw [hjs]; decide) hsh (Nat.zero_lt_succ 1)];simp only [Result.andThen];rw [Oper.upon_value]
 go_wp2
 rw [run_callFunc_extern Tryz.func169 (by kernel_rfl) (by kernel_rfl) (by kernel_rfl) (e:=Extern.AbiNoEscape.same) (by kernel_rfl)];rw [Lib.run_noEscape];simp only [Result.andThen];rw [Oper.upon_value]
 go_wp2
 rw [Lib.run_from_unsafe w ⟨b,0,none⟩ Tryz.underlying197 Tryz.underlying176 hj hsh (by kernel_rfl)];simp only [Result.andThen];rw [Oper.upon_value]
 go_wp2
 go_end0
 exact ⟨Z,Z⟩
structure zS (b:Nat)(w w':World):Prop where
 os:w'.os=w.os
 out:w'.output=w.output
 tape:w'.tape=w.tape
 size:w'.heap.size=w.heap.size
 other:∀ k,k≠b->w'.heap[k]? = w.heap[k]?
def back (i:Nat):Option Nat:=if i=900000 then some 2000000 else if i=1000000 then some 1000000 else none
def ghB (g:Gh):Gh:=⟨g.st,λ i=>if i=2000000 then g.ow 900000 else if M1<=i/\i < 2*M1 then g.ow i else none⟩
theorem ws {g:Gh}{i b:Nat}(h:(ghB g).ow i=some b):(i=2000000/\g.ow 900000=some b)\/(M1<=i/\i < 2*M1/\g.ow i=some b):=by
 simp only [ghB] at h;split at h
 ·exact .inl ⟨‹_›,h⟩
 ·split at h
  ·rename_i h1; exact .inr ⟨h1.1,h1.2,h⟩
  ·cases h
theorem ym {g:Gh}:∀ i j b,back i=some j->g.ow i=some b->(ghB g).ow j=some b:=by
 intro i j b h hb;unfold back at h;split at h
 ·cases h; subst_vars; simp only [ghB,if_true]; exact hb
 ·split at h
  ·cases h; subst_vars
   simp only [ghB];rw [if_neg (by decide),if_pos (by decide)]; exact hb
  ·cases h
theorem AP {w w':World}{g:Gh}{b:Nat}(hok:Ok0 w g.st)(hown:∀ i b,g.ow i=some b->b < w.heap.size/\i < 2*M1)
  (hinj:∀ i j b,g.ow i=some b->g.ow j=some b->i=j) (hnst:∀ i b,M1<=i->g.ow i=some b->∀ o,¬ g.st b o)
  (hb:g.ow 1000000=some b) (h:zS b w w')
  (hsh:∀ (c:Array Value) (e:TypeId),w.heap[b]? = some (.cells c e (0,0))->∃ c':Array Value,w'.heap[b]? = some (.cells c' e (0,0))/\c'.size=c.size):nE w g w' (ghB g):=by
 have hbs:∀ o,¬ g.st b o:=hnst _ b (n6 _) hb
 have Ij:Ev w g.st w' g.st:=λ k o hk=>⟨hk,by
  have:k≠b:=λ e=>hbs o (e ▸ hk)
  simp only [World.cell?,h.other k this]⟩
 refine ⟨h.os,h.out,h.tape,by rw [h.size]; exact n6 _,λ k hk hno=>h.other k (λ e=>hno 1000000 (e ▸ hb)),λ i k hi=>?_,λ i j k hi hj=>?_,λ k o hk=>by rw [h.size]; exact hok.lt k o hk,λ k hk _ o=>Iff.rfl,λ i h1 h2=>?_,λ i k c e h1 h2 h3=>?_,λ i k hi hk o=>hnst i k hi hk o,Ij⟩
 ·rcases ws hi with ⟨_,h1⟩ | ⟨_,_,h1⟩
  ·exact ⟨by rw [h.size]; exact (hown _ _ h1).1,.inr ⟨_,h1⟩⟩
  ·exact ⟨by rw [h.size]; exact (hown _ _ h1).1,.inr ⟨_,h1⟩⟩
 ·rcases ws hi with ⟨e1,h1⟩ | ⟨a1,a2,h1⟩ <;> rcases ws hj with ⟨e2,h2⟩ | ⟨b1,b2,h2⟩
  ·omega
  ·have:=hinj _ _ _ h1 h2; unfold M1 at *; omega
  ·have:=hinj _ _ _ h1 h2; unfold M1 at *; omega
  ·exact hinj _ _ _ h1 h2
 ·simp only [ghB];rw [if_neg (by unfold M1 at *; omega),if_pos ⟨h1,h2⟩]
 ·by_cases e1:k=b
  ·subst e1; exact hsh c e h3
  ·exact ⟨c,(h.other k e1).trans h3,Z⟩
theorem HO {w w':World}{g:Gh}{b:Nat}(hbs:∀ o,¬ g.st b o)(h:zS b w w')(hc:∃ c e,w.heap[b]? = some (.cells c e (0,0)))
  (hsh:∀ (c:Array Value) (e:TypeId),w.heap[b]? = some (.cells c e (0,0))->∃ c':Array Value,w'.heap[b]? = some (.cells c' e (0,0))/\c'.size=c.size):EvO (λ _=>false) w g w' g:=by
 refine ⟨λ k o hk=>⟨hk,?_⟩,λ _ _ _ h=>h,λ id k c e _ _ hk=>?_,λ _ _ _ _ _ h=>h,λ id k es k' _ _ hk=>(h.other k (λ e=>by subst e; obtain ⟨c,t,hc⟩:=hc; rw [hc] at hk; cases hk)).trans hk,λ _ _=>rfl,λ id k o _ _ ho=>h.other k (λ e=>hbs o (e ▸ ho))⟩
 ·have:k≠b:=λ e=>hbs o (e ▸ hk);simp only [World.cell?,h.other k this]
 ·by_cases e1:k=b
  ·subst e1; exact hsh c e hk
  ·exact ⟨c,(h.other k e1).trans hk,Z⟩
theorem Cm {w:World}{g:Gh}{es:List PV}{vs:Array Value}{T ty:Nat}(Ia:vs.size=1)
  (hargs:∀ (i:Nat) c v,[AV.ptr 1000000 0][i]? = some c->vs[i]? = some v->ARep w g c v)
  (hobs:∀ id cs,look [(1000000,[AV.bptr T 2 1000000,AV.vec 900000 1 ty es])] id=some cs->iB w g id cs) :
  ∃ b p q,g.ow 1000000=some b/\vs=#[.pointer (some ⟨b,0,none⟩)]/\w.heap[b]? = some (.cells #[p,q] T (0,0))/\(∀ o,¬ g.st b o) /\
   (p=.pointer none\/p=.pointer (some ⟨b,0,none⟩))/\ARep w g (.vec 900000 1 ty es) q:=by
 obtain ⟨b,c,e,h1,h2,h3,h4,h5⟩:=hobs 1000000 _ rfl;obtain ⟨p,hp,hpr⟩:=h5 0 _ rfl;obtain ⟨q,hq,hqr⟩:=h5 1 _ rfl;have hv0:vs[0]? = some vs[0]:=Array.getElem?_eq_getElem O;have ha:=hargs 0 _ _ rfl hv0
 have hvs:vs=#[vs[0]]:=by
  apply Array.ext
  ·simp [Ia]
  ·intro i h1 h2;have:i=0:=by omega
   subst this; rfl
 have hc:∀ c1:Array Value,c1=c->c1.size=2->c=#[p,q]:=by
  rintro c1 rfl h;apply Array.ext
  ·simp [h]
  ·intro i k1 k2
   match i,k2 with
   | 0,_=>rw [Array.getElem?_eq_getElem k1] at hp; simpa using hp
   | 1,_=>rw [Array.getElem?_eq_getElem k1] at hq; simpa using hq
 have hav:vs[0]=.pointer (some ⟨b,0,none⟩):=by
  generalize vs[0]=v at ha
  cases ha with
  | ptr how=>rw [h1] at how; cases how; rfl
 refine ⟨b,p,q,h1,by rw [hvs,hav],?_,h4,?_,hqr⟩
 ·cases hpr with
  | bptrn how hb Il=>rw [h1] at how; cases how; rw [h2] at hb; cases hb; rw [h2,hc _ rfl Il]
  | bptr how hb Il=>rw [h1] at how; cases how; rw [h2] at hb; cases hb; rw [h2,hc _ rfl Il]
 ·cases hpr with
  | bptrn how hb Il=>exact .inl Z
  | bptr how hb Il=>rw [h1] at how; cases how; exact .inr rfl
theorem ob_B {w':World}{g:Gh}{es:List PV}{T ty b:Nat}{p q:Value}(hb:g.ow 1000000=some b)(h4:∀ o,¬ g.st b o)(h:w'.heap[b]? = some (.cells #[p,q] T (0,0)))
  (hp:p=.pointer none\/p=.pointer (some ⟨b,0,none⟩)) (hq:ARep w' g (.vec 900000 1 ty es) q):iB w' (ghB g) 1000000 [.bptr T 2 1000000,.vec 2000000 1 ty es]:=by
 have how:(ghB g).ow 1000000=some b:=ym 1000000 1000000 b Z hb;refine ⟨b,#[p,q],T,how,h,by simp,h4,λ i x hx=>?_⟩
 match i,hx with
 | 0,hx =>
  simp only [List.getElem?_cons_zero,bt] at hx; subst hx;refine ⟨p,rfl,?_⟩;rcases hp with rfl | rfl
  ·exact .bptrn how h Z
  ·exact .bptr how h Z
 | 1,hx =>
  simp only [List.getElem?_cons_succ,List.getElem?_cons_zero,bt] at hx; subst hx;exact ⟨q,rfl,ln (m:=back) (g:=g) (g':=ghB g) rfl ym hq rfl⟩
 | n+2,hx=>simp at hx
theorem lH (b_0:cw)(r:cw)(h0:gb b_0=some r):aV Tryz.prog 161 [.ptr 1000000 0] [(1000000,[.bptr 178 2 1000000,.vec 900000 1 (5+1) (b_0.HW.map eU)])]
  (λ x y=>x=.tuple []/\y=[(1000000,[.bptr 178 2 1000000,.vec 2000000 1 (5+1) (r.HW.map eU)])]):=by
 cases h0
 intro w g vs hok hown hinj hnst Ia hargs hobs;obtain ⟨b,p,q,hb,rfl,hheap,hbs,hp,hq⟩:=Cm Ia hargs hobs;have hc0:w.cell? ⟨b,0,none⟩=some p:=by simp [World.cell?,hheap]
 rcases hp with rfl | rfl
 ·refine (sF b w hc0 (by simp [World.shape?,hheap]) (by simp [World.frozen?,hheap])).mono ?_;rintro e w' ⟨rfl,rfl⟩;have hO:zS b w (w.setCell ⟨b,0,none⟩ (.pointer (some ⟨b,0,none⟩))):=⟨rfl,rfl,rfl,by simp [World.setCell],λ k hk=>Below.heap_setCell _ _ _ _ hk⟩
  have hheap':(w.setCell ⟨b,0,none⟩ (.pointer (some ⟨b,0,none⟩))).heap[b]? = some (.cells #[.pointer (some ⟨b,0,none⟩),q] 178 (0,0)):=by
   simp [World.setCell,Array.getElem?_modify,hheap]
  have hsh:∀ (c:Array Value) (e:TypeId),w.heap[b]? = some (.cells c e (0,0))->∃ c':Array Value,(w.setCell ⟨b,0,none⟩ (.pointer (some ⟨b,0,none⟩))).heap[b]? = some (.cells c' e (0,0))/\c'.size=c.size:=λ c e h=>by
   rw [hheap] at h; cases h; exact ⟨_,hheap',rfl⟩
  refine ⟨_,_,_,ghB g,Z,⟨Z,Z⟩,.tuple Z G,λ x hx=>?_,AP hok hown hinj hnst hb hO hsh⟩;simp only [List.mem_singleton] at hx; subst hx;exact ob_B hb hbs hheap' (.inr Z) (hq.mono (HO hbs hO ⟨_,_,hheap⟩ hsh))
 ·refine (tq b w hc0).mono ?_;rintro e w' ⟨rfl,rfl⟩;have hO:zS b w' w':=⟨rfl,rfl,rfl,rfl,λ k hk=>rfl⟩
  refine ⟨_,_,_,ghB g,Z,⟨Z,Z⟩,.tuple Z G,λ x hx=>?_,AP hok hown hinj hnst hb hO (λ c e h=>⟨c,h,Z⟩)⟩;simp only [List.mem_singleton] at hx; subst hx;exact ob_B hb hbs hheap (.inr Z) hq
theorem ww:Tryz.prog.follows .mixedOrders=true:=by kernel_rfl
theorem qu (w:World):Below w.heap.size w w.drew:=Below.drew (Below.refl _ w)
set_option maxRecDepth 100000 in
theorem zc (b:Nat)(p:Value)(w:World)(hbk:w.heap[b]? = some (.cells #[p,.slice none 0 0] 178 (0,0))) :
  Calls Tryz.prog 155 #[.pointer (some ⟨b,0,none⟩)] w λ e w'=>e=.returned (.string ⟨#[]⟩)/\Below w.heap.size w w':=by
 have mixed:=ww;have hUS:∀ (W:World) (q:Option Addr),(Builtin.unsafeString_ #[170,3] 9 #[.pointer q,.int .i64 0]).run Tryz.prog W=.ok (.string .empty) W:=λ W q=>Lib.run_unsafeString_none W _ _ _ q
 have c1:w.drew.cell? ⟨b,1,none⟩=some (.slice none 0 0):=by
  have:w.drew.heap[b]? = some (.cells #[p,.slice none 0 0] 178 (0,0)):=hbk;rw [Lib.cell_of_heap this]; rfl
 have hSD:(Builtin.unsafeSliceData_ #[162] 170 #[.slice none 0 0]).run Tryz.prog w.drew=.ok (.pointer none) w.drew:=rfl
 go_enter Tryz.func155,Tryz.ntmps155
 go_wp2
 go_region_o
 all_goals (go_wp2; go_ret; exact ⟨Z,qu w⟩)
set_option maxRecDepth 100000 in
theorem xG (b g cap:Nat)(p:Value)(w:World)(hc0:cap≠0)(hbk:w.heap[b]? = some (.cells #[p,.slice (some ⟨g,0,none⟩) 0 cap] 178 (0,0))) :
  Calls Tryz.prog 155 #[.pointer (some ⟨b,0,none⟩)] w λ e w'=>e=.returned (.string ⟨#[]⟩)/\Below w.heap.size w w':=by
 have mixed:=ww;have hUS:∀ (W:World) (q:Option Addr),(Builtin.unsafeString_ #[170,3] 9 #[.pointer q,.int .i64 0]).run Tryz.prog W=.ok (.string .empty) W:=λ W q=>Lib.run_unsafeString_none W _ _ _ q
 have c1:w.drew.cell? ⟨b,1,none⟩=some (.slice (some ⟨g,0,none⟩) 0 cap):=by
  have:w.drew.heap[b]? = some (.cells #[p,.slice (some ⟨g,0,none⟩) 0 cap] 178 (0,0)):=hbk;rw [Lib.cell_of_heap this]; rfl
 have hSD:(Builtin.unsafeSliceData_ #[162] 170 #[.slice (some ⟨g,0,none⟩) 0 cap]).run Tryz.prog w.drew=.ok (.pointer (some ⟨g,0,none⟩)) w.drew:=Lib.run_unsafeSliceData_row _ _ _ _ _ _ hc0
 clear hc0
 go_enter Tryz.func155,Tryz.ntmps155
 go_wp2
 go_region_o
 all_goals (go_wp2; go_ret; exact ⟨Z,qu w⟩)
set_option maxRecDepth 100000 in
theorem vd (b g:Nat)(p:Value)(cur:Array Value)(w:World)(hbk:w.heap[b]? = some (.cells #[p,.slice (some ⟨g,0,none⟩) 0 0] 178 (0,0)))(hg:w.heap[g]? = some (.cells cur 5 (0,0))) :
  Calls Tryz.prog 155 #[.pointer (some ⟨b,0,none⟩)] w λ e w'=>e=.returned (.string ⟨#[]⟩)/\Below w.heap.size w w':=by
 have mixed:=ww;have hUS:∀ (W:World) (q:Option Addr),(Builtin.unsafeString_ #[170,3] 9 #[.pointer q,.int .i64 0]).run Tryz.prog W=.ok (.string .empty) W:=λ W q=>Lib.run_unsafeString_none W _ _ _ q
 have hlt:b < w.heap.size:=by
  rcases Nat.lt_or_ge b w.heap.size with h' | h'
  ·exact h'
  ·simp [Array.getElem?_eq_none h'] at hbk
 have c1:w.drew.cell? ⟨b,1,none⟩=some (.slice (some ⟨g,0,none⟩) 0 0):=by
  have:w.drew.heap[b]? = some (.cells #[p,.slice (some ⟨g,0,none⟩) 0 0] 178 (0,0)):=hbk;rw [Lib.cell_of_heap this]; rfl
 have hSD:(Builtin.unsafeSliceData_ #[162] 170 #[.slice (some ⟨g,0,none⟩) 0 0]).run Tryz.prog w.drew=.ok (.pointer (some ⟨w.drew.heap.size,0,none⟩)) (w.drew.alloc (.view ⟨g,0,none⟩ 5)) :=
  Lib.run_unsafeSliceData_zero w.drew _ _ 5 Tryz.underlying170 ⟨g,0,none⟩ 0 (5,cur.size) (by have hg':w.drew.heap[g]? = some (.cells cur 5 (0,0)):=hg; simp [World.shape?,hg'])
 have c2:(w.drew.alloc (.view ⟨g,0,none⟩ 5)).cell? ⟨b,1,none⟩=some (.slice (some ⟨g,0,none⟩) 0 0):=by
  have:(w.drew.alloc (.view ⟨g,0,none⟩ 5)).heap[b]? = _:=(Lib.alloc_old w.drew _ b hlt).trans hbk;rw [Lib.cell_of_heap this]; rfl
 have c3:(w.alloc (.view ⟨g,0,none⟩ 5)).drew.cell? ⟨b,1,none⟩=some (.slice (some ⟨g,0,none⟩) 0 0):=c2;have c0:w.cell? ⟨b,1,none⟩=some (.slice (some ⟨g,0,none⟩) 0 0):=c1
 go_enter Tryz.func155,Tryz.ntmps155
 go_wp2
 go_region_o
 all_goals (go_wp2; go_ret; exact ⟨Z,(qu w).alloc (n6 _) _⟩)
set_option maxRecDepth 100000 in
theorem zz (b g cap:Nat)(p:Value)(cur:Array Value)(l:List UInt8)(w:World)(h0:l≠[])(hbk:w.heap[b]? = some (.cells #[p,.slice (some ⟨g,0,none⟩) l.length cap] 178 (0,0)))(hg:w.heap[g]? = some (.cells cur 5 (0,0)))
  (hnc:l.length<=cap) (Il:cur.size=cap) (hcm:l.length<=9223372036854775807) (Ig:∀ (j:Nat) x,l[j]? = some x->w.cell? ⟨g,j,none⟩=some (.int .u8 x.toNat)) :
  Calls Tryz.prog 155 #[.pointer (some ⟨b,0,none⟩)] w λ e w'=>e=.returned (.string ⟨l.toArray⟩)/\w'=(w.drew.freeze ⟨g,0,none⟩ l.length):=by
 have mixed:=ww;have hl0:l.length≠0:=by simpa using h0
 have c1:w.drew.cell? ⟨b,1,none⟩=some (.slice (some ⟨g,0,none⟩) l.length cap):=by
  have:w.drew.heap[b]? = some (.cells #[p,.slice (some ⟨g,0,none⟩) l.length cap] 178 (0,0)):=hbk;rw [Lib.cell_of_heap this]; rfl
 have hSD:(Builtin.unsafeSliceData_ #[162] 170 #[.slice (some ⟨g,0,none⟩) l.length cap]).run Tryz.prog w.drew=.ok (.pointer (some ⟨g,0,none⟩)) w.drew:=Lib.run_unsafeSliceData_row _ _ _ _ _ _ O
 have hUS:(Builtin.unsafeString_ #[170,3] 9 #[.pointer (some ⟨g,0,none⟩),.int .i64 l.length]).run Tryz.prog w.drew=.ok (.string ⟨l.toArray⟩) (w.drew.freeze ⟨g,0,none⟩ l.length):=by
  refine Lib.run_unsafeString_row w.drew 170 3 9 5 Tryz.underlying170 (by kernel_rfl) g cur.size (by have hg':w.drew.heap[g]? = some (.cells cur 5 (0,0)):=hg; simp [World.shape?,hg']) l h0 O hcm ?_;intro j x hx;have:=Ig j x hx;rw [add_lit,Nat.zero_add,World.cell?_drew]; exact this
 clear Ig Il hcm hnc h0 hl0
 go_enter Tryz.func155,Tryz.ntmps155
 go_wp2
 go_region_o
 all_goals (go_wp2; go_ret; exact ⟨Z,Z⟩)
theorem wR (w:World)(g n k:Nat)(h:k≠g):(w.freeze ⟨g,0,none⟩ n).heap[k]? = w.heap[k]?:=by
 unfold World.freeze;split
 ·rfl
 ·simp only [Array.getElem?_modify];rw [if_neg (λ e=>h e.symm)]
theorem xj (w:World)(g n:Nat)(a:Addr):(w.freeze ⟨g,0,none⟩ n).cell? a=w.cell? a:=by
 unfold World.freeze;split
 ·rfl
 ·simp only [World.cell?,Array.getElem?_modify];by_cases h:g=a.block
  ·simp only [h,if_true]
   cases w.heap[a.block]? with
   | none=>rfl
   | some o=>cases o <;> rfl
  ·simp only [h,if_false]
theorem x6 (w:World)(g n:Nat):(w.freeze ⟨g,0,none⟩ n).heap.size=w.heap.size:=by
 unfold World.freeze; split <;> simp
theorem yl (w:World)(g n:Nat):(w.freeze ⟨g,0,none⟩ n).os=w.os/\(w.freeze ⟨g,0,none⟩ n).output=w.output/\(w.freeze ⟨g,0,none⟩ n).tape=w.tape:=by
 unfold World.freeze; split <;> exact ⟨Z,Z,Z⟩
def ghS (g:Gh):Gh:=⟨g.st,λ i=>if M1<=i/\i < 2*M1 then g.ow i else none⟩
theorem wm {g:Gh}{i b:Nat}(h:(ghS g).ow i=some b):M1<=i/\i < 2*M1/\g.ow i=some b:=by
 simp only [ghS] at h;split at h
 ·rename_i h1; exact ⟨h1.1,h1.2,h⟩
 ·cases h
theorem Ae {w w':World}{g:Gh}{q:Nat}(hok:Ok0 w g.st)(hown:∀ i b,g.ow i=some b->b < w.heap.size/\i < 2*M1)
  (hinj:∀ i j b,g.ow i=some b->g.ow j=some b->i=j) (hnst:∀ i b,M1<=i->g.ow i=some b->∀ o,¬ g.st b o)
  (hq:g.ow 900000=some q\/w.heap.size<=q) (os:w'.os=w.os) (out:w'.output=w.output) (tape:w'.tape=w.tape) (size:w.heap.size<=w'.heap.size)
  (other:∀ k,k < w.heap.size->k≠q->w'.heap[k]? = w.heap[k]?) (cell:∀ b o,b < w.heap.size->w'.cell? ⟨b,o,none⟩=w.cell? ⟨b,o,none⟩):nE w g w' (ghS g):=by
 have Ij:Ev w g.st w' g.st:=λ k o hk=>⟨hk,cell k o (hok.lt k o hk)⟩
 refine ⟨os,out,tape,size,λ k hk hno=>other k hk (λ e=>?_),λ i k hi=>?_,λ i j k hi hj=>?_,λ k o hk=>Nat.lt_of_lt_of_le (hok.lt k o hk) size,λ k hk _ o=>Iff.rfl,λ i h1 h2=>?_,λ i k c e h1 h2 h3=>?_,λ i k hi hk o=>hnst i k hi hk o,Ij⟩
 ·rcases hq with hq | hq
  ·exact hno _ (e ▸ hq)
  ·omega
 ·obtain ⟨_,_,h1⟩:=wm hi;exact ⟨Nat.lt_of_lt_of_le (hown _ _ h1).1 size,.inr ⟨_,h1⟩⟩
 ·exact hinj _ _ _ (wm hi).2.2 (wm hj).2.2
 ·simp only [ghS]; rw [if_pos ⟨h1,h2⟩]
 ·refine ⟨c,(other k (hown _ _ h2).1 (λ e=>?_)).trans h3,rfl⟩;rcases hq with hq | hq
  ·have:=hinj _ _ _ h2 (e ▸ hq); unfold M1 at *; omega
  ·have:=(hown _ _ h2).1; omega
theorem ob_S {w':World}{g:Gh}{es:List PV}{T b:Nat}{p q:Value}(hb:g.ow 1000000=some b)(h4:∀ o,¬ g.st b o)(h:w'.heap[b]? = some (.cells #[p,q] T (0,0)))
  (hp:p=.pointer none\/p=.pointer (some ⟨b,0,none⟩)) (hq:PRep w' g.st (.slice es) q):iB w' (ghS g) 1000000 [.bptr T 2 1000000,.p (.slice es)]:=by
 have how:(ghS g).ow 1000000=some b:=by simp only [ghS]; rw [if_pos (by decide)]; exact hb
 refine ⟨b,#[p,q],T,how,h,by simp,h4,λ i x hx=>?_⟩
 match i,hx with
 | 0,hx =>
  simp only [List.getElem?_cons_zero,bt] at hx; subst hx;refine ⟨p,rfl,?_⟩;rcases hp with rfl | rfl
  ·exact .bptrn how h Z
  ·exact .bptr how h Z
 | 1,hx =>
  simp only [List.getElem?_cons_succ,List.getElem?_cons_zero,bt] at hx; subst hx;exact ⟨q,rfl,.p hq⟩
 | n+2,hx=>simp at hx
theorem ni (b_0:cw)(r:Bytes×cw)(h0:fu b_0=some r):aV Tryz.prog 155 [.ptr 1000000 0] [(1000000,[.bptr 178 2 1000000,.vec 900000 1 (5+1) (b_0.HW.map eU)])]
  (λ x y=>x=.p (eS r.1)/\y=[(1000000,[.bptr 178 2 1000000,.p (eL eU r.2.HW)])]):=by
 obtain ⟨hmax,h0⟩:=fe h0
 cases h0
 intro w g vs hok hown hinj hnst Ia hargs hobs;obtain ⟨b,p,q,hb,rfl,hheap,hbs,hp,hq⟩:=Cm Ia hargs hobs;have hbl:b < w.heap.size:=(hown _ _ hb).1;obtain ⟨l,hl⟩:∃ l,l=b_0.HW:=⟨_,rfl⟩
 rw [<- hl] at hq ⊢
 -- a builder that holds nothing
 have none_:∀ q0,l=[]->q=q0->(Calls Tryz.prog 155 #[.pointer (some ⟨b,0,none⟩)] w λ e w'=>e=.returned (.string ⟨#[]⟩)/\Below w.heap.size w w')->PRep w g.st (.slice []) q0 ->
   Calls Tryz.prog 155 #[.pointer (some ⟨b,0,none⟩)] w λ e w'=>∃ v r obs' g',e=.returned v/\(r=.p (eS l)/\obs'=[(1000000,[.bptr 178 2 1000000,.p (eL eU l)])])/\ARep w' g' r v/\(∀ p∈obs',iB w' g' p.1 p.2)/\nE w g w' g':=by
  rintro q0 rfl rfl hc hr;refine hc.mono ?_;rintro e w' ⟨rfl,hB⟩;have Ig:∀ b o,b < w.heap.size->w'.cell? ⟨b,o,none⟩=w.cell? ⟨b,o,none⟩:=λ b o h=>hB.cell (p:=⟨b,o,none⟩) h;refine ⟨_,_,_,ghS g,rfl,⟨rfl,rfl⟩,.p (.val _),λ x hx=>?_,Ae (q:=w.heap.size) hok hown hinj hnst (.inr (n6 _)) hB.os hB.output hB.tape hB.size (λ k hk _=>hB.block k hk) Ig⟩;simp only [List.mem_singleton] at hx; subst hx;exact ob_S hb hbs ((hB.block b hbl).trans hheap) hp (hr.mono (w':=w') (st':=g.st) (λ k o hk=>⟨hk,Ig k o (hok.lt k o hk)⟩))
 generalize hes:l.map eU=es at hq
 cases hq with
 | vecn =>
  have e:l=[]:=by simpa using hes
  exact none_ _ e Z (zc b p w hheap) .nils
 | vec how hb2 Il hsz2 Ik hr hty =>
  rename_i g2 off2 cap c e2
  have he2:e2=5/\off2=0:=by
   rcases hty with h | h
   ·cases h
   ·exact ⟨(Nat.succ.inj h.1).symm,h.2⟩
  obtain ⟨rfl,rfl⟩:=he2;rw [Nat.zero_add] at Il;simp only [Nat.zero_add] at Ik;have hgl:g2 < w.heap.size:=(hown _ _ how).1;subst hes;simp only [n7] at hheap;by_cases hl0:l=[]
  ·subst hl0;by_cases hc0:cap=0
   ·subst hc0;exact none_ _ Z Z (vd b g2 p c w hheap hb2) (by simpa using hr)
   ·exact none_ _ Z Z (xG b g2 cap p w hc0 hheap) (by simpa using hr)
  ·have hcap:l.length<=cap:=by
    obtain ⟨a',cap',he,hle⟩:=px hr
    cases he
    simpa using hle
   have Ig:∀ (j:Nat) x,l[j]? = some x->w.cell? ⟨g2,j,none⟩=some (.int .u8 x.toNat):=by
    intro j x hx;have hinv:=Em hsz2 hb2 hr;obtain ⟨_,u,hu,hru⟩:=hinv j (eU x) 0 (eU x) (by simp [hx]) rfl
    cases hru
    simp only [World.cell?,hb2];simpa using hu
   refine (zz b g2 cap p c l w hl0 (by simpa using hheap) hb2 hcap (by simpa using Il) ?_ Ig).mono ?_
   ·rw [hl]; exact hmax
   rintro e w' ⟨rfl,rfl⟩;have hother:∀ k,k≠g2->(w.drew.freeze ⟨g2,0,none⟩ l.length).heap[k]? = w.heap[k]?:=λ k hk=>wR w.drew g2 _ k hk;have hcell2:∀ b o,(w.drew.freeze ⟨g2,0,none⟩ l.length).cell? ⟨b,o,none⟩=w.cell? ⟨b,o,none⟩:=λ b o=>xj w.drew g2 _ _;obtain ⟨r1,r2,r3⟩:=yl w.drew g2 l.length;refine ⟨_,_,_,ghS g,rfl,⟨rfl,rfl⟩,.p (.val _),λ x hx=>?_,Ae (q:=g2) hok hown hinj hnst (.inl how) r1 r2 r3 (by rw [x6]; exact n6 _) (λ k _ hk=>hother k hk) (λ b o _=>hcell2 b o)⟩;simp only [List.mem_singleton] at hx; subst hx;have Iw:b≠g2:=λ e=>by subst e; have:=hinj _ _ _ hb how; omega
   exact ob_S hb hbs ((hother b Iw).trans (by simpa using hheap)) hp (by simpa using hr.mono (w':=w.drew.freeze ⟨g2,0,none⟩ l.length) (st':=g.st) (λ k o hk=>⟨hk,hcell2 k o⟩))
end Go.Ab
end
section
namespace Go.Ab.RB
open Go.Proofs Go.Ab
attribute [local irreducible] awp eR bq aB aV AV.sub M cN
def dx (H7:List UInt8)(Io:Int):Option (List UInt8) :=
 if IntKind.wrap .u32 (Io)<=2047 then
  ck ((0:Int)<=6) <|
  ck ((0:Int)<=iOr .u8 192 (IntKind.wrap .u8 (gN .i32 Io 6))/\iOr .u8 192 (IntKind.wrap .u8 (gN .i32 Io 6)) < 256) <|
  ck ((0:Int)<=iOr .u8 128 (cQ .u8 (IntKind.wrap .u8 (Io)) 63)/\iOr .u8 128 (cQ .u8 (IntKind.wrap .u8 (Io)) 63) < 256) <|
  ck ((H7.length+[u8 (iOr .u8 192 (IntKind.wrap .u8 (gN .i32 Io 6))),u8 (iOr .u8 128 (cQ .u8 (IntKind.wrap .u8 (Io)) 63))].length)*1<=140737488355328) <|
  some (H7++[u8 (iOr .u8 192 (IntKind.wrap .u8 (gN .i32 Io 6))),u8 (iOr .u8 128 (cQ .u8 (IntKind.wrap .u8 (Io)) 63))])
 else
  (
    if IntKind.wrap .u32 (Io) < 55296 then
     some true
    else
     if 57343 < IntKind.wrap .u32 (Io) then
      some (decide (IntKind.wrap .u32 (Io)<=65535))
     else
      some false
   : Option Bool).bind λ t8 =>
  if t8=true then
   ck ((0:Int)<=12) <|
   ck ((0:Int)<=6) <|
   ck ((0:Int)<=iOr .u8 224 (IntKind.wrap .u8 (gN .i32 Io 12))/\iOr .u8 224 (IntKind.wrap .u8 (gN .i32 Io 12)) < 256) <|
   ck ((0:Int)<=iOr .u8 128 (cQ .u8 (IntKind.wrap .u8 (gN .i32 Io 6)) 63)/\iOr .u8 128 (cQ .u8 (IntKind.wrap .u8 (gN .i32 Io 6)) 63) < 256) <|
   ck ((0:Int)<=iOr .u8 128 (cQ .u8 (IntKind.wrap .u8 (Io)) 63)/\iOr .u8 128 (cQ .u8 (IntKind.wrap .u8 (Io)) 63) < 256) <|
   ck ((H7.length+[u8 (iOr .u8 224 (IntKind.wrap .u8 (gN .i32 Io 12))),u8 (iOr .u8 128 (cQ .u8 (IntKind.wrap .u8 (gN .i32 Io 6)) 63)),u8 (iOr .u8 128 (cQ .u8 (IntKind.wrap .u8 (Io)) 63))].length)*1<=140737488355328) <|
   some (H7++[u8 (iOr .u8 224 (IntKind.wrap .u8 (gN .i32 Io 12))),u8 (iOr .u8 128 (cQ .u8 (IntKind.wrap .u8 (gN .i32 Io 6)) 63)),u8 (iOr .u8 128 (cQ .u8 (IntKind.wrap .u8 (Io)) 63))])
  else
   (
     if 65535 < IntKind.wrap .u32 (Io) then
      some (decide (IntKind.wrap .u32 (Io)<=1114111))
     else
      some false
    : Option Bool).bind λ t17 =>
   if t17=true then
    ck ((0:Int)<=18) <|
    ck ((0:Int)<=12) <|
    ck ((0:Int)<=6) <|
    ck ((0:Int)<=iOr .u8 240 (IntKind.wrap .u8 (gN .i32 Io 18))/\iOr .u8 240 (IntKind.wrap .u8 (gN .i32 Io 18)) < 256) <|
    ck ((0:Int)<=iOr .u8 128 (cQ .u8 (IntKind.wrap .u8 (gN .i32 Io 12)) 63)/\iOr .u8 128 (cQ .u8 (IntKind.wrap .u8 (gN .i32 Io 12)) 63) < 256) <|
    ck ((0:Int)<=iOr .u8 128 (cQ .u8 (IntKind.wrap .u8 (gN .i32 Io 6)) 63)/\iOr .u8 128 (cQ .u8 (IntKind.wrap .u8 (gN .i32 Io 6)) 63) < 256) <|
    ck ((0:Int)<=iOr .u8 128 (cQ .u8 (IntKind.wrap .u8 (Io)) 63)/\iOr .u8 128 (cQ .u8 (IntKind.wrap .u8 (Io)) 63) < 256) <|
    ck ((H7.length+[u8 (iOr .u8 240 (IntKind.wrap .u8 (gN .i32 Io 18))),u8 (iOr .u8 128 (cQ .u8 (IntKind.wrap .u8 (gN .i32 Io 12)) 63)),u8 (iOr .u8 128 (cQ .u8 (IntKind.wrap .u8 (gN .i32 Io 6)) 63)),u8 (iOr .u8 128 (cQ .u8 (IntKind.wrap .u8 (Io)) 63))].length)*1<=140737488355328) <|
    some (H7++[u8 (iOr .u8 240 (IntKind.wrap .u8 (gN .i32 Io 18))),u8 (iOr .u8 128 (cQ .u8 (IntKind.wrap .u8 (gN .i32 Io 12)) 63)),u8 (iOr .u8 128 (cQ .u8 (IntKind.wrap .u8 (gN .i32 Io 6)) 63)),u8 (iOr .u8 128 (cQ .u8 (IntKind.wrap .u8 (Io)) 63))])
   else
    ck ((H7.length+[(239:UInt8),(191:UInt8),(189:UInt8)].length)*1<=140737488355328) <|
    some (H7++[(239:UInt8),(191:UInt8),(189:UInt8)])
theorem jJ (H7:List UInt8)(Io:Int)(r:(List UInt8))(h0:dx H7 Io=some r):aV Tryz.prog 170 [.vec 900000 1 (5+1) (H7.map eU),.p (eK .i32 Io)] [] (λ x y=>x=.vec 2000000 1 (5+1) (r.map eU)/\y=[]):=by
 unfold dx at h0;refine cr good [800000] [] Tryz.func170 Z Z Z Z Z λ w0 F=>mPo (λ v:(List UInt8)=>.vec 2000000 1 (5+1) (v.map eU)) (λ v=>[]) ?_;refine nx 17 Z (fD [11,13] h0 Z (λ c1 h0=>?_) λ c1 h0=>?_)
 ·refine nx 5 Z (cc' h0 λ Ke h0=>?_);refine mO Z (oW Z Z Z Z Z Z Ke ?_);refine nx 6 Z (cc' h0 λ Ml h0=>?_);refine cc' h0 λ Lz h0=>mO Z (bF eU [u8 (iOr .u8 192 (IntKind.wrap .u8 (gN .i32 Io 6))),u8 (iOr .u8 128 (cQ .u8 (IntKind.wrap .u8 (Io)) 63))] Z Z Z Z Z Z Z Z Z Z Z Z Z (congr (congrArg List.cons (qg Ml)) (congr (congrArg List.cons (qg Lz)) Z)) ?_);refine cc' h0 λ Mk h0=>mO Z (gu eU H7 [u8 (iOr .u8 192 (IntKind.wrap .u8 (gN .i32 Io 6))),u8 (iOr .u8 128 (cQ .u8 (IntKind.wrap .u8 (Io)) 63))] Z Z Z Z Z Z Z Z Z Z Z Z Z Y Z Z Z Z Mk ?_);exact nx 3 Z (mQo (oi h0) (aQ (bB 24 800000 Z Z Z Z Z) (ay _)) Z Z Z Z (sr) trivial)
 refine nx 2 Z (bd h0 λ OI h1 h0=>?_);refine kN OI (λ L2=>⟨[(0,.vec 900000 1 (5+1) (H7.map eU)),(1,.p (eK .i32 Io)),(5,.p (eK .u32 (IntKind.wrap .u32 (Io)))),(25,.p (eB L2))],[]⟩) ?_ ?_
 ·refine nx 1 Z (fB [25] h0 Z (λ c9 h0=>?_) λ c9 h0=>?_)
  ·refine nx 5 Z (cc' h0 λ JL h0=>?_);refine mO Z (oW Z Z Z Z Z Z JL ?_);refine nx 3 Z (cc' h0 λ J8 h0=>?_);refine mO Z (oW Z Z Z Z Z Z J8 ?_);refine nx 7 Z (cc' h0 λ Kp h0=>?_);refine cc' h0 λ K3 h0=>cc' h0 λ KA h0=>mO Z (bF eU [u8 (iOr .u8 224 (IntKind.wrap .u8 (gN .i32 Io 12))),u8 (iOr .u8 128 (cQ .u8 (IntKind.wrap .u8 (gN .i32 Io 6)) 63)),u8 (iOr .u8 128 (cQ .u8 (IntKind.wrap .u8 (Io)) 63))] Z Z Z Z Z Z Z Z Z Z Z Z Z (congr (congrArg List.cons (qg Kp)) (congr (congrArg List.cons (qg K3)) (congr (congrArg List.cons (qg KA)) Z))) ?_);refine cc' h0 λ Ko h0=>mO Z (gu eU H7 [u8 (iOr .u8 224 (IntKind.wrap .u8 (gN .i32 Io 12))),u8 (iOr .u8 128 (cQ .u8 (IntKind.wrap .u8 (gN .i32 Io 6)) 63)),u8 (iOr .u8 128 (cQ .u8 (IntKind.wrap .u8 (Io)) 63))] Z Z Z Z Z Z Z Z Z Z Z Z Z Y Z Z Z Z Ko ?_);exact nx 3 Z (mQo (oi h0) (aQ (bB 49 800000 Z Z Z Z Z) (ay _)) Z Z Z Z (sr) trivial)
  refine nx 2 Z (bd h0 λ LQ h1 h0=>?_);refine kN LQ (λ Ol=>⟨[(0,.vec 900000 1 (5+1) (H7.map eU)),(1,.p (eK .i32 Io)),(50,.p (eB Ol))],[]⟩) ?_ ?_
  ·refine nx 1 Z (fB [50] h0 Z (λ J' h0=>?_) λ J' h0=>?_)
   ·refine nx 5 Z (cc' h0 λ J7 h0=>?_);refine mO Z (oW Z Z Z Z Z Z J7 ?_);refine nx 3 Z (cc' h0 λ Kn h0=>?_);refine mO Z (oW Z Z Z Z Z Z Kn ?_);refine nx 4 Z (cc' h0 λ Km h0=>?_);refine mO Z (oW Z Z Z Z Z Z Km ?_);refine nx 7 Z (cc' h0 λ KH h0=>?_);refine cc' h0 λ Kz h0=>cc' h0 λ LA h0=>cc' h0 λ Kl h0=>mO Z (bF eU [u8 (iOr .u8 240 (IntKind.wrap .u8 (gN .i32 Io 18))),u8 (iOr .u8 128 (cQ .u8 (IntKind.wrap .u8 (gN .i32 Io 12)) 63)),u8 (iOr .u8 128 (cQ .u8 (IntKind.wrap .u8 (gN .i32 Io 6)) 63)),u8 (iOr .u8 128 (cQ .u8 (IntKind.wrap .u8 (Io)) 63))] Z Z Z Z Z Z Z Z Z Z Z Z Z (congr (congrArg List.cons (qg KH)) (congr (congrArg List.cons (qg Kz)) (congr (congrArg List.cons (qg LA)) (congr (congrArg List.cons (qg Kl)) Z)))) ?_);refine cc' h0 λ Ky h0=>mO Z (gu eU H7 [u8 (iOr .u8 240 (IntKind.wrap .u8 (gN .i32 Io 18))),u8 (iOr .u8 128 (cQ .u8 (IntKind.wrap .u8 (gN .i32 Io 12)) 63)),u8 (iOr .u8 128 (cQ .u8 (IntKind.wrap .u8 (gN .i32 Io 6)) 63)),u8 (iOr .u8 128 (cQ .u8 (IntKind.wrap .u8 (Io)) 63))] Z Z Z Z Z Z Z Z Z Z Z Z Z Y Z Z Z Z Ky ?_);exact nx 3 Z (mQo (oi h0) (aQ (bB 77 800000 Z Z Z Z Z) (ay _)) Z Z Z Z (sr) trivial)
   refine nx 4 Z (mO Z (bF eU [(239:UInt8),(191:UInt8),(189:UInt8)] Z Z Z Z Z Z Z Z Z Z Z Z Z Z ?_));refine cc' h0 λ Lk h0=>mO Z (gu eU H7 [(239:UInt8),(191:UInt8),(189:UInt8)] Z Z Z Z Z Z Z Z Z Z Z Z Z Y Z Z Z Z Lk ?_);exact nx 3 Z (mQo (oi h0) (aQ (bB 10 800000 Z Z Z Z Z) (ay _)) Z Z Z Z (sr) trivial)
  refine nx 4 Z (fD [52,53] h1 Z (λ MA h1=>?_) λ MA h1=>?_)
  ·exact nx 5 Z (eX _ (oi h1).symm (gE Z Z))
  exact nx 5 Z (eX _ (oi h1).symm (gE Z Z))
 refine nx 6 Z (fD [25,27] h1 Z (λ c6 h1=>?_) λ c6 h1=>?_)
 ·exact nx 2 Z (eX _ (oi h1).symm (gE Z Z))
 refine nx 5 Z (fD [29,30] h1 Z (λ c7 h1=>?_) λ c7 h1=>?_)
 ·exact nx 5 Z (eX _ (oi h1).symm (gE Z Z))
 exact nx 5 Z (eX _ (oi h1).symm (gE Z Z))
def ec (H7:List UInt8)(Io:Int):Option (List UInt8) :=
 if IntKind.wrap .u32 (Io)<=127 then
  ck ((0:Int)<=IntKind.wrap .u8 (Io)/\IntKind.wrap .u8 (Io) < 256) <|
  ck ((H7.length+[u8 (IntKind.wrap .u8 (Io))].length)*1<=140737488355328) <|
  some (H7++[u8 (IntKind.wrap .u8 (Io))])
 else
  (dx H7 Io).bind λ r4 =>
  some r4
theorem mJ (H7:List UInt8)(Io:Int)(r:(List UInt8))(h0:ec H7 Io=some r):aV Tryz.prog 162 [.vec 900000 1 (5+1) (H7.map eU),.p (eK .i32 Io)] [] (λ x y=>x=.vec 2000000 1 (5+1) (r.map eU)/\y=[]):=by
 unfold ec at h0;refine cr good [800000] [] Tryz.func162 Z Z Z Z Z λ w0 F=>mPo (λ v:(List UInt8)=>.vec 2000000 1 (5+1) (v.map eU)) (λ v=>[]) ?_;refine nx 11 Z (fD [7] h0 Z (λ c1 h0=>?_) λ c1 h0=>?_)
 ·refine nx 6 Z (cc' h0 λ Ke h0=>?_);refine mO Z (bF eU [u8 (IntKind.wrap .u8 (Io))] Z Z Z Z Z Z Z Z Z Z Z Z Z (congr (congrArg List.cons (qg Ke)) Z) ?_);refine cc' h0 λ Lz h0=>mO Z (gu eU H7 [u8 (IntKind.wrap .u8 (Io))] Z Z Z Z Z Z Z Z Z Z Z Z Z Y Z Z Z Z Lz ?_);exact nx 3 Z (mQo (oi h0) (aQ (bB 12 800000 Z Z Z Z Z) (ay _)) Z Z Z Z (sr) trivial)
 refine nx 6 Z (bd h0 λ r4 e5 h0=>?_);refine mO Z (bn [] [900000] 101000 101001 (jJ H7 Io _ e5) Z Z Z Z Z ⟨sr,sr,trivial⟩ Z Z trivial Z Z Z Z Z Z Z Z Tryz.call170 Z Z ?_);exact nx 3 Z (mQo (oi h0) (aQ (bB 101000 800000 Z Z Z Z Z) (ay _)) Z Z Z Z (sr) trivial)
def dJ (b_0:cw)(Io:Int):Option (Int×Bool×cw) :=
 (gb (cw.mk b_0.HW)).bind λ r1 =>
 (ec r1.HW Io).bind λ r3 =>
 ck (inR ((r3.length:Int) - (r1.HW.length:Int))) <|
 some ((r3.length:Int) - (r1.HW.length:Int),false,(cw.mk r3))
theorem lL (b_0:cw)(Io:Int)(r:Int×Bool×cw)(h0:dJ b_0 Io=some r):aV Tryz.prog 153 [.ptr 1000000 0,.p (eK .i32 Io)] [(1000000,[.bptr 178 2 1000000,.vec 900000 1 (5+1) (b_0.HW.map eU)])] (λ x y=>x=.tuple [.p (eI r.1),.p (eE r.2.1)]/\y=[(1000000,[.bptr 178 2 1000000,.vec 2000000 1 (5+1) (r.2.2.HW.map eU)])]):=by
 unfold dJ at h0;refine cr good [800000] [1000000] Tryz.func153 Z Z Z Z Z λ w0 F=>mPo (λ v:Int×Bool×cw=>.tuple [.p (eI v.1),.p (eE v.2.1)]) (λ v=>[(1000000,[.bptr 178 2 1000000,.vec 2000000 1 (5+1) (v.2.2.HW.map eU)])]) ?_;refine nx 8 Z (bd h0 λ r1 e2 h0=>?_);refine mO Z (bn [1000000] [900000] 101000 101001 (lH (cw.mk b_0.HW) _ e2) Z Z Z Z Z ⟨sr,trivial⟩ Z Z ⟨⟨_,Z,⟨sr,sr,trivial⟩⟩,trivial⟩ Z Z Z Z Z Z Z Z Tryz.call161 Z Z ?_);refine nx 7 Z (oLl (f:=eU) Z Z ?_);refine nx 10 Z (bd h0 λ r3 e4 h0=>?_);refine mO Z (bn [] [101000] 102000 102001 (mJ r1.HW Io _ e4) Z Z Z Z Z ⟨sr,sr,trivial⟩ Z Z trivial Z Z Z Z Z Z Z Z Tryz.call162 Z Z ?_);refine nx 10 Z (oLl (f:=eU) Z Z ?_);refine nx 1 Z (oA h0 Z Z λ Mk h0=>?_);refine nx 3 Z (mG (gE (t:=⟨[(4,.p (eI ((r3.length:Int) - (r1.HW.length:Int)))),(5,.p (eE false))],[(1000000,[.bptr 178 2 1000000,.vec 102000 1 (5+1) (r3.map eU)])]⟩) Z Z) ?_);exact nx 1 Z (mQo (oi h0) (aQ (bB 102000 800000 Z Z Z Z Z) (ay _)) Z Z Z Z (ax ⟨sr,sr,trivial⟩) ⟨⟨_,Z,⟨sr,sr,trivial⟩⟩,trivial⟩)
def jq (b_0:cw):Option (Int×cw) :=
 some ((b_0.HW.length:Int),(cw.mk b_0.HW))
theorem ot (b_0:cw)(r:Int×cw)(h0:jq b_0=some r):aV Tryz.prog 154 [.ptr 1000000 0] [(1000000,[.bptr 178 2 1000000,.vec 900000 1 (5+1) (b_0.HW.map eU)])] (λ x y=>x=.p (eI r.1)/\y=[(1000000,[.bptr 178 2 1000000,.vec 2000000 1 (5+1) (r.2.HW.map eU)])]):=by
 unfold jq at h0;refine cr good [800000] [1000000] Tryz.func154 Z Z Z Z Z λ w0 F=>mPo (λ v:Int×cw=>.p (eI v.1)) (λ v=>[(1000000,[.bptr 178 2 1000000,.vec 2000000 1 (5+1) (v.2.HW.map eU)])]) ?_;refine nx 10 Z (oLl (f:=eU) Z Z ?_);exact nx 3 Z (mQo (oi h0) (aQ (bB 900000 800000 Z Z Z Z Z) (ay _)) Z Z Z Z (sr) ⟨⟨_,Z,⟨sr,sr,trivial⟩⟩,trivial⟩)
end Go.Ab.RB
end
section
namespace Go.Ab
open Go.RowKit
theorem aB.of_calls {P:Program}{f:FuncId}{l:List Value}{r:AV}
  (h:∀ (w:World) (st:Nat->Nat->Prop),Ok0 w st->Calls P f l.toArray w λ e w'=>∃ v,e=.returned v/\Below w.heap.size w w'/\∀ g',ARep w' g' r v):aB P f (l.map PV.val) (·=r):=by
 intro w st vs hok Ia hargs
 have e:vs=l.toArray:=by
  apply Array.ext
  ·simpa using Ia
  ·intro i h1 h2;have hi:i < l.length:=by simpa using h2
   have:=hargs i (.val l[i]) vs[i] (by simp [hi]) (Array.getElem?_eq_getElem h1);generalize hv:vs[i]=v at this
   cases this
   simp
 subst e;refine (h w st hok).mono ?_;rintro e w' ⟨v,rfl,hB,hr⟩;refine ⟨v,r,⟨st,λ _=>none⟩,rfl,rfl,hr _,⟨hB.os,hB.output,hB.tape,hB.size,λ b hb=>hB.block b hb,?_,?_,λ b o hb=>Nat.lt_of_lt_of_le (hok.lt b o hb) hB.size,λ b _ o=>Iff.rfl⟩⟩
 ·intro i b hi; cases hi
 ·intro i j b hi; cases hi
theorem ug {w:World}{st:Nat->Nat->Prop}(h:mr w st){g j:Nat}{l:List GC}{k:IntKind}{n:Int}(hl:look td g=some l)(hj:l[j]? = some (.int k n)):w.cell? ⟨g,j,none⟩=some (.int k n):=by
 obtain ⟨_,v,h2,h3⟩:=(h g (l.map GC.pv) (by rw [pP,hl]; rfl)).1 j (.val (.int k n)) (by rw [List.getElem?_map,hj]; rfl)
 cases h3
 exact h2
theorem ye {w:World}{st:Nat->Nat->Prop}(h:mr w st){g j:Nat}{l:List GC}(hl:look td g=some l)(hj:l[j]? = some .ifc):∃ t v,w.cell? ⟨g,j,none⟩=some (.iface t v):=by
 obtain ⟨_,v,h2,h3⟩:=(h g (l.map GC.pv) (by rw [pP,hl]; rfl)).1 j .ifc (by rw [List.getElem?_map,hj]; rfl)
 cases h3 with
 | ifc t v=>exact ⟨t,v,h2⟩
theorem lu (s:Bytes):(str s).data.toList=s:=by simp [str]
theorem oQ (w:World):Below w.heap.size w w:=Below.refl _ w
end Go.Ab
end
section
namespace Go.Proofs
open Go.Shelf
def Tryz.lays119_ren:Go.Shelf.Ren:=⟨λ | 119=>168 | n=>n,λ | 21=>21 | 4=>4 | n=>n,λ | n=>n⟩
theorem Tryz.lays119:Go.Proofs.Lays.n119 Tryz.prog Tryz.lays119_ren:={
 mixed:=by kernel_rfl
 f119:=Tryz.func168.trans (congrArg some (by kernel_rfl))
 t4:=Tryz.underlying4
 a4:=Tryz.isAgg4
 z4:=Tryz.sizeOf4
 v4:=Tryz.zeroValue4
 t21:=Tryz.underlying21
 a21:=Tryz.isAgg21
 z21:=Tryz.sizeOf21
 v21:=Tryz.zeroValue21 }
theorem Tryz.utf8_ValidRune (r:Int)(w:World) :
  Calls Tryz.prog 168 #[.int .i32 r] w λ e w'=>e=.returned (.bool (Lib.validRune r))/\w'=w:=Any.utf8_ValidRune Tryz.lays119 r w
def Tryz.lays137_ren:Go.Shelf.Ren:=⟨λ | 137=>57 | 217=>75 | 266=>88 | n=>n,λ | 9=>9 | 5=>5 | 3=>3 | n=>n,λ | n=>n⟩
theorem Tryz.lays137:Go.Proofs.Lays.n137 Tryz.prog Tryz.lays137_ren:={
 mixed:=by kernel_rfl
 f137:=Tryz.func57.trans (congrArg some (by kernel_rfl))
 f217:=Tryz.func75.trans (congrArg some (by kernel_rfl))
 f266:=Tryz.func88.trans (congrArg some (by kernel_rfl))
 t3:=Tryz.underlying3
 a3:=Tryz.isAgg3
 z3:=Tryz.sizeOf3
 v3:=Tryz.zeroValue3
 t5:=Tryz.underlying5
 a5:=Tryz.isAgg5
 z5:=Tryz.sizeOf5
 v5:=Tryz.zeroValue5
 t9:=Tryz.underlying9
 a9:=Tryz.isAgg9
 z9:=Tryz.sizeOf9
 v9:=Tryz.zeroValue9 }
open Go.RowKit in
theorem Tryz.strings_IndexByte (s:ByteArray)(c:Int)(w:World) :
  Calls Tryz.prog 57 #[.string s,.int .u8 c] w λ e w'=>e=.returned (.int .i64 (Lib.indexByte s.data.toList c.toNat.toUInt8))/\w'=w:=Any.strings_IndexByte Tryz.lays137 s c w
def Tryz.lays99_ren:Go.Shelf.Ren:=⟨λ | 99=>76 | 206=>89 | n=>n,λ | 9=>9 | 4=>4 | 3=>3 | n=>n,λ | n=>n⟩
theorem Tryz.lays99:Go.Proofs.Lays.n99 Tryz.prog Tryz.lays99_ren:={
 mixed:=by kernel_rfl
 f99:=Tryz.func76.trans (congrArg some (by kernel_rfl))
 f206:=Tryz.func89.trans (congrArg some (by kernel_rfl))
 t3:=Tryz.underlying3
 a3:=Tryz.isAgg3
 z3:=Tryz.sizeOf3
 v3:=Tryz.zeroValue3
 t4:=Tryz.underlying4
 a4:=Tryz.isAgg4
 z4:=Tryz.sizeOf4
 v4:=Tryz.zeroValue4
 t9:=Tryz.underlying9
 a9:=Tryz.isAgg9
 z9:=Tryz.sizeOf9
 v9:=Tryz.zeroValue9 }
open Go.RowKit Go.Lib in
theorem Tryz.strings_HasPrefix (s p:ByteArray)(w:World) :
  Calls Tryz.prog 76 #[.string s,.string p] w λ e w'=>e=.returned (.bool (Lib.hasPrefix s.data.toList p.data.toList))/\w'=w:=Any.strings_HasPrefix Tryz.lays99 s p w
def Tryz.laysC174_ren:Go.Shelf.Ren:=⟨λ | 174=>114 | 247=>122 | 245=>123 | 287=>131 | 279=>132 | 280=>133 | 281=>134 | 282=>135 | 321=>140 | 322=>141 | 316=>142 | 171=>144 | 205=>143 | 243=>147 | 246=>151 | 283=>156 | 284=>157 | 285=>158 | 286=>159 | 129=>164 | 317=>163 | 318=>165 | 319=>166 | 320=>167 | 337=>171 | 338=>172 | n=>n,λ | 9=>9 | 3=>3 | 2=>2 | 75=>138 | 85=>139 | 4=>4 | 167=>153 | 5=>5 | 53=>154 | 175=>155 | 46=>133 | 168=>157 | 37=>162 | 0=>0 | 210=>164 | 21=>21 | 127=>170 | 145=>173 | 143=>171 | 171=>184 | 173=>187 | 212=>192 | 51=>193 | 20=>20 | 213=>194 | 232=>200 | 233=>201 | 80=>151 | n=>n,λ | 15=>3 | 16=>4 | 17=>5 | 18=>6 | 19=>7 | n=>n⟩
theorem Tryz.laysC174:Go.Proofs.LaysC.n174 Tryz.prog Tryz.laysC174_ren:={
 mixed:=by kernel_rfl
 f129:=Tryz.func164.trans (congrArg some (by kernel_rfl))
 f171:=Tryz.func144.trans (congrArg some (by kernel_rfl))
 f174:=Tryz.func114.trans (congrArg some (by kernel_rfl))
 f205:=Tryz.func143.trans (congrArg some (by kernel_rfl))
 f243:=Tryz.func147.trans (congrArg some (by kernel_rfl))
 f245:=Tryz.func123.trans (congrArg some (by kernel_rfl))
 f246:=Tryz.func151.trans (congrArg some (by kernel_rfl))
 f247:=Tryz.func122.trans (congrArg some (by kernel_rfl))
 f279:=Tryz.func132.trans (congrArg some (by kernel_rfl))
 f280:=Tryz.func133.trans (congrArg some (by kernel_rfl))
 f281:=Tryz.func134.trans (congrArg some (by kernel_rfl))
 f282:=Tryz.func135.trans (congrArg some (by kernel_rfl))
 f283:=Tryz.func156.trans (congrArg some (by kernel_rfl))
 f284:=Tryz.func157.trans (congrArg some (by kernel_rfl))
 f285:=Tryz.func158.trans (congrArg some (by kernel_rfl))
 f286:=Tryz.func159.trans (congrArg some (by kernel_rfl))
 f287:=Tryz.func131.trans (congrArg some (by kernel_rfl))
 f316:=Tryz.func142.trans (congrArg some (by kernel_rfl))
 f317:=Tryz.func163.trans (congrArg some (by kernel_rfl))
 f318:=Tryz.func165.trans (congrArg some (by kernel_rfl))
 f319:=Tryz.func166.trans (congrArg some (by kernel_rfl))
 f320:=Tryz.func167.trans (congrArg some (by kernel_rfl))
 f321:=Tryz.func140.trans (congrArg some (by kernel_rfl))
 f322:=Tryz.func141.trans (congrArg some (by kernel_rfl))
 f337:=Tryz.func171.trans (congrArg some (by kernel_rfl))
 f338:=Tryz.func172.trans (congrArg some (by kernel_rfl))
 t0:=Tryz.underlying0
 a0:=Tryz.isAgg0
 z0:=Tryz.sizeOf0
 v0:=Tryz.zeroValue0
 t2:=Tryz.underlying2
 a2:=Tryz.isAgg2
 z2:=Tryz.sizeOf2
 v2:=Tryz.zeroValue2
 t3:=Tryz.underlying3
 a3:=Tryz.isAgg3
 z3:=Tryz.sizeOf3
 v3:=Tryz.zeroValue3
 t4:=Tryz.underlying4
 a4:=Tryz.isAgg4
 z4:=Tryz.sizeOf4
 v4:=Tryz.zeroValue4
 t5:=Tryz.underlying5
 a5:=Tryz.isAgg5
 z5:=Tryz.sizeOf5
 v5:=Tryz.zeroValue5
 t9:=Tryz.underlying9
 a9:=Tryz.isAgg9
 z9:=Tryz.sizeOf9
 v9:=Tryz.zeroValue9
 t20:=Tryz.underlying20
 a20:=Tryz.isAgg20
 z20:=Tryz.sizeOf20
 v20:=Tryz.zeroValue20
 t21:=Tryz.underlying21
 a21:=Tryz.isAgg21
 z21:=Tryz.sizeOf21
 v21:=Tryz.zeroValue21
 t37:=Tryz.underlying162
 a37:=Tryz.isAgg162
 z37:=Tryz.sizeOf162
 v37:=Tryz.zeroValue162
 t46:=Tryz.underlying133
 a46:=Tryz.isAgg133
 z46:=Tryz.sizeOf133
 v46:=Tryz.zeroValue133
 t51:=Tryz.underlying193
 a51:=Tryz.isAgg193
 z51:=Tryz.sizeOf193
 v51:=Tryz.zeroValue193
 t53:=Tryz.underlying154
 a53:=Tryz.isAgg154
 z53:=Tryz.sizeOf154
 v53:=Tryz.zeroValue154
 t75:=Tryz.underlying138
 a75:=Tryz.isAgg138
 z75:=Tryz.sizeOf138
 v75:=Tryz.zeroValue138
 t85:=Tryz.underlying139
 a85:=Tryz.isAgg139
 z85:=Tryz.sizeOf139
 v85:=Tryz.zeroValue139
 t127:=Tryz.underlying170
 a127:=Tryz.isAgg170
 z127:=Tryz.sizeOf170
 v127:=Tryz.zeroValue170
 t143:=Tryz.underlying171
 a143:=Tryz.isAgg171
 z143:=Tryz.sizeOf171
 v143:=Tryz.zeroValue171
 t145:=Tryz.underlying173
 a145:=Tryz.isAgg173
 z145:=Tryz.sizeOf173
 v145:=Tryz.zeroValue173
 t167:=Tryz.underlying153
 a167:=Tryz.isAgg153
 z167:=Tryz.sizeOf153
 v167:=Tryz.zeroValue153
 t168:=Tryz.underlying157
 a168:=Tryz.isAgg157
 z168:=Tryz.sizeOf157
 v168:=Tryz.zeroValue157
 t171:=Tryz.underlying184
 a171:=Tryz.isAgg184
 z171:=Tryz.sizeOf184
 v171:=Tryz.zeroValue184
 t173:=Tryz.underlying187
 a173:=Tryz.isAgg187
 z173:=Tryz.sizeOf187
 v173:=Tryz.zeroValue187
 t175:=Tryz.underlying155
 a175:=Tryz.isAgg155
 z175:=Tryz.sizeOf155
 v175:=Tryz.zeroValue155
 t210:=Tryz.underlying164
 a210:=Tryz.isAgg164
 z210:=Tryz.sizeOf164
 v210:=Tryz.zeroValue164
 t212:=Tryz.underlying192
 a212:=Tryz.isAgg192
 z212:=Tryz.sizeOf192
 v212:=Tryz.zeroValue192
 t213:=Tryz.underlying194
 a213:=Tryz.isAgg194
 z213:=Tryz.sizeOf194
 t232:=Tryz.underlying200
 a232:=Tryz.isAgg200
 z232:=Tryz.sizeOf200
 v232:=Tryz.zeroValue200
 t233:=Tryz.underlying201
 a233:=Tryz.isAgg201
 z233:=Tryz.sizeOf201
 v233:=Tryz.zeroValue201
 g15:=by kernel_rfl
 g16:=by kernel_rfl
 g17:=by kernel_rfl
 g18:=by kernel_rfl
 g19:=by kernel_rfl
 t80:=Tryz.underlying151
 a80:=Tryz.isAgg151
 z80:=Tryz.sizeOf151
 v80:=Tryz.zeroValue151
 i0:=by kernel_rfl
 i2:=by kernel_rfl
 i3:=by kernel_rfl
 i4:=by kernel_rfl
 i5:=by kernel_rfl
 i9:=by kernel_rfl
 i20:=by kernel_rfl
 i21:=by kernel_rfl
 i37:=by kernel_rfl
 i46:=by kernel_rfl
 i51:=by kernel_rfl
 i53:=by kernel_rfl
 i75:=by kernel_rfl
 i80:=by kernel_rfl
 i85:=by kernel_rfl
 i127:=by kernel_rfl
 i143:=by kernel_rfl
 i145:=by kernel_rfl
 i167:=by kernel_rfl
 i168:=by kernel_rfl
 i171:=by kernel_rfl
 i173:=by kernel_rfl
 i175:=by kernel_rfl
 i210:=by kernel_rfl
 i212:=by kernel_rfl
 i232:=by kernel_rfl
 i233:=by kernel_rfl
 m15:=by kernel_rfl
 m16:=by kernel_rfl
 m17:=by kernel_rfl
 m18:=by kernel_rfl
 m19:=by kernel_rfl
 c0:=by kernel_rfl
 c2:=by kernel_rfl
 c3:=by kernel_rfl
 c4:=by kernel_rfl
 c5:=by kernel_rfl
 c9:=by kernel_rfl
 c20:=by kernel_rfl
 c21:=by kernel_rfl
 c37:=by kernel_rfl
 c46:=by kernel_rfl
 c51:=by kernel_rfl
 c53:=by kernel_rfl
 c75:=by kernel_rfl
 c80:=by kernel_rfl
 c85:=by kernel_rfl
 c127:=by kernel_rfl
 c143:=by kernel_rfl
 c145:=by kernel_rfl
 c167:=by kernel_rfl
 c168:=by kernel_rfl
 c171:=by kernel_rfl
 c173:=by kernel_rfl
 c175:=by kernel_rfl
 c210:=by kernel_rfl
 c212:=by kernel_rfl
 c213:=by kernel_rfl
 c232:=by kernel_rfl
 c233:=by kernel_rfl }
open Go.RowKit in
theorem Tryz.strconv_ParseInt_10_at64_ok (s:ByteArray)(hmax:s.size<=9223372036854775806)(v:Int)(h:Lib.parseIntB 64 s.data.toList=.ok v)(w:World) :
  Calls Tryz.prog 114 #[.string s,.int .i64 10,.int .i64 64] w λ e w'=>e=.returned (.tuple #[.int .i64 v,.nilIface])/\(w'=w\/∃ t,w'=Lib.bytesWorld w 5 t):=Any.strconv_ParseInt_10_at64_ok Tryz.laysC174 s hmax v h w
open Go.RowKit in
theorem Tryz.strconv_ParseInt_10_at64_range (s:ByteArray)(hlim:s.size<=281474976710656)(h:Lib.parseIntB 64 s.data.toList=.range)(ev:Value)(w:World)(hv:w.cell? ⟨4,0,none⟩=some ev)(Ij:ev=.nilIface\/∃ te pe,ev=.iface te pe) :
  Calls Tryz.prog 114 #[.string s,.int .i64 10,.int .i64 64] w λ e w'=>∃ N,e=.returned (.tuple #[.int .i64 (Lib.intSat 64 s.data.toList),.iface 157 (.pointer (some ⟨N,0,none⟩))])/\w.heap.size<=N/\w'.heap[N]? = some (.cells #[.string ⟨#[80,97,114,115,101,73,110,116]⟩,.string s,ev] 164 (0,0))/\Below w.heap.size w w':=Any.strconv_ParseInt_10_at64_range Tryz.laysC174 s hlim h ev w hv Ij
open Go.RowKit in
theorem Tryz.strconv_ParseInt_10_at64_syntax (s:ByteArray)(hlim:s.size<=281474976710656)(h:Lib.parseIntB 64 s.data.toList=Lib.parseIntB 64 [])(ev:Value)(w:World)(hv:w.cell? ⟨3,0,none⟩=some ev)(Ij:ev=.nilIface\/∃ te pe,ev=.iface te pe) :
  Calls Tryz.prog 114 #[.string s,.int .i64 10,.int .i64 64] w λ e w'=>∃ N,e=.returned (.tuple #[.int .i64 (0),.iface 157 (.pointer (some ⟨N,0,none⟩))])/\w.heap.size<=N/\w'.heap[N]? = some (.cells #[.string ⟨#[80,97,114,115,101,73,110,116]⟩,.string s,ev] 164 (0,0))/\Below w.heap.size w w':=Any.strconv_ParseInt_10_at64_syntax Tryz.laysC174 s hlim h ev w hv Ij
def Tryz.lays197_ren:Go.Shelf.Ren:=⟨λ | 197=>90 | 260=>103 | n=>n,λ | 9=>9 | 21=>21 | 3=>3 | 4=>4 | 5=>5 | 105=>124 | 119=>88 | 0=>0 | 46=>133 | 139=>136 | 138=>135 | n=>n,λ | 3=>1 | 4=>2 | n=>n⟩
theorem Tryz.lays197:Go.Proofs.Lays.n197 Tryz.prog Tryz.lays197_ren:={
 mixed:=by kernel_rfl
 f197:=Tryz.func90.trans (congrArg some (by kernel_rfl))
 f260:=Tryz.func103.trans (congrArg some (by kernel_rfl))
 t0:=Tryz.underlying0
 a0:=Tryz.isAgg0
 z0:=Tryz.sizeOf0
 v0:=Tryz.zeroValue0
 t3:=Tryz.underlying3
 a3:=Tryz.isAgg3
 z3:=Tryz.sizeOf3
 v3:=Tryz.zeroValue3
 t4:=Tryz.underlying4
 a4:=Tryz.isAgg4
 z4:=Tryz.sizeOf4
 v4:=Tryz.zeroValue4
 t5:=Tryz.underlying5
 a5:=Tryz.isAgg5
 z5:=Tryz.sizeOf5
 v5:=Tryz.zeroValue5
 t9:=Tryz.underlying9
 a9:=Tryz.isAgg9
 z9:=Tryz.sizeOf9
 v9:=Tryz.zeroValue9
 t21:=Tryz.underlying21
 a21:=Tryz.isAgg21
 z21:=Tryz.sizeOf21
 v21:=Tryz.zeroValue21
 t46:=Tryz.underlying133
 a46:=Tryz.isAgg133
 z46:=Tryz.sizeOf133
 v46:=Tryz.zeroValue133
 t105:=Tryz.underlying124
 a105:=Tryz.isAgg124
 z105:=Tryz.sizeOf124
 v105:=Tryz.zeroValue124
 t119:=Tryz.underlying88
 a119:=Tryz.isAgg88
 z119:=Tryz.sizeOf88
 t138:=Tryz.underlying135
 a138:=Tryz.isAgg135
 z138:=Tryz.sizeOf135
 v138:=Tryz.zeroValue135
 t139:=Tryz.underlying136
 a139:=Tryz.isAgg136
 z139:=Tryz.sizeOf136
 v139:=Tryz.zeroValue136
 g3:=by kernel_rfl
 g4:=by kernel_rfl }
open Go.RowKit Go.Lib in
theorem Tryz.utf8_DecodeRuneInString (s:ByteArray)(w:World)(hT:Lib.Utf8Tabs 1 2 w) :
  Calls Tryz.prog 90 #[.string s] w λ e w'=>e=.returned (.tuple #[.int .i32 (Lib.decodeGo s).1,.int .i64 (Lib.decodeGo s).2])/\Below w.heap.size w w':=Any.utf8_DecodeRuneInString Tryz.lays197 s w hT
def Tryz.lays196_ren:Go.Shelf.Ren:=⟨λ | 196=>129 | 259=>139 | n=>n,λ | 9=>9 | 4=>4 | 3=>3 | 5=>5 | 12=>12 | 119=>88 | 0=>0 | 46=>133 | 139=>136 | 138=>135 | 53=>154 | n=>n,λ | 3=>1 | 4=>2 | n=>n⟩
theorem Tryz.lays196:Go.Proofs.Lays.n196 Tryz.prog Tryz.lays196_ren:={
 mixed:=by kernel_rfl
 f196:=Tryz.func129.trans (congrArg some (by kernel_rfl))
 f259:=Tryz.func139.trans (congrArg some (by kernel_rfl))
 t0:=Tryz.underlying0
 a0:=Tryz.isAgg0
 z0:=Tryz.sizeOf0
 v0:=Tryz.zeroValue0
 t3:=Tryz.underlying3
 a3:=Tryz.isAgg3
 z3:=Tryz.sizeOf3
 v3:=Tryz.zeroValue3
 t4:=Tryz.underlying4
 a4:=Tryz.isAgg4
 z4:=Tryz.sizeOf4
 v4:=Tryz.zeroValue4
 t5:=Tryz.underlying5
 a5:=Tryz.isAgg5
 z5:=Tryz.sizeOf5
 v5:=Tryz.zeroValue5
 t9:=Tryz.underlying9
 a9:=Tryz.isAgg9
 z9:=Tryz.sizeOf9
 v9:=Tryz.zeroValue9
 t12:=Tryz.underlying12
 a12:=Tryz.isAgg12
 z12:=Tryz.sizeOf12
 v12:=Tryz.zeroValue12
 t46:=Tryz.underlying133
 a46:=Tryz.isAgg133
 z46:=Tryz.sizeOf133
 v46:=Tryz.zeroValue133
 t53:=Tryz.underlying154
 a53:=Tryz.isAgg154
 z53:=Tryz.sizeOf154
 v53:=Tryz.zeroValue154
 t119:=Tryz.underlying88
 a119:=Tryz.isAgg88
 z119:=Tryz.sizeOf88
 t138:=Tryz.underlying135
 a138:=Tryz.isAgg135
 z138:=Tryz.sizeOf135
 v138:=Tryz.zeroValue135
 t139:=Tryz.underlying136
 a139:=Tryz.isAgg136
 z139:=Tryz.sizeOf136
 v139:=Tryz.zeroValue136
 g3:=by kernel_rfl
 g4:=by kernel_rfl }
open Go.RowKit Go.Lib in
theorem Tryz.utf8_ValidString (s:ByteArray)(w:World)(hs:s.size<=9223372036854775807)(hT:Lib.Utf8Tabs 1 2 w):Calls Tryz.prog 129 #[.string s] w λ e w'=>e=.returned (.bool (Lib.validD s.data.toList))/\Below w.heap.size w w':=Any.utf8_ValidString Tryz.lays196 s w hs hT
end Go.Proofs
end
section
namespace Go.Ab
open Go.Proofs Go.RowKit
def strings_IndexByte (s:Bytes)(c:Int):Option Int:=some (Lib.indexByte s c.toNat.toUInt8)
theorem gq (H1:Bytes)(c_1:Int)(r:Int)(h0:strings_IndexByte H1 c_1=some r):aB Tryz.prog 57 [eS H1,eK .u8 c_1] (·=.p (eI r)):=by
 cases h0
 refine aB.of_calls (l:=[.string (str H1),.int .u8 c_1]) λ w st hok=>(Tryz.strings_IndexByte _ _ w).mono ?_;rintro e w' ⟨rfl,rfl⟩;rw [lu];exact ⟨_,rfl,oQ _,λ _=>.p (.val _)⟩
def dG (r:Int):Option Bool:=some (Lib.validRune r)
theorem jj (I0:Int)(r:Bool)(h0:dG I0=some r):aB Tryz.prog 168 [eK .i32 I0] (·=.p (eB r)):=by
 cases h0
 refine aB.of_calls (l:=[.int .i32 I0]) λ w st hok=>(Tryz.utf8_ValidRune _ w).mono ?_;rintro e w' ⟨rfl,rfl⟩;exact ⟨_,rfl,oQ _,λ _=>.p (.val _)⟩
theorem yc {w:World}{g:Gh}{a b:Value}:ARep w g (.tuple [.p (.val a),.p (.val b)]) (.tuple #[a,b]):=by
 refine .tuple Z λ i c v h1 h2=>?_
 match i,h1,h2 with
 | 0,h1,h2=>simp at h1 h2; subst h1 h2; exact .p (.val _)
 | 1,h1,h2=>simp at h1 h2; subst h1 h2; exact .p (.val _)
 | n+2,h1,_=>simp at h1
def strings_HasPrefix (s p:Bytes):Option Bool:=some (Lib.hasPrefix s p)
theorem cV (H1 p_1:Bytes)(r:Bool)(h0:strings_HasPrefix H1 p_1=some r):aB Tryz.prog 76 [eS H1,eS p_1] (·=.p (eB r)):=by
 cases h0
 refine aB.of_calls (l:=[.string (str H1),.string (str p_1)]) λ w st hok=>(Tryz.strings_HasPrefix _ _ w).mono ?_;rintro e w' ⟨rfl,rfl⟩;rw [lu,lu];exact ⟨_,rfl,oQ _,λ _=>.p (.val _)⟩
theorem BG:(List.range 256).all (λ c=>match B7[c]? with | some (.int .u8 n)=>n == (Lib.firstT c:Int) | _=>false)=true:=by kernel_rfl
theorem ER:(List.range 16).all (λ c=>(match Cr[2*c]? with | some (.int .u8 n)=>n == (Lib.accLo c:Int) | _=>false)&&(match Cr[2*c+1]? with | some (.int .u8 n)=>n == (Lib.accHi c:Int) | _=>false))=true:=by kernel_rfl
theorem Du {o:Option GC}{m:Int}(h:(match o with | some (.int .u8 n)=>n == m | _=>false)=true):o=some (.int .u8 m):=by
 split at h
 ·rw [eq_of_beq h]
 ·cases h
theorem yo {w:World}{st:Nat->Nat->Prop}(h:mr w st):Lib.Utf8Tabs 1 2 w:=by
 refine ⟨λ c hc=>ug h Z (Du (rg.1 BG c (by simpa using hc))),λ i hi=>?_⟩;have:=rg.1 ER i (by simpa using hi);simp only [ro] at this;exact ⟨ug h Z (Du this.1),ug h Z (Du this.2)⟩
def bg (s:Bytes):Option (Int×Int):=some ((Lib.decodeGo (str s)).1,(Lib.decodeGo (str s)).2)
theorem d6 (H1:Bytes)(r:Int×Int)(h0:bg H1=some r):aB Tryz.prog 90 [eS H1] (·=.tuple [.p (eK .i32 r.1),.p (eI r.2)]):=by
 cases h0
 refine aB.of_calls (l:=[.string (str H1)]) λ w st hok=>(Tryz.utf8_DecodeRuneInString _ w (yo hok.gl)).mono ?_;rintro e w' ⟨rfl,hB⟩;exact ⟨_,rfl,hB,λ _=>yc⟩
def eT (s:Bytes):Option Bool:=ck (s.length<=9223372036854775807) <| some (Lib.validD s)
theorem lX (H1:Bytes)(r:Bool)(h0:eT H1=some r):aB Tryz.prog 129 [eS H1] (·=.p (eB r)):=by
 obtain ⟨hl,h0⟩:=fe h0
 cases h0
 refine aB.of_calls (l:=[.string (str H1)]) λ w st hok=>(Tryz.utf8_ValidString _ w (by rw [jw]; exact hl) (yo hok.gl)).mono ?_;rintro e w' ⟨rfl,hB⟩;rw [lu];exact ⟨_,rfl,hB,λ _=>.p (.val _)⟩
theorem yj (w:World)(e:TypeId)(t:ByteArray):Below w.heap.size w (Lib.bytesWorld w e t) :=
 ⟨Z,Z,Z,by rw [Lib.bytesWorld_size]; omega,λ k hk=>Lib.bytesWorld_at_old w e t k hk⟩
def iZ (s:Bytes)(b z:Int):Option (Int×Bool):=ck (b=10/\z=64/\s.length<=281474976710656) <| some (match Lib.parseIntB 64 s with | .ok v=>(v,false) | .range=>(Lib.intSat 64 s,true) | _=>(0,true))
theorem AG {w:World}{g:Gh}{a:Int}{t:TypeId}{v:Value}:ARep w g (.tuple [.p (eI a),.p (eE true)]) (.tuple #[.int .i64 a,.iface t v]):=by
 refine .tuple Z λ i c v h1 h2=>?_
 match i,h1,h2 with
 | 0,h1,h2=>simp at h1 h2; subst h1 h2; exact .p (.val _)
 | 1,h1,h2=>simp at h1 h2; subst h1 h2; exact .p (.ifc _ _)
 | n+2,h1,_=>simp at h1
theorem qd (H1:Bytes)(base_1 bitSize_2:Int)(r:Int×Bool)(h0:iZ H1 base_1 bitSize_2=some r):aB Tryz.prog 114 [eS H1,eI base_1,eI bitSize_2] (·=.tuple [.p (eI r.1),.p (eE r.2)]):=by
 obtain ⟨⟨rfl,rfl,hl⟩,h1⟩:=fe h0;have Ia:(str H1).size<=281474976710656:=by rw [jw]; exact hl
 refine aB.of_calls (l:=[.string (str H1),.int .i64 10,.int .i64 64]) λ w st hok=>?_
 cases hp:Lib.parseIntB 64 H1 with
 | ok v =>
  rw [hp] at h1; cases h1;refine (Tryz.strconv_ParseInt_10_at64_ok (str H1) O v (by rw [lu]; exact hp) w).mono ?_;rintro e w' ⟨rfl,h⟩;refine ⟨_,rfl,?_,λ _=>yc⟩;rcases h with rfl | ⟨t,rfl⟩
  ·exact oQ _
  ·exact yj _ _ _
 | range =>
  rw [hp] at h1; cases h1;obtain ⟨t,v,hv⟩:=ye hok.gl (g:=4) (j:=0) rfl rfl;refine (Tryz.strconv_ParseInt_10_at64_range (str H1) Ia (by rw [lu]; exact hp) _ w hv (.inr ⟨_,_,rfl⟩)).mono ?_;rintro e w' ⟨N,rfl,_,_,hB⟩;rw [lu];exact ⟨_,rfl,hB,λ _=>AG⟩
 | _ =>
  rw [hp] at h1; cases h1;obtain ⟨t,v,hv⟩:=ye hok.gl (g:=3) (j:=0) rfl rfl;refine (Tryz.strconv_ParseInt_10_at64_syntax (str H1) Ia (by rw [lu]; exact hp) _ w hv (.inr ⟨_,_,rfl⟩)).mono ?_;rintro e w' ⟨N,rfl,_,_,hB⟩;exact ⟨_,rfl,hB,λ _=>AG⟩
end Go.Ab
namespace Go.Ab
open Go.Proofs Go.RowKit Go
end Go.Ab
namespace Go.Ab
open Go.Proofs Go.RowKit Go
theorem decN (n b0 b1 b2 b3:Nat)(hn:1<=n)(h0:b0 < 256):1<=(Lib.decodeN n b0 b1 b2 b3).2/\(Lib.decodeN n b0 b1 b2 b3).2<=n/\(Lib.decodeN n b0 b1 b2 b3).2<=4 /\
  ((Lib.decodeN n b0 b1 b2 b3).1 < 128->(Lib.decodeN n b0 b1 b2 b3).2=1/\(Lib.decodeN n b0 b1 b2 b3).1=b0) /\
  (128<=(Lib.decodeN n b0 b1 b2 b3).1->128<=b0/\(2<=(Lib.decodeN n b0 b1 b2 b3).2->128<=b1)/\(3<=(Lib.decodeN n b0 b1 b2 b3).2->128<=b2)/\(4<=(Lib.decodeN n b0 b1 b2 b3).2->128<=b3)) /\
  ((Lib.decodeN n b0 b1 b2 b3).1 < 55296\/(57343 < (Lib.decodeN n b0 b1 b2 b3).1/\(Lib.decodeN n b0 b1 b2 b3).1<=1114111)):=by
 unfold Lib.decodeN
 repeat' split
 all_goals (refine ⟨by dsimp only; omega,by dsimp only; omega,by dsimp only; omega,λ h=>⟨by dsimp only at h ⊢; first | done | omega,by dsimp only at h ⊢; first | done | omega⟩,λ h=>⟨by dsimp only at h; omega,λ k=>by dsimp only at k; omega,λ k=>by dsimp only at k; omega,λ k=>by dsimp only at k; omega⟩,by dsimp only; omega⟩)
end Go.Ab
end
section
namespace Go.Ab
open Go.MapKept
section
variable {α:Type}
end
section
variable {C:Cx} {o:Oper} {K:AS->Prop} {sl:List (Nat×AV)} {ob:List (Nat×List AV)} {d:Nat}
theorem D1 {d:Nat}(hd:d < M1):∀ i,Nat.beq i d=true->i < M1:=λ i hi=>by have:=la hi; omega
end
end Go.Ab
end
section
namespace Go.Ab
open Go.MapKept
/- As 'dem',for identities of any size; what is known of maps of rows is given up. -/
mutual
def AV.dm2 (D:Nat->Bool):AV->AV
 | .undef=>.undef
 | .p x=>.p x
 | .agg cs=>.agg (Bt D cs)
 | .vec tok sz ty es=>bif D tok then .p (.slice es) else .vec tok sz ty es
 | .arr id sz off n=>bif D id then .undef else .arr id sz off n
 | .ptr id off=>bif D id then .undef else .ptr id off
 | .bptr T sz id=>bif D id then .undef else .bptr T sz id
 | .rptr cs=>.rptr cs
 | .tuple cs=>.tuple (Bt D cs)
 | .func f cs=>.func f (Bt D cs)
 | .mp tok kvs=>bif D tok then .undef else .mp tok kvs
 | .mpr ..=>.undef
 | .stk tok sz es=>bif D tok then .undef else .stk tok sz es
 | .sem _=>.undef
 | .it ..=>.undef
 | .vecp ..=>.undef
 | .elp ..=>.undef
def Bt (D:Nat->Bool):List AV->List AV
 | []=>[]
 | x::r=>x.dm2 D::Bt D r
end
theorem tp (D:Nat->Bool):∀ l,Bt D l=l.map (AV.dm2 D)
 | []=>rfl
 | x::r=>by simp [Bt,tp D r]
theorem ARep.dm2 {D:Nat->Bool}{w w':World}{g g':Gh}(ev:Ev w g.st w' g'.st)(ow:∀ id b,D id=false->g.ow id=some b->g'.ow id=some b)
  (shape:∀ id b c e,D id=false->g.ow id=some b->w.heap[b]? = some (.cells c e (0,0))->∃ c':Array Value,w'.heap[b]? = some (.cells c' e (0,0))/\c'.size=c.size)
  (tip:∀ id b o,D id=false->g.ow id=some b->g'.st b o->g.st b o)
  (mp:∀ id b es k,D id=false->g.ow id=some b->w.heap[b]? = some (.map es k)->w'.heap[b]? = some (.map es k))
  (stab:∀ id b o,D id=false->g.ow id=some b->g.st b o->w'.heap[b]? = w.heap[b]?) {x:AV} {v:Value} (h:ARep w g x v):ARep w' g' (x.dm2 D) v:=by
 induction h with
 | undef v=>simp only [AV.dm2]; exact .undef _
 | p h=>simp only [AV.dm2]; exact .p (h.mono ev)
 | agg hl h ih =>
  simp only [AV.dm2,tp];refine .agg (by simpa using hl) λ i c v h1 h2=>?_;simp only [List.getElem?_map,ph] at h1;obtain ⟨c0,h1,rfl⟩:=h1;exact ih i c0 v h1 h2
 | vecn tok sz ty =>
  simp only [AV.dm2]
  cases D tok
  ·exact .vecn _ _ _
  ·exact .p .nils
 | vece tok sz a =>
  simp only [AV.dm2]
  cases D tok
  ·exact .vece _ _ _
  ·exact .p (.nile a)
 | vec how hb Il Ia Ik hr hty =>
  simp only [AV.dm2]
  cases hD:D _
  ·obtain ⟨c',hb',hs'⟩:=shape _ _ _ _ hD how hb;exact .vec (ow _ _ hD how) hb' (hs'.trans Il) Ia (λ o=>⟨λ h=>(Ik o).1 (tip _ _ o hD how h),λ h=>(ev _ _ ((Ik o).2 h)).1⟩) (hr.mono ev) hty
  ·exact .p (hr.mono ev)
 | arr how hb Il hn =>
  simp only [AV.dm2]
  cases hD:D _
  ·obtain ⟨c',hb',hs'⟩:=shape _ _ _ _ hD how hb;exact .arr (ow _ _ hD how) hb' (hs'.trans Il) hn
  ·exact .undef _
 | ptr how =>
  simp only [AV.dm2]
  cases hD:D _
  ·exact .ptr (ow _ _ hD how)
  ·exact .undef _
 | bptrn how hb Il =>
  simp only [AV.dm2]
  cases hD:D _
  ·obtain ⟨c',hb',hs'⟩:=shape _ _ _ _ hD how hb;exact .bptrn (ow _ _ hD how) hb' (hs'.trans Il)
  ·exact .undef _
 | bptr how hb Il =>
  simp only [AV.dm2]
  cases hD:D _
  ·obtain ⟨c',hb',hs'⟩:=shape _ _ _ _ hD how hb;exact .bptr (ow _ _ hD how) hb' (hs'.trans Il)
  ·exact .undef _
 | rptr cf hc hr =>
  simp only [AV.dm2];exact .rptr cf (λ j c h=>⟨(ev _ _ (hc j c h).1).1,(ev _ _ (hc j c h).1).2.trans (hc j c h).2⟩) (λ j c h=>(hr j c h).mono ev)
 | tuple hl h ih =>
  simp only [AV.dm2,tp];refine .tuple (by simpa using hl) λ i c v h1 h2=>?_;simp only [List.getElem?_map,ph] at h1;obtain ⟨c0,h1,rfl⟩:=h1;exact ih i c0 v h1 h2
 | func hl h ih =>
  simp only [AV.dm2,tp];refine .func (by simpa using hl) λ i c v h1 h2=>?_;simp only [List.getElem?_map,ph] at h1;obtain ⟨c0,h1,rfl⟩:=h1;exact ih i c0 v h1 h2
 | mp how hb hn hd hk hv =>
  simp only [AV.dm2]
  cases hD:D _
  ·exact .mp (ow _ _ hD how) (mp _ _ _ _ hD how hb) hn hd hk (λ i e kv h1 h2=>(hv i e kv h1 h2).mono ev)
  ·exact .undef _
 | mpr=>simp only [AV.dm2]; exact .undef _
 | stkn tok sz =>
  simp only [AV.dm2]
  cases D tok
  ·exact .stkn _ _
  ·exact .undef _
 | stke tok sz a =>
  simp only [AV.dm2]
  cases D tok
  ·exact .stke _ _ _
  ·exact .undef _
 | stk how hb Il H0 Ia Iv Ik hr =>
  simp only [AV.dm2]
  cases hD:D _
  ·exact .stk (ow _ _ hD how) ((stab _ _ _ hD how ((Ik _).2 rfl)).trans hb) Il H0 Ia Iv (λ o=>⟨λ h=>(Ik o).1 (tip _ _ o hD how h),λ h=>(ev _ _ ((Ik o).2 h)).1⟩) (λ i x j p h1 h2=>by obtain ⟨v,h3,h4⟩:=hr i x j p h1 h2; exact ⟨v,h3,h4.mono ev⟩)
  ·exact .undef _
 | sem=>simp only [AV.dm2]; exact .undef _
 | it=>simp only [AV.dm2]; exact .undef _
 | vecp=>simp only [AV.dm2]; exact .undef _
 | elp=>simp only [AV.dm2]; exact .undef _
def He (e t:Nat)(i:Nat):Bool:=Nat.beq i e||Nat.beq i t||Nat.ble MZ i
def tkA (tok e:Nat)(y x:AV):AV:=match x with
 | .mpr t _ _ _ _=>bif Nat.beq t tok then y else .undef
 | x=>x.dm2 (He e tok)
def tkS (tok e:Nat)(y:AV):List (Nat×AV)->Option (List (Nat×AV))
 | []=>some []
 | (i,x)::r=>(match frc (tkA tok e y x) with
  | some z=>(match tkS tok e y r with | some l=>some ((i,z)::l) | none=>none)
  | none=>none)
section
variable {C:Cx} {o:Oper} {K:AS->Prop} {sl:List (Nat×AV)} {ob:List (Nat×List AV)} {d:Nat}
end
end Go.Ab
end
section
namespace Go.Ab
section
variable {C:Cx} {o:Oper} {K:AS->Prop} {sl:List (Nat×AV)} {ob:List (Nat×List AV)} {d:Nat}
end
theorem FT (D:Nat->Bool):∀ (l:List PV),dmC D (l.map .p)=some (l.map .p)
 | []=>rfl
 | x::r=>by
  have h:=FT D r;simp only [bx,dmC,AV.dem,h]
  first | rfl | (simp [frc])
theorem wq {D:Nat->Bool}{i:Nat}{l:List PV}{r r':List (Nat×List AV)}(h:D i=false)(hr:dmO D r=some r'):dmO D ((i,l.map .p)::r)=some ((i,l.map .p)::r'):=by
 simp only [dmO,h,FT,hr]
theorem tN {D:Nat->Bool}{i:Nat}{cs:List AV}{r r':List (Nat×List AV)}(h:D i=true)(hr:dmO D r=some r'):dmO D ((i,cs)::r)=some r':=by
 simp only [dmO,h,hr]
theorem wn {D:Nat->Bool}{i:Nat}{cs ds:List AV}{r r':List (Nat×List AV)}(h:D i=false)(hc:dmC D cs=some ds)(hr:dmO D r=some r'):dmO D ((i,cs)::r)=some ((i,ds)::r'):=by
 simp only [dmO,h,hc,hr]
section
variable {C:Cx} {o:Oper} {K:AS->Prop} {sl:List (Nat×AV)} {ob:List (Nat×List AV)} {d:Nat}
end
end Go.Ab
end
section
namespace Go.Ab
section
variable {C:Cx} {o:Oper} {K:AS->Prop} {sl:List (Nat×AV)} {ob:List (Nat×List AV)} {d:Nat}
end
end Go.Ab
end
section
namespace Go.Ab
@[irreducible] def sM (n:Nat):List UInt8:=List.replicate n 0
section
variable {C:Cx} {o:Oper} {K:AS->Prop} {sl:List (Nat×AV)} {ob:List (Nat×List AV)} {d:Nat}
theorem wh {α:Type} [Inhabited α] (f:α->PV)(l:List α){t m e:Nat}{x y:Operand}{i ie:TI}{k:IntKind}{n:Int}(ho:o.op=.index t x y)(hd:o.dst=some d)(hn:Nat.blt d C.n=true)
  (hi:look C.tt t=some i) (Ip:i.k=.array m e) (hie:look C.tt e=some ie) (hia:ie.k.isAgg=false) (hs1:ie.size=1) (hm:Nat.beq m l.length=true) (hx:evo sl x=some (.p (.agg (l.map f))))
  (hy:evo sl y=some (.p (.val (.int k n)))) (hb:0<=n/\n < (l.length:Int)) (hK:K ⟨(d,.p (f (lat l n)))::sl,ob⟩):bq C o K ⟨sl,ob⟩:=by
 obtain ⟨u,h1,h2⟩:=cm C.good hi;have h3:=qt (h2.trans Ip);subst h3;have hm':=la hm;refine ok_one hd hn (λ g a w hs=>?_) hK;have h5:=bV hs hx;generalize hv:a.eval x=v at h5
 cases h5 with
 | p h5 =>
  cases h5 with
  | agg hl hh =>
   rename_i vs;have hlt:n.toNat < l.length:=by omega
   have hlt2:n.toNat < vs.size:=by rw [hl]; simpa using hlt
   have hnm:n < (m:Int):=by omega
   refine ⟨vs[n.toNat],by simp [execOp,ho,hv,ct hs hy,Instr.index,asIntOf,run_underlying h1,hb.1,hnm,run_sizeOf C.good hie,hs1,part,nQ C.good hie,hia,hlt2],.p (hh n.toNat (f (lat l n)) _ ?_ (Array.getElem?_eq_getElem hlt2))⟩;simp [lat,List.getElem?_map,List.getElem?_eq_getElem hlt,List.getD_eq_getElem?_getD]
theorem bj {t:TypeId}{x:Operand}{i:TI}{id k:Nat}{cs:List AV}{y:AV}(ho:o.op=.load t x)(hd:o.dst=some d)(hn:Nat.blt d C.n=true)
  (hi:look C.tt t=some i) (hia:i.k.isAgg=false) (hx:evo sl x=some (.ptr id k)) (hob:look ob id=some cs) (hy:cs[k]? = some y) (hK:K ⟨(d,y)::sl,ob⟩):bq C o K ⟨sl,ob⟩ :=
 ef ho hd hn hi hia hx hob hy hK
theorem Bb {t:TypeId}{x:Operand}{i:TI}{id k:Nat}{cs:List AV}{y:AV}(ho:o.op=.load t x)(hd:o.dst=some d)(hn:Nat.blt d C.n=true)
  (hi:look C.tt t=some i) (hia:i.k.isAgg=true) (hx:evo sl x=some (.ptr id k)) (hob:look ob id=some cs) (hl:Nat.ble (k+i.size) cs.length=true) (hy:lB ((cs.drop k).take i.size)=y)
  (hK:K ⟨(d,y)::sl,ob⟩):bq C o K ⟨sl,ob⟩:=jf ho hd hn hi hia hx hob hl (congrArg some hy) hK
theorem eO {t:TypeId}{x v:Operand}{i:TI}{id k:Nat}{cs xs ds:List AV}{y:AV}(ho:o.op=.store t x v)(hd:o.dst=none)
  (hi:look C.tt t=some i) (hx:evo sl x=some (.ptr id k)) (hv:evo sl v=some y) (hc:y.cellsA=some xs) (Ia:Nat.beq xs.length i.size=true) (hob:look ob id=some cs) (hl:k+xs.length<=cs.length) (hu:nc cs k xs=ds)
  (hK:K ⟨sl,(id,ds)::ob⟩):bq C o K ⟨sl,ob⟩:=by
 subst hu;exact il ho hd hi hx hv hc (la Ia) hob hl hK
theorem vE {α:Type}(f:α->PV)(hf:∀ x,(f x).one=true):∀ l:List α,AV.onesB ((l.map f).map .p)=true
 | []=>rfl
 | x::r=>by simp only [bx,AV.onesB,AV.one,hf x,vE f hf r,Bool.and_self]
theorem vN {α:Type}(f:α->PV)(l:List α){t:TypeId}{i:TI}{sl':List (Nat×AV)}{ob':List (Nat×List AV)}(hf:∀ x,(f x).one=true)(ho:o.op=.alloc t)(hd:o.dst=some d)(hn:Nat.blt d C.n=true)
  (hi:look C.tt t=some i) (hz:eP i=(l.map f).map .p) (h1:dmS (λ i=>Nat.beq i d) sl=some sl') (h2:dmO (λ i=>Nat.beq i d) ob=some ob') (hK:K ⟨(d,.ptr d 0)::sl',(d,(l.map f).map .p)::ob'⟩):bq C o K ⟨sl,ob⟩:=by
 refine io ho hd hn hi ?_ ?_
 ·rw [hz]; simp only [AV.cellsA,vE f hf l,cond_true]
 ·rw [hz,nA];have e1:(cM (λ i=>Nat.beq i d) ⟨sl,ob⟩).sl=sl':=(rJ h1).symm;have e2:(cM (λ i=>Nat.beq i d) ⟨sl,ob⟩).ob=ob':=(qp h2).symm;rw [e1,e2]; exact hK
theorem FD (cs:List PV){t:TypeId}{v:Operand}{sl':List (Nat×AV)}{ob':List (Nat×List AV)}(ho:o.op=.box t v)(hd:o.dst=some d)(hn:Nat.blt d C.n=true)(hx:evo sl v=some (.p (.agg cs)))(h0:PV.onesB cs=true)
  (h1:dmS (λ i=>Nat.beq i d) sl=some sl') (h2:dmO (λ i=>Nat.beq i d) ob=some ob') (hK:K ⟨(d,.ptr d 0)::sl',(d,cs.map .p)::ob'⟩):bq C o K ⟨sl,ob⟩:=by
 refine w4 ho hd hn hx (cs:=cs.map .p) (by simp only [AV.cellsA,h0,cond_true]) ?_;rw [nA];have e1:(cM (λ i=>Nat.beq i d) ⟨sl,ob⟩).sl=sl':=(rJ h1).symm;have e2:(cM (λ i=>Nat.beq i d) ⟨sl,ob⟩).ob=ob':=(qp h2).symm;rw [e1,e2]; exact hK
theorem BJ {α:Type}(f:α->PV)(l:List α){t:TypeId}{x:Operand}{i:TI}{id:Nat}(ho:o.op=.load t x)(hd:o.dst=some d)(hn:Nat.blt d C.n=true)
  (hi:look C.tt t=some i) (hia:i.k.isAgg=true) (hx:evo sl x=some (.ptr id 0)) (hob:look ob id=some ((l.map f).map .p)) (hl:Nat.beq i.size l.length=true)
  (hK:K ⟨(d,.p (.agg (l.map f)))::sl,ob⟩):bq C o K ⟨sl,ob⟩:=by
 have hl':=la hl;refine jf ho hd hn hi hia hx hob (by simp [hl']) (y:=.p (.agg (l.map f))) (congrArg some ?_) hK
 have e:(((l.map f).map AV.p).drop 0).take i.size=(l.map f).map AV.p:=by
  rw [List.drop_zero,hl']; exact List.take_of_length_le G
 rw [e]
 have ha:∀ q:List PV,uE (q.map .p)=some q:=by
  intro q
  induction q with
  | nil=>rfl
  | cons x r ih=>simp only [bx,uE,ih]
 simp only [lB,ha]
theorem uO:∀ q:List PV,uE (q.map .p)=some q
 | []=>rfl
 | x::r=>by simp only [bx,uE,uO r]
theorem EL {α:Type}(f:α->PV)(l:List α){tt:List (Nat×TI)}{rs:List ResultVar}{s:AS}{c id:Nat}{t:TypeId}{i:TI}(hr:rs=[.cell c t])(hc:look s.sl c=some (.ptr id 0))(hob:look s.ob id=some ((l.map f).map .p))(hi:look tt t=some i)(hia:i.k.isAgg=true)
  (hl:Nat.beq i.size l.length=true):nb tt rs s=some [.p (.agg (l.map f))]:=by
 have hl':=la hl;subst hr
 have e:(((l.map f).map AV.p).drop 0).take i.size=(l.map f).map AV.p:=by
  rw [List.drop_zero,hl']; exact List.take_of_length_le G
 have e2:Nat.ble (0+i.size) ((l.map f).map AV.p).length=true:=by simp [hl']
 simp only [nb,hc,hob,hi,hia,cond_true,e,e2,lB,uO]
theorem zu {α:Type}(f:α->PV)(l l2:List α){t:TypeId}{x v:Operand}{i:TI}{id:Nat}(ho:o.op=.store t x v)(hd:o.dst=none)
  (hi:look C.tt t=some i) (hx:evo sl x=some (.ptr id 0)) (hv:evo sl v=some (.p (.agg (l2.map f)))) (hob:look ob id=some ((l.map f).map .p)) (hf:∀ x,(f x).one=true) (hl:Nat.beq i.size l.length=true) (hl2:Nat.beq i.size l2.length=true)
  (hK:K ⟨sl,(id,(l2.map f).map .p)::ob⟩):bq C o K ⟨sl,ob⟩:=by
 have e1:=la hl;have e2:=la hl2
 have ho1:∀ q:List α,PV.onesB (q.map f)=true:=by
  intro q
  induction q with
  | nil=>rfl
  | cons x r ih=>simp only [bx,PV.onesB,hf x,ih,Bool.and_self]
 refine eO (xs:=(l2.map f).map .p) ho hd hi hx hv (by simp only [AV.cellsA,ho1 l2,cond_true]) (by simp [e2]) hob (by simp; omega) ?_ hK;unfold nc;split
 ·rename_i y hy;have h3:=congrArg List.length hy;simp only [n7,aq,cl] at h3;rw [hy]
  match l,e1 with
  | [z],_=>rfl
  | [],e1=>simp at e1; omega
  | _::_::_,e1=>simp at e1; omega
 ·rw [List.take_zero,List.nil_append,List.drop_eq_nil_of_le (by simp; omega),List.append_nil]
theorem CX {t:TypeId}{x:Operand}{s:List UInt8}{i:TI}{sl':List (Nat×AV)}{ob':List (Nat×List AV)}(ho:o.op=.range t x)(hd:o.dst=some d)(hn:Nat.blt d C.n=true)
  (hi:look C.tt t=some i) (Ip:i.k=.string) (hx:evo sl x=some (.p (.val (.string ⟨s.toArray⟩)))) (h1:dmS (Nat.beq · d) sl=some sl') (h2:dmO (Nat.beq · d) ob=some ob')
  (hK:K ⟨(d,.it d s 0)::sl',ob'⟩):bq C o K ⟨sl,ob⟩:=by
 obtain ⟨u,hu1,hu2⟩:=cm C.good hi;have h3:=jN (hu2.trans Ip);subst h3;intro g a w hs;have hdl:d < M1:=by have h1:=th C.nl; have h2:d < C.n:=mv ▸ hn; omega
 unfold Oper.wp
 have hrun:(execOp a.eval o).run C.P w=.ok (.value (.pointer (some ⟨w.heap.size,0,none⟩))) (w.alloc (.stringIter ⟨s.toArray⟩ 0)):=by
  simp [execOp,ho,Instr.range,ct hs hx,run_underlying hu1,newObj,Sem.run,Result.andThen]
 rw [hrun];obtain ⟨g',hg'⟩:∃ g':Gh,g'=⟨λ b o=>g.st b o\/(b=w.heap.size/\o=0),λ i=>if i=d then some w.heap.size else g.ow i⟩:=⟨_,rfl⟩
 have Ia:(w.alloc (.stringIter ⟨s.toArray⟩ 0)).heap.size=w.heap.size+1:=by simp
 have Ij:Ev w g.st (w.alloc (.stringIter ⟨s.toArray⟩ 0)) g'.st:=λ b o h=>⟨by rw [hg']; exact .inl h,World.cell?_alloc_lt w _ _ (hs.lt b o h)⟩
 have hs':St C.n C.w0 C.F g' (cM (Nat.beq · d) ⟨sl,ob⟩) a (w.alloc (.stringIter ⟨s.toArray⟩ 0)):=by
  subst hg';refine hs.evolve (Nat.beq · d) (D1 hdl) Ij (λ id b hD h=>?_) (λ i j b hi hj=>?_) (λ i b hi=>?_) (λ b o h=>?_) (λ b hb=>?_) Z Z Z O (λ b hb o=>?_) (λ i hi=>?_)
  ·have Iw:id≠d:=λ e=>by subst e; simp at hD
   have hlt:=(hs.own id b h).1;exact ⟨by simp only [if_neg Iw]; exact h,dB hlt,λ o h=>h.resolve_right λ e=>by omega⟩
  ·dsimp only at hi hj;by_cases e1:i=d <;> by_cases e2:j=d
   ·omega
   ·rw [if_pos e1] at hi; rw [if_neg e2] at hj; cases hi; have:=(hs.own j _ hj).1; omega
   ·rw [if_neg e1] at hi; rw [if_pos e2] at hj; cases hj; have:=(hs.own i _ hi).1; omega
   ·rw [if_neg e1] at hi; rw [if_neg e2] at hj; exact hs.inj i j b hi hj
  ·dsimp only at hi;by_cases e1:i=d
   ·rw [if_pos e1] at hi; cases hi;exact ⟨by omega,λ hF=>by have:=hs.fl _ hF; have:=hs.size; omega⟩
   ·rw [if_neg e1] at hi; have:=hs.own i b hi; exact ⟨by omega,this.2⟩
  ·rcases h with h | h
   ·have:=hs.lt b o h; omega
   ·omega
  ·exact dB (by have:=hs.fl b hb; have:=hs.size; omega)
  ·have h1:=hs.fl b hb;have h2:=hs.size;exact ⟨λ h=>h.resolve_right λ e=>by omega,.inl⟩
  ·dsimp only;rw [if_neg O]
 refine ⟨g',⟨(d,.it d s 0)::sl',ob'⟩,?_,hK⟩
 have hp:=hs'.put (d:=o.dst) (λ t ht=>by rw [hd] at ht; cases ht; exact mv ▸ hn) (x:=.it d s 0) (v:=.pointer (some ⟨w.heap.size,0,none⟩))
  (.it (by rw [hg']; simp) fE (by rw [hg']; exact .inr ⟨Z,Z⟩))
 rw [hd] at hp ⊢;rw [rJ h1,qp h2];exact hp
theorem xi {n:Nat}{w0:Base}{w:World}{F:Nat->Prop}{g:Gh}{s:AS}{a:Act}(_hs:St n w0 F g s a w){tok pos:Nat}{l:List UInt8}{v:Value}(h:ARep w g (.it tok l pos) v) :
  ∃ b,v=.pointer (some ⟨b,0,none⟩)/\g.ow tok=some b/\w.heap[b]? = some (.stringIter ⟨l.toArray⟩ pos)/\g.st b 0:=by
 cases h with
 | it how hb hm=>exact ⟨_,Z,how,hb,hm⟩
theorem D3 {x:Operand}{s:List UInt8}{tok pos:Nat}(ho:o.op=.next x true)(hd:o.dst=some d)(hn:Nat.blt d C.n=true)
  (hx:evo sl x=some (.it tok s pos)) (hp:¬ pos < s.length) (hK:K ⟨(d,.tuple [.p (eB false)])::sl,ob⟩):bq C o K ⟨sl,ob⟩:=by
 refine ok_one hd hn (λ g a w hs=>?_) hK;obtain ⟨b,hv,_,hb,_⟩:=xi hs (bV hs hx);refine ⟨.tuple #[.bool false],?_,.tuple rfl λ i c v h1 h2=>?_⟩
 ·have Ia:¬ pos < (⟨s.toArray⟩:ByteArray).size:=by simpa [ByteArray.size] using hp
  have:=Go.Lib.run_next_end_at (P:=C.P) w b ⟨s.toArray⟩ pos o.type hb Ia;simp [execOp,ho,hv,this]
 ·match i,h1,h2 with
  | 0,h1,h2=>simp at h1 h2; subst h1 h2; exact .p (.val _)
theorem B6 {j:Nat}{s:List UInt8}{tok pos:Nat}{sl':List (Nat×AV)}{ob':List (Nat×List AV)}(ho:o.op=.next (.tmp j) true)(hd:o.dst=some d)(hn:Nat.blt d C.n=true)(hj:Nat.blt j C.n=true)
  (hx:evo sl (.tmp j)=some (.it tok s pos)) (htok:Nat.blt tok M1=true) (hp:pos < s.length) (ha:(s.getD pos 0).toNat < 128) (h1:dmS (Nat.beq · tok) sl=some sl') (h2:dmO (Nat.beq · tok) ob=some ob')
  (_hdj:Nat.beq d j=false) (hK:K ⟨(d,.tuple [.p (eB true),.p (eI (pos:Int)),.p (eK .i32 ((s.getD pos 0).toNat:Int))])::(j,.it tok s (pos+1))::sl',ob'⟩):bq C o K ⟨sl,ob⟩:=by
 intro g a w hs;obtain ⟨b,hv,how,hb,hm⟩:=xi hs (bV hs hx);have htl:tok < M1:=mv ▸ htok;have hbl:=(hs.own tok b how).1;unfold Oper.wp;have Ia:pos < (⟨s.toArray⟩:ByteArray).size:=by simpa [ByteArray.size] using hp
 have hg0:(⟨s.toArray⟩:ByteArray)[pos]'Ia=s.getD pos 0:=by
  rw [List.getD_eq_getElem?_getD,List.getElem?_eq_getElem hp]; rfl
 have hnx:=Go.Lib.run_next_ascii_at (P:=C.P) w b ⟨s.toArray⟩ pos o.type hb Ia (by rw [hg0]; exact ha);rw [hg0] at hnx
 have hrun:(execOp a.eval o).run C.P w=.ok (.value (.tuple #[.bool true,.int .i64 pos,.int .i32 (s.getD pos 0).toNat])) (w.iterAt b ⟨s.toArray⟩ (pos+1)):=by
  simp [execOp,ho,hv,hnx]
 rw [hrun]
 have hheap:∀ b',b'≠b->(w.iterAt b ⟨s.toArray⟩ (pos+1)).heap[b']? = w.heap[b']?:=λ b' Iw=>by
  simp only [World.iterAt,Array.getElem?_setIfInBounds];rw [if_neg O]
 have hheapb:=Go.Lib.iterAt_heap w b ⟨s.toArray⟩ pos (pos+1) hb;have hwsz:(w.iterAt b ⟨s.toArray⟩ (pos+1)).heap.size=w.heap.size:=by simp [World.iterAt]
 have Ig:∀ b' o',(w.iterAt b ⟨s.toArray⟩ (pos+1)).cell? ⟨b',o',none⟩=w.cell? ⟨b',o',none⟩:=λ b' o'=>by
  by_cases e:b'=b
  ·subst e;simp only [World.cell?,hheapb,hb]
  ·simp only [World.cell?,hheap b' e]
 have hs':St C.n C.w0 C.F g (cM (Nat.beq · tok) ⟨sl,ob⟩) a (w.iterAt b ⟨s.toArray⟩ (pos+1)):=by
  refine hs.evolve (Nat.beq · tok) (D1 htl) (λ b' o' h=>⟨h,Ig b' o'⟩) (λ id b' hD h=>⟨h,hheap b' λ e=>?_,λ o h=>h⟩) hs.inj (λ i b' h=>by rw [hwsz]; exact hs.own i b' h) (λ b' o' h=>by rw [hwsz]; exact hs.lt b' o' h) (λ b' hb'=>hheap b' λ e=>?_) Z Z Z O (λ b' _ o'=>Iff.rfl) (λ i _=>rfl)
  ·subst e;have:=hs.inj id tok b' h how;subst this;simp at hD
  ·subst e;exact (hs.own tok b' how).2 hb'
 have hjd:j < C.n:=mv ▸ hj;refine ⟨g,⟨(d,.tuple [.p (eB true),.p (eI (pos:Int)),.p (eK .i32 ((s.getD pos 0).toNat:Int))])::(j,.it tok s (pos+1))::sl',ob'⟩,?_,hK⟩
 have hs2:St C.n C.w0 C.F g ⟨(j,.it tok s (pos+1))::sl',ob'⟩ a (w.iterAt b ⟨s.toArray⟩ (pos+1)):=by
  rw [rJ h1,qp h2];refine { hs' with sl:=λ i=>?_ };simp only [AS.get,br];by_cases e:j=i
  ·subst e;rw [if_pos rfl];simp only [sm];have:a.eval (.tmp j)=a.tmps.getD j Go.undef:=rfl;rw [<- this,hv];exact .it how hheapb hm
  ·rw [if_neg e];exact hs'.sl i
 have hp2:=hs2.put (d:=o.dst) (λ t ht=>by rw [hd] at ht; cases ht; exact mv ▸ hn) (x:=.tuple [.p (eB true),.p (eI (pos:Int)),.p (eK .i32 ((s.getD pos 0).toNat:Int))]) (v:=.tuple #[.bool true,.int .i64 pos,.int .i32 (s.getD pos 0).toNat])
  (.tuple Z λ i c v h1 h2=>by
   match i,h1,h2 with
   | 0,h1,h2=>simp at h1 h2; subst h1 h2; exact .p (.val _)
   | 1,h1,h2=>simp at h1 h2; subst h1 h2; exact .p (.val _)
   | 2,h1,h2=>simp at h1 h2; subst h1 h2; exact .p (.val _))
 rw [hd] at hp2 ⊢;exact hp2
end
end Go.Ab
end
section
namespace Go.Ab
def i7:List UInt8:=[0,0,0,0,0,0,0,0,0,1,6,0,0,1,0,0,0,0,0,0,0,0,0,0,0,0,0,0,0,0,0,0,1,4,5,7,0,4,4,0,4,4,4,4,4,4,4,4,3,3,3,3,3,3,3,3,3,3,4,0,4,4,4,4,0,2,2,2,2,2,2,2,2,2,2,2,2,2,2,2,2,2,2,2,2,2,2,2,2,2,2,4,0,4,0,2,0,2,2,2,2,2,2,2,2,2,2,2,2,2,2,2,2,2,2,2,2,2,2,2,2,2,2,4,4,4,0,0,0,0,0,0,0,0,0,0,0,0,0,0,0,0,0,0,0,0,0,0,0,0,0,0,0,0,0,0,0,0,0,0,0,0,0,0,0,0,0,0,0,0,0,0,0,0,0,0,0,0,0,0,0,0,0,0,0,0,0,0,0,0,0,0,0,0,0,0,0,0,0,0,0,0,0,0,0,0,0,0,0,0,0,0,0,0,0,0,0,0,0,0,0,0,0,0,0,0,0,0,0,0,0,0,0,0,0,0,0,0,0,0,0,0,0,0,0,0,0,0,0,0,0,0,0,0,0,0]
theorem xh:i7.length=256:=by kernel_rfl
def C7:List PV:=i7.map eU
theorem mx:C7.length=256:=by rw [C7,n7,xh]
structure ac where
 fs:Bytes
 fat:Int
 HV:Int
 AT:ap
 deriving Inhabited
def ac.cs (x:ac):List PV:=eS x.fs::eI x.fat::(C7++[eI x.HV,eI x.AT.Ar,eI x.AT.fAt,eS x.AT.AI])
theorem ac.len (x:ac):((ac.cs x).map AV.p).length=262:=by simp [ac.cs,mx]
theorem ac.g_s (x:ac):((ac.cs x).map AV.p)[0]? = some (.p (eS x.fs)):=rfl
theorem ac.g_at (x:ac):((ac.cs x).map AV.p)[1]? = some (.p (eI x.fat)):=rfl
theorem ac.g_outer (x:ac):((ac.cs x).map AV.p)[2+256]? = some (.p (eI x.HV)):=by
 simp only [ac.cs,bx,List.map_append,List.getElem?_cons_succ];rw [List.getElem?_append_right (by simp [mx])];simp [mx]
theorem ac.g_class (x:ac){n:Int}(h:0<=n/\n < 256):((ac.cs x).map AV.p)[2+n.toNat*1]? = some (.p (eU (lat i7 n))):=by
 have hn:n.toNat < 256:=by omega
 have e:2+n.toNat*1=n.toNat+1+1:=by omega
 rw [e];simp only [ac.cs,bx,List.map_append,List.getElem?_cons_succ];rw [List.getElem?_append_left (by simp [mx]; omega)];simp [C7,lat,List.getElem?_map,List.getElem?_eq_getElem (show n.toNat < i7.length by rw [xh]; exact hn)]
def ac.hd (x:ac):List AV:=(eS x.fs::eI x.fat::(C7++[eI x.HV])).map .p
theorem ac.hd_len (x:ac):x.hd.length=259:=by simp [ac.hd,mx]
theorem ac.cs_hd (x:ac):(ac.cs x).map AV.p=x.hd++(ap.cs x.AT).map .p:=by
 simp [ac.cs,ac.hd,ap.cs]
theorem ac.l_bad (x:ac):Nat.ble (2+256+1+3) ((ac.cs x).map AV.p).length=true:=by rw [ac.len]; rfl
theorem ac.g_bad (x:ac):lB ((((ac.cs x).map AV.p).drop (2+256+1)).take 3)=.p (.agg (ap.cs x.AT)):=by
 rw [ac.cs_hd,List.drop_append_of_le_length (by rw [ac.hd_len]; decide),List.drop_eq_nil_of_le (by rw [ac.hd_len]; decide)]
 rfl
theorem ac.b_at (x:ac):1+1<=((ac.cs x).map AV.p).length:=by rw [ac.len]; decide
theorem ac.b_outer (x:ac):2+256+1<=((ac.cs x).map AV.p).length:=by rw [ac.len]; decide
theorem ac.b_bad (x:ac):2+256+1+3<=((ac.cs x).map AV.p).length:=by rw [ac.len]; decide
theorem ac.u_at (x:ac){v:Int}:nc ((ac.cs x).map AV.p) 1 [.p (eI v)]=(ac.cs (.mk x.fs v x.HV x.AT)).map .p:=by
 simp only [nc,ac.cs,bx,List.set_cons_succ,List.set_cons_zero]
theorem ac.u_outer (x:ac){v:Int}:nc ((ac.cs x).map AV.p) (2+256) [.p (eI v)]=(ac.cs (.mk x.fs x.fat v x.AT)).map .p:=by
 simp only [nc,ac.cs,bx,List.map_append,List.set_cons_succ];rw [List.set_append_right _ _ (by simp [mx])];simp [mx]
theorem ac.u_bad (x:ac){k a:Int}{n:Bytes}:nc ((ac.cs x).map AV.p) (2+256+1) [.p (eI k),.p (eI a),.p (eS n)]=(ac.cs (.mk x.fs x.fat x.HV (.mk k a n))).map .p:=by
 have e:nc ((ac.cs x).map AV.p) 259 [.p (eI k),.p (eI a),.p (eS n)]=((ac.cs x).map AV.p).take 259++(ap.cs (.mk k a n)).map .p++((ac.cs x).map AV.p).drop (259+3):=rfl;show nc ((ac.cs x).map AV.p) 259 [.p (eI k),.p (eI a),.p (eS n)]=_;rw [e,ac.cs_hd,ac.cs_hd,List.take_append_of_le_length (by rw [ac.hd_len]; decide),List.take_of_length_le (by rw [ac.hd_len]; decide),List.drop_eq_nil_of_le (by rw [dg,ac.hd_len]; simp [ap.cs]),List.append_nil]
 rfl
end Go.Ab
end
section
namespace Go.Ab.R06
open Go.Proofs Go.Ab Go.Ab.RB
attribute [local irreducible] awp eR bq aB aV AV.sub M cN
def gT:Nat->Int->(List UInt8)->Option (List UInt8)
 | 0,_,_=>none
 | m+1,c8,l9 =>
 if c8<=122 then
  ck ((0:Int)<=c8/\(c8:Int) < 256) <|
  ck ((c8:Int) < (l9.length:Int)) <|
  ck ((0:Int)<=IntKind.wrap .i32 ((IntKind.wrap .i32 (c8 - 97))+65)/\(IntKind.wrap .i32 ((IntKind.wrap .i32 (c8 - 97))+65):Int) < 256) <|
  ck ((IntKind.wrap .i32 ((IntKind.wrap .i32 (c8 - 97))+65):Int) < ((l9.set c8.toNat (2:UInt8)).length:Int)) <|
  gT m (IntKind.wrap .i32 (c8+1)) ((l9.set c8.toNat (2:UInt8)).set ((IntKind.wrap .i32 ((IntKind.wrap .i32 (c8 - 97))+65)).toNat) (2:UInt8))
 else
  some l9
def gK:Nat->Int->(List UInt8)->Option (List UInt8)
 | 0,_,_=>none
 | m+1,J4,l24 =>
 if J4<=57 then
  ck ((0:Int)<=J4/\(J4:Int) < 256) <|
  ck ((J4:Int) < (l24.length:Int)) <|
  gK m (IntKind.wrap .i32 (J4+1)) (l24.set J4.toNat (3:UInt8))
 else
  some l24
def gQ:Nat->Nat->(List UInt8)->Option (List UInt8)
 | 0,_,_=>none
 | m+1,t37,l38 =>
 if t37 < ([123,125,91,93,40,41,44,61,60,62,43,45,42,47,37,33,38,124,63,58,46]:Bytes).length then
  ck ((([123,125,91,93,40,41,44,61,60,62,43,45,42,47,37,33,38,124,63,58,46]:Bytes).getD t37 0).toNat < 128) <|
  ck ((0:Int)<=((([123,125,91,93,40,41,44,61,60,62,43,45,42,47,37,33,38,124,63,58,46]:Bytes).getD t37 0).toNat:Int)/\(((([123,125,91,93,40,41,44,61,60,62,43,45,42,47,37,33,38,124,63,58,46]:Bytes).getD t37 0).toNat:Int):Int) < 256) <|
  ck ((((([123,125,91,93,40,41,44,61,60,62,43,45,42,47,37,33,38,124,63,58,46]:Bytes).getD t37 0).toNat:Int):Int) < (l38.length:Int)) <|
  gQ m (t37+1) (l38.set (((([123,125,91,93,40,41,44,61,60,62,43,45,42,47,37,33,38,124,63,58,46]:Bytes).getD t37 0).toNat:Int).toNat) (4:UInt8))
 else
  some l38
def nC (n:Nat):Option (List UInt8) :=
 (gT n 97 (sM 256)).bind λ l17 =>
 (gK n 48 l17).bind λ l30 =>
 (gQ n 0 l30).bind λ l45 =>
 ck ((0:Int)<=95/\(95:Int) < 256) <|
 ck ((95:Int) < (l45.length:Int)) <|
 ck ((0:Int)<=34/\(34:Int) < 256) <|
 ck ((34:Int) < ((l45.set ((95:Int).toNat) (2:UInt8)).length:Int)) <|
 ck ((0:Int)<=35/\(35:Int) < 256) <|
 ck ((35:Int) < (((l45.set ((95:Int).toNat) (2:UInt8)).set ((34:Int).toNat) (5:UInt8)).length:Int)) <|
 ck ((0:Int)<=10/\(10:Int) < 256) <|
 ck ((10:Int) < ((((l45.set ((95:Int).toNat) (2:UInt8)).set ((34:Int).toNat) (5:UInt8)).set ((35:Int).toNat) (7:UInt8)).length:Int)) <|
 ck ((0:Int)<=32/\(32:Int) < 256) <|
 ck ((32:Int) < (((((l45.set ((95:Int).toNat) (2:UInt8)).set ((34:Int).toNat) (5:UInt8)).set ((35:Int).toNat) (7:UInt8)).set ((10:Int).toNat) (6:UInt8)).length:Int)) <|
 ck ((0:Int)<=9/\(9:Int) < 256) <|
 ck ((9:Int) < ((((((l45.set ((95:Int).toNat) (2:UInt8)).set ((34:Int).toNat) (5:UInt8)).set ((35:Int).toNat) (7:UInt8)).set ((10:Int).toNat) (6:UInt8)).set ((32:Int).toNat) (1:UInt8)).length:Int)) <|
 ck ((0:Int)<=13/\(13:Int) < 256) <|
 ck ((13:Int) < (((((((l45.set ((95:Int).toNat) (2:UInt8)).set ((34:Int).toNat) (5:UInt8)).set ((35:Int).toNat) (7:UInt8)).set ((10:Int).toNat) (6:UInt8)).set ((32:Int).toNat) (1:UInt8)).set ((9:Int).toNat) (1:UInt8)).length:Int)) <|
 ck (Nat.beq 256 (((((((l45.set ((95:Int).toNat) (2:UInt8)).set ((34:Int).toNat) (5:UInt8)).set ((35:Int).toNat) (7:UInt8)).set ((10:Int).toNat) (6:UInt8)).set ((32:Int).toNat) (1:UInt8)).set ((9:Int).toNat) (1:UInt8)).set ((13:Int).toNat) (1:UInt8)).length=true) <|
 ck (Nat.beq 256 (sM 256).length=true/\Nat.beq 256 (((((((l45.set ((95:Int).toNat) (2:UInt8)).set ((34:Int).toNat) (5:UInt8)).set ((35:Int).toNat) (7:UInt8)).set ((10:Int).toNat) (6:UInt8)).set ((32:Int).toNat) (1:UInt8)).set ((9:Int).toNat) (1:UInt8)).set ((13:Int).toNat) (1:UInt8)).length=true) <|
 some (((((((l45.set ((95:Int).toNat) (2:UInt8)).set ((34:Int).toNat) (5:UInt8)).set ((35:Int).toNat) (7:UInt8)).set ((10:Int).toNat) (6:UInt8)).set ((32:Int).toNat) (1:UInt8)).set ((9:Int).toNat) (1:UInt8)).set ((13:Int).toNat) (1:UInt8))
theorem rK (n:Nat)(r:(List UInt8))(h0:nC n=some r):aB Tryz.prog 56 [] (·=.p (.agg (r.map eU))):=by
 unfold nC at h0;refine bm good Tryz.func56 Z Z Z λ w0=>mP (λ v:(List UInt8)=>.p (.agg (v.map eU))) ?_;refine nx 2 Z (mO Z (vN eU (sM 256) Y Z Z Z Z (by kernel_rfl) Z Z ?_));refine nx 3 Z (mO Z (vN eU (sM 256) Y Z Z Z Z (by kernel_rfl) Z (by repeat (first | apply wq Z | apply tN Z | apply wn Z Z | exact rfl)) ?_));refine nx 7 Z (bd h0 λ KF h1 h0=>?_);refine kE 0 KF (λ v66=>⟨[(0,.ptr 0 0),(1,.ptr 1 0)],[(0,((sM 256).map eU).map .p),(1,(v66.map eU).map .p)]⟩) ?_ ?_
 ·refine nx 7 Z (bd h0 λ IJ h1 h0=>?_);refine kE 2 IJ (λ LZ=>⟨[(0,.ptr 0 0),(1,.ptr 1 0)],[(0,((sM 256).map eU).map .p),(1,(LZ.map eU).map .p)]⟩) ?_ ?_
  ·refine nx 4 Z (mO Z (CX Z Z Z Z Z Z Z (by repeat (first | apply wq Z | apply tN Z | apply wn Z Z | exact rfl)) ?_));refine nx 2 Z (bd h0 λ Jo h1 h0=>?_);refine kE 4 Jo (λ LY=>⟨[(0,.ptr 0 0),(1,.ptr 1 0)],[(0,((sM 256).map eU).map .p),(1,(LY.map eU).map .p)]⟩) ?_ ?_
   ·refine nx 3 Z (cc' h0 λ NK h0=>?_);refine cc' h0 λ OU h0=>mO Z (da Z Z Z Z Z Z Z Z Z NK ?_);refine mO Z (gU (f:=eU) (l:=Jo) (b:=(2:UInt8)) Z Z Z Z Z Z Z Z (by have:=(And.intro NK.1 OU); first | omega | (dsimp only; omega)) ?_);refine cc' h0 λ NJ h0=>cc' h0 λ OT h0=>mO Z (da Z Z Z Z Z Z Z Z Z NJ ?_);refine mO Z (gU (f:=eU) (l:=Jo.set ((95:Int).toNat) (2:UInt8)) (b:=(5:UInt8)) Z Z Z Z Z Z Z Z (by have:=(And.intro NJ.1 OT); first | omega | (dsimp only; omega)) ?_);refine cc' h0 λ NI h0=>cc' h0 λ NH h0=>mO Z (da Z Z Z Z Z Z Z Z Z NI ?_);refine mO Z (gU (f:=eU) (l:=(Jo.set ((95:Int).toNat) (2:UInt8)).set ((34:Int).toNat) (5:UInt8)) (b:=(7:UInt8)) Z Z Z Z Z Z Z Z (by have:=(And.intro NI.1 NH); first | omega | (dsimp only; omega)) ?_);refine cc' h0 λ OS h0=>cc' h0 λ Mj h0=>mO Z (da Z Z Z Z Z Z Z Z Z OS ?_);refine mO Z (gU (f:=eU) (l:=((Jo.set ((95:Int).toNat) (2:UInt8)).set ((34:Int).toNat) (5:UInt8)).set ((35:Int).toNat) (7:UInt8)) (b:=(6:UInt8)) Z Z Z Z Z Z Z Z (by have:=(And.intro OS.1 Mj); first | omega | (dsimp only; omega)) ?_);refine nx 3 Z (cc' h0 λ NG h0=>?_);refine cc' h0 λ NF h0=>mO Z (da Z Z Z Z Z Z Z Z Z NG ?_);refine mO Z (gU (f:=eU) (l:=(((Jo.set ((95:Int).toNat) (2:UInt8)).set ((34:Int).toNat) (5:UInt8)).set ((35:Int).toNat) (7:UInt8)).set ((10:Int).toNat) (6:UInt8)) (b:=(1:UInt8)) Z Z Z Z Z Z Z Z (by have:=(And.intro NG.1 NF); first | omega | (dsimp only; omega)) ?_);refine cc' h0 λ OR h0=>cc' h0 λ M3 h0=>mO Z (da Z Z Z Z Z Z Z Z Z OR ?_);refine mO Z (gU (f:=eU) (l:=((((Jo.set ((95:Int).toNat) (2:UInt8)).set ((34:Int).toNat) (5:UInt8)).set ((35:Int).toNat) (7:UInt8)).set ((10:Int).toNat) (6:UInt8)).set ((32:Int).toNat) (1:UInt8)) (b:=(1:UInt8)) Z Z Z Z Z Z Z Z (by have:=(And.intro OR.1 M3); first | omega | (dsimp only; omega)) ?_);refine cc' h0 λ OQ h0=>cc' h0 λ hk59 h0=>mO Z (da Z Z Z Z Z Z Z Z Z OQ ?_);refine mO Z (gU (f:=eU) (l:=(((((Jo.set ((95:Int).toNat) (2:UInt8)).set ((34:Int).toNat) (5:UInt8)).set ((35:Int).toNat) (7:UInt8)).set ((10:Int).toNat) (6:UInt8)).set ((32:Int).toNat) (1:UInt8)).set ((9:Int).toNat) (1:UInt8)) (b:=(1:UInt8)) Z Z Z Z Z Z Z Z (by have:=(And.intro OQ.1 hk59); first | omega | (dsimp only; omega)) ?_);refine nx 3 Z (cc' h0 λ Mi h0=>?_);refine mO Z (BJ eU (((((((Jo.set ((95:Int).toNat) (2:UInt8)).set ((34:Int).toNat) (5:UInt8)).set ((35:Int).toNat) (7:UInt8)).set ((10:Int).toNat) (6:UInt8)).set ((32:Int).toNat) (1:UInt8)).set ((9:Int).toNat) (1:UInt8)).set ((13:Int).toNat) (1:UInt8)) Z Z Z Z Z Z Z Mi ?_);refine cc' h0 λ OP h0=>mO Z (zu eU (sM 256) (((((((Jo.set ((95:Int).toNat) (2:UInt8)).set ((34:Int).toNat) (5:UInt8)).set ((35:Int).toNat) (7:UInt8)).set ((10:Int).toNat) (6:UInt8)).set ((32:Int).toNat) (1:UInt8)).set ((9:Int).toNat) (1:UInt8)).set ((13:Int).toNat) (1:UInt8)) Z Z Z Z Z Z Y OP.1 OP.2 ?_);exact nx 2 Z (mQ (oi h0) (EL eU (((((((Jo.set ((95:Int).toNat) (2:UInt8)).set ((34:Int).toNat) (5:UInt8)).set ((35:Int).toNat) (7:UInt8)).set ((10:Int).toNat) (6:UInt8)).set ((32:Int).toNat) (1:UInt8)).set ((9:Int).toNat) (1:UInt8)).set ((13:Int).toNat) (1:UInt8)) Z Z Z Z Z Mi) (sr))
   refine lG (λ (MV:Nat×(List UInt8))=>⟨[(0,.ptr 0 0),(1,.ptr 1 0),(22,.it 22 ([123,125,91,93,40,41,44,61,60,62,43,45,42,47,37,33,38,124,63,58,46]:Bytes) MV.1)],[(0,((sM 256).map eU).map .p),(1,(MV.2.map eU).map .p)]⟩) (λ m (MV:Nat×(List UInt8))=>gQ m MV.1 MV.2) Y (0,IJ) h1 (gE rfl rfl) ?_;rintro m ⟨t37,l38⟩ h1;replace h1:gQ (m+1) t37 l38=some Jo:=h1;rw [gQ] at h1;refine nx 2 rfl (fD (p:=t37 < ([123,125,91,93,40,41,44,61,60,62,43,45,42,47,37,33,38,124,63,58,46]:Bytes).length) [] h1 rfl (λ Pe h1=>?_) λ Pe h1=>?_)
   ·refine cc' h1 λ M5 h1=>mO Z (B6 Z Z Z Z Z Z Pe M5 Z (by repeat (first | apply wq Z | apply tN Z | apply wn Z Z | exact rfl)) Z ?_);refine nx 13 Z (cc' h1 λ KG h1=>?_);refine cc' h1 λ M4 h1=>mO Z (da Z Z Z Z Z Z Z Z Z KG ?_);refine mO Z (gU (f:=eU) (l:=l38) (b:=(4:UInt8)) Z Z Z Z Z Z Z Z (by have:=(And.intro KG.1 M4); first | omega | (dsimp only; omega)) ?_);exact nx 1 Z (eX (t37+1,l38.set (((([123,125,91,93,40,41,44,61,60,62,43,45,42,47,37,33,38,124,63,58,46]:Bytes).getD t37 0).toNat:Int).toNat) (4:UInt8)) h1 (gE Z Z))
   refine mO Z (D3 Z Z Z Z Pe ?_);exact nx 5 Z (eXi _ (oi h1).symm (gE Z Z))
  refine lG (λ (Oy:Int×(List UInt8))=>⟨[(0,.ptr 0 0),(1,.ptr 1 0),(3,.p (eK .i32 Oy.1))],[(0,((sM 256).map eU).map .p),(1,(Oy.2.map eU).map .p)]⟩) (λ m (Oy:Int×(List UInt8))=>gK m Oy.1 Oy.2) Y (48,KF) h1 (gE rfl rfl) ?_;rintro m ⟨J4,l24⟩ h1;replace h1:gK (m+1) J4 l24=some IJ:=h1;rw [gK] at h1;refine nx 6 rfl (fD [17] h1 rfl (λ KM h1=>?_) λ KM h1=>?_)
  ·refine nx 6 Z (cc' h1 λ Ky h1=>?_);refine cc' h1 λ Lk h1=>mO Z (da Z Z Z Z Z Z Z Z Z Ky ?_);refine mO Z (gU (f:=eU) (l:=l24) (b:=(3:UInt8)) Z Z Z Z Z Z Z Z (by have:=(And.intro Ky.1 Lk); first | omega | (dsimp only; omega)) ?_);exact nx 6 Z (eX (IntKind.wrap .i32 (J4+1),l24.set J4.toNat (3:UInt8)) h1 (gE Z Z))
  exact nx 2 Z (eXi _ (oi h1).symm (gE Z Z))
 refine lG (λ (MU:Int×(List UInt8))=>⟨[(0,.ptr 0 0),(1,.ptr 1 0),(2,.p (eK .i32 MU.1))],[(0,((sM 256).map eU).map .p),(1,(MU.2.map eU).map .p)]⟩) (λ m (MU:Int×(List UInt8))=>gT m MU.1 MU.2) Y (97,sM 256) h1 (gE rfl rfl) ?_;rintro m ⟨c8,l9⟩ h1;replace h1:gT (m+1) c8 l9=some KF:=h1;rw [gT] at h1;refine nx 6 rfl (fD [7] h1 rfl (λ Kq h1=>?_) λ Kq h1=>?_)
 ·refine nx 9 Z (cc' h1 λ J8 h1=>?_);refine cc' h1 λ KA h1=>mO Z (da Z Z Z Z Z Z Z Z Z J8 ?_);refine mO Z (gU (f:=eU) (l:=l9) (b:=(2:UInt8)) Z Z Z Z Z Z Z Z (by have:=(And.intro J8.1 KA); first | omega | (dsimp only; omega)) ?_);refine cc' h1 λ K3 h1=>cc' h1 λ Kp h1=>mO Z (da Z Z Z Z Z Z Z Z Z K3 ?_);refine mO Z (gU (f:=eU) (l:=l9.set c8.toNat (2:UInt8)) (b:=(2:UInt8)) Z Z Z Z Z Z Z Z (by have:=(And.intro K3.1 Kp); first | omega | (dsimp only; omega)) ?_);exact nx 6 Z (eX (IntKind.wrap .i32 (c8+1),(l9.set c8.toNat (2:UInt8)).set ((IntKind.wrap .i32 ((IntKind.wrap .i32 (c8 - 97))+65)).toNat) (2:UInt8)) h1 (gE Z Z))
 exact nx 2 Z (eXi _ (oi h1).symm (gE Z Z))
theorem rD:nC 64=some i7:=by kernel_rfl
def kB (H1:Bytes):Option ac:=some (.mk H1 0 (-1) (.mk 0 0 []))
theorem ac.ones (x:ac):PV.onesB (ac.cs x)=true:=by kernel_rfl
theorem p9 (H1:Bytes)(r:ac)(h0:kB H1=some r):aV Tryz.prog 37 [.p (eS H1)] [] (λ x y=>x=.ptr 2000000 0/\y=[(2000000,(ac.cs r).map .p)]):=by
 unfold kB at h0;refine cr good [6] [6] Tryz.func37 Z Z Z Z Z λ w0 F=>mPo (λ _:ac=>.ptr 2000000 0) (λ v=>[(2000000,(ac.cs v).map .p)]) ?_;refine nx 7 Z ?_;refine oK (rK 64 _ rD) Z trivial Tryz.call56 Z ?_;refine mO Z (w9 (cs:=(ac.cs (.mk H1 0 (-1) (.mk 0 0 []))).map .p) (y:=.p (.agg (ac.cs (.mk H1 0 (-1) (.mk 0 0 []))))) Z Z Z Z Z Z Z (by kernel_rfl) (by simp only [lB,uO]) ?_);refine mO Z (FD (ac.cs (.mk H1 0 (-1) (.mk 0 0 []))) Z Z Z Z (ac.ones _) Z Z ?_);exact nx 4 Z (mQo (oi h0) (ay _) Z Z Z (av Z (az _) Z) (sr) ⟨⟨_,Z,aC _⟩,trivial⟩)
end Go.Ab.R06
end
section
namespace Go.Ab
structure PreO (w:World)(g:Gh):Prop where
 ok:Ok0 w g.st
 own:∀ i b,g.ow i=some b->b < w.heap.size/\i < 2*M1
 inj:∀ i j b,g.ow i=some b->g.ow j=some b->i=j
 nst:∀ i b,M1<=i->g.ow i=some b->∀ o,¬ g.st b o
def FP (w:World)(g:Gh)(R:AV->List (Nat×List AV)->Prop)(v:Value)(w':World):Prop :=
 ∃ r obs' g',R r obs'/\ARep w' g' r v/\(∀ p∈obs',iB w' g' p.1 p.2)/\nE w g w' g'
def zh (P:Program)(f:FuncId)(args:List AV)(Iz:List (Nat×List AV))(R:AV->List (Nat×List AV)->Prop):Prop :=
 ∀ (w:World) (g:Gh) (vs:Array Value) (u:FrameMode),PreO w g->vs.size=args.length->(∀ (i:Nat) c v,args[i]? = some c->vs[i]? = some v->ARep w g c v)->(∀ id cs,look Iz id=some cs->iB w g id cs) ->
  CallsD P f vs u w λ e u' w'=>u'=u/\∃ v,e=.returned v/\FP w g R v w'
theorem Hb {P:Program}{tt:List (Nat×TI)}(good:dK P tt){f:FuncId}{fn:Func}{c:Code}{args:List AV}{Iz rob:List (Nat×List AV)}{r:AV}(ts ids:List Nat)(hf:P.funcs[f]? = some fn)(hb:fn.body=some c)
  (hn:Nat.ble args.length fn.ntmps=true) (hnl:Nat.ble fn.ntmps M1=true) (hts:ts.all (λ i=>Nat.blt i M1)=true) (hnd:nodupB ts=true)
  (h:∀ w0 F,awp ⟨P,tt,good,fn.ntmps,hnl,w0,F⟩ c (uV ⟨P,tt,good,fn.ntmps,hnl,w0,F⟩ tt fn ts ids r rob) ⟨fG args,Iz⟩):zh P f args Iz (λ x y=>x.sub r/\leO y rob) :=
 λ _ _ _ _ hp h1 h2 h3=>(callsD_of_wp hf hb (qW good ts ids (th hn) hnl hts hnd (λ w0 F=>rN (h w0 F)) hp.ok hp.own hp.inj hp.nst h1 h2 h3)).mono
  λ _ _ _ ⟨hu,v,r,obs',g',he,hR,e1,e2,e3⟩=>⟨hu,v,he,r,obs',g',hR,e1,e2,e3⟩
def HM:Option Code->Code
 | some (.seq _ (.seq _ B))=>B
 | _=>.skip
def Cg (P:Program)(fn:Func)(B:Code)(sl:List (Nat×AV))(Iz:List (Nat×List AV))(R:AV->List (Nat×List AV)->Prop):Prop :=
 ∀ (w:World) (g:Gh) (a:Act),PreO w g->a.tmps.size=fn.ntmps->(∀ i,ARep w g ((⟨sl,Iz⟩:AS).get i) (a.tmps.getD i Go.undef))->(∀ id cs,look Iz id=some cs->iB w g id cs) ->
  B.wp P (λ e a' w'=>(e=.normal\/e=.ret)/\a'.defers=a.defers/\∃ v,(∀ w2,(results fn a'.tmps).run P w2=.ok v w2)/\FP w g R v w') a w
theorem CL {P:Program}{tt:List (Nat×TI)}(good:dK P tt){fn:Func}{B:Code}{t:Nat}{sl:List (Nat×AV)}{Iz rob:List (Nat×List AV)}{r:AV}(ids:List Nat)(hres:fn.results.toList=[.tmp t])(hnl:Nat.ble fn.ntmps M1=true)
  (h:∀ w0 F,awp ⟨P,tt,good,fn.ntmps,hnl,w0,F⟩ B (uV ⟨P,tt,good,fn.ntmps,hnl,w0,F⟩ tt fn [] ids r rob) ⟨sl,Iz⟩):Cg P fn B sl Iz (λ x y=>x.sub r/\leO y rob):=by
 intro w g a hp Ia H2 hobs
 have hs:St fn.ntmps ⟨w,g.st,g.ow,hp.ok.gl,(λ i b h=>Nat.lt_of_lt_of_le (hp.own i b h).2 vr),a.defers⟩ (λ b=>b < w.heap.size/\∀ i,g.ow i≠some b) g ⟨sl,Iz⟩ a w :=
  ⟨Z,Ia,H2,hobs,hp.inj,λ i b hi=>⟨(hp.own i b hi).1,λ h=>h.2 i hi⟩,hp.ok.lt,λ b h=>h.1,λ b h=>rfl,Z,Z,Z,n6 _,λ b _ o=>Iff.rfl,λ _ _ _=>rfl,jD.refl _ _,λ i b hi h=>hp.nst i b hi h,Ev.refl _ _⟩
 refine wp_mono (rN (h _ _) g a w hs) ?_;rintro e a' w' ⟨g1,s',h3,he,l,r1,obs1,obs',hl,hr,hpk,hm,hR⟩;obtain ⟨v,hv,hvr⟩:=lV good h3 fn l hl
 have hrun:∀ w2,(results fn a'.tmps).run P w2=.ok (a'.tmps.getD t Go.undef) w2:=λ w2=>by
  rw [tZ,Array.mapM_eq_mapM_toList,hres];simp [w3]
 obtain ⟨g',e1,e2,e3⟩:=wj [] ids Z Z hp.own h3 hvr hr hpk hm
 have:v=a'.tmps.getD t Go.undef:=by
  have:=(hrun w').symm.trans hv
  injection this with h1 _
  exact h1.symm
 exact ⟨he,h3.nd,v,λ w2=>by rw [this]; exact hrun w2,_,_,g',hR,e1,e2,e3⟩
theorem yh:∀ {js:List Nat} {q:List AV} {i:Nat} {c:AV},look (js.zip q) i=some c->∃ k:Nat,js[k]? = some i/\q[k]? = some c
 | [],_,_,_,h=>by simp [look] at h
 | _::_,[],_,_,h=>by simp [look] at h
 | j::js,x::q,i,c,h=>by
  rw [List.zip_cons_cons,br] at h;by_cases e:j=i
  ·rw [if_pos e] at h; cases h; exact ⟨0,by simp [e],rfl⟩
  ·rw [if_neg e] at h;obtain ⟨k,h1,h2⟩:=yh h;exact ⟨k+1,by simpa using h1,by simpa using h2⟩
theorem rF:∀ l:List AV,oh l l
 | []=>trivial
 | x::r=>⟨AV.sub_refl x,rF r⟩
theorem Ca {C:Cx}{fn:Func}{B:Code}{sl:List (Nat×AV)}{ob:List (Nat×List AV)}(ids Ib:List Nat)(NB NE:Nat)(js:List Nat){l l':List AV}{Iz qo rob ob':List (Nat×List AV)}{r r':AV}(hnt:C.n=fn.ntmps)
  (hB:Cg C.P fn B (js.zip l') qo (λ x y=>x.sub r/\leO y rob)) (hl:kh sl (js.map .tmp)=some l) (hl':AV.mapA.go (lN ids Ib) l=some l') (hpk:ik ob ids=some Iz) (hmo:hZ (lN ids Ib) Iz=some qo) (hqq:leO qo qo)
  (hnd:nodupB ids=true) (hids:ids.all (λ i=>Nat.blt i (2*M1))=true) (hil:Nat.ble ids.length M1=true) (hdl:Nat.ble NE M1=true) (hdis:ids.all (λ i=>!(dr Ib NB NE i))=true)
  (hvd:nodupB Ib=true) (hvl:Ib.all (λ i=>Nat.blt i M1)=true) (hvn:Nat.ble Ib.length 100000=true) (hr:r.mapA (ll ids NB NE)=some r') (hro:hZ (ll ids NB NE) rob=some ob')
  {g:Gh} {a a2:Act} {w:World} (hs:St C.n C.w0 C.F g ⟨sl,ob⟩ a w) (ht:a2.tmps=a.tmps) :
  B.wp C.P (λ e a' w'=>(e=.normal\/e=.ret)/\a'.defers=a2.defers/\∃ v,(∀ w2,(results fn a'.tmps).run C.P w2=.ok v w2)/\∃ g2,St C.n C.w0 C.F g2 ⟨(cM (dr Ib NB NE) ⟨sl,ob⟩).sl,ob'++(cM (dr Ib NB NE) ⟨sl,ob.filter λ p=>!(ids.any (Nat.beq p.1))⟩).ob⟩ a w'/\ARep w' g2 r' v) a2 w:=by
 obtain ⟨a1,a1'⟩:=jL hs _ l hl;have H0:(js.map λ j=>a.eval (.tmp j)).length=l.length:=by simpa using a1.symm
 obtain ⟨gc,⟨k1,k2,k3,k4,k5,k6,k7⟩,hpost⟩:=qv ids Ib NB NE hl' (rF l') hpk hmo hqq hnd hids hil hdl hdis hvd hvl hvn hs (avs:=(js.map λ j=>a.eval (.tmp j)).toArray) (by simpa using H0)
  (λ i c v hc hv=>a1' i c v hc (by simpa using hv))
 refine wp_mono (hB w gc a2 ⟨k1,k2,k3,k4⟩ (by rw [ht,hs.sz,hnt]) (λ i=>?_) k7) ?_
 ·unfold AS.get
  cases hq:look (js.zip l') i with
  | none=>exact .undef _
  | some c =>
   obtain ⟨k,h1,h2⟩:=yh hq;simp only [sm];refine k6 k c _ h2 ?_;have:a2.tmps.getD i Go.undef=a.eval (.tmp i):=by rw [ht]; rfl
   rw [this];simp [h1]
 ·rintro e a' w' ⟨he,hd,v,hv,x,y,g',⟨hx,hy⟩,e1,e2,e3⟩
  obtain ⟨g2,f1,f2⟩:=hpost w' v r r' rob ob' g' (hx _ _ _ e1) (λ p hp=>by
   obtain ⟨ds,m1,m2⟩:=tf hy p hp
   exact p8 (e2 (p.1,ds) (gV m1)) m2) e3 hr hro
  exact ⟨he,hd,v,hv,g2,f1,f2⟩
theorem Hc {C:Cx}{k:FuncId}{sl:List (Nat×AV)}{ob:List (Nat×List AV)}(ids Ib:List Nat)(NB NE:Nat)(j:Nat){x:AV}{l':List AV}{Iz qo rob ob':List (Nat×List AV)}{r r':AV}{u:FrameMode}
  (hD:zh C.P k l' qo (λ x y=>x.sub r/\leO y rob)) (hl:look sl j=some x) (hl':AV.mapA.go (lN ids Ib) [x]=some l') (hpk:ik ob ids=some Iz) (hmo:hZ (lN ids Ib) Iz=some qo) (hqq:leO qo qo)
  (hnd:nodupB ids=true) (hids:ids.all (λ i=>Nat.blt i (2*M1))=true) (hil:Nat.ble ids.length M1=true) (hdl:Nat.ble NE M1=true) (hdis:ids.all (λ i=>!(dr Ib NB NE i))=true)
  (hvd:nodupB Ib=true) (hvl:Ib.all (λ i=>Nat.blt i M1)=true) (hvn:Nat.ble Ib.length 100000=true) (hr:r.mapA (ll ids NB NE)=some r') (hro:hZ (ll ids NB NE) rob=some ob')
  {g:Gh} {a:Act} {w:World} (hs:St C.n C.w0 C.F g ⟨sl,ob⟩ a w) :
  CallsD C.P k #[a.eval (.tmp j)] u w λ e u' w'=>u'=u/\∃ v,e=.returned v/\∃ g2,St C.n C.w0 C.F g2 ⟨(cM (dr Ib NB NE) ⟨sl,ob⟩).sl,ob'++(cM (dr Ib NB NE) ⟨sl,ob.filter λ p=>!(ids.any (Nat.beq p.1))⟩).ob⟩ a w':=by
 have hx:ARep w g x (a.eval (.tmp j)):=bV hs (x:=.tmp j) hl
 obtain ⟨gc,⟨k1,k2,k3,k4,k5,k6,k7⟩,hpost⟩:=qv ids Ib NB NE hl' (rF l') hpk hmo hqq hnd hids hil hdl hdis hvd hvl hvn hs (avs:=#[a.eval (.tmp j)]) rfl
  (λ i c v hc hv=>by
   match i,hc,hv with
   | 0,hc,hv=>simp at hc hv; subst hc hv; exact hx)
 refine (hD w gc _ u ⟨k1,k2,k3,k4⟩ k5 k6 k7).mono ?_;rintro e u' w' ⟨hu,v,he,x,y,g',⟨hx,hy⟩,e1,e2,e3⟩
 obtain ⟨g2,f1,_⟩:=hpost w' v r r' rob ob' g' (hx _ _ _ e1) (λ p hp=>by
   obtain ⟨ds,m1,m2⟩:=tf hy p hp
   exact p8 (e2 (p.1,ds) (gV m1)) m2) e3 hr hro
 exact ⟨hu,v,he,g2,f1⟩
theorem EH {P:Program}{tt:List (Nat×TI)}(good:dK P tt){f k:FuncId}{fn:Func}{args:List AV}{Iz rob:List (Nat×List AV)}{c:Value}{R0 R1 R2 B:Code}{rid t j q:Nat}{o1 o2:Oper}{s0 s1 s2:AS}{b:Bool}(ids:List Nat)
  (hf:P.funcs[f]? = some fn) (hb:fn.body=some (.seq R0 (.seq (.seq R1 (.cond (.tmp t) (.seq R2 (.region rid #[o1,o2] false)) .skip)) B)))
  (hn:Nat.ble args.length fn.ntmps=true) (hnl:Nat.ble fn.ntmps M1=true)
  (h0:∀ w0 F,awp ⟨P,tt,good,fn.ntmps,hnl,w0,F⟩ R0 (λ e s=>e=.normal/\s=s0) ⟨fG args,Iz⟩)
  (h1:∀ w0 F,awp ⟨P,tt,good,fn.ntmps,hnl,w0,F⟩ R1 (λ e s=>e=.normal/\s=s1) s0) (hc:evo s1.sl (.tmp t)=some (.p (eB b)))
  (hF:b=false->∃ sE obs1 obs2,ik sE.ob ids=some obs1/\hZ (mB []) obs1=some obs2/\leO obs2 rob/\∀ w0 F g a a2 w,St fn.ntmps w0 F g s1 a w->a2.tmps=a.tmps ->
   B.wp P (λ e a' w'=>(e=.normal\/e=.ret)/\a'.defers=a2.defers/\∃ v,(∀ w2,(results fn a'.tmps).run P w2=.ok v w2)/\∃ g2,St fn.ntmps w0 F g2 sE a w'/\ARep w' g2 (.p (.val c)) v) a2 w)
  (hT:b=true->(∀ w0 F,awp ⟨P,tt,good,fn.ntmps,hnl,w0,F⟩ R2 (λ e s=>e=.normal/\s=s2) s1)/\(o1.op=.makeFunc (.func k) #[] #[.tmp j]/\o1.dst=some q/\Nat.blt q fn.ntmps=true/\o1.guard=none/\o2.op=.defer { callee:=.value (.tmp q),args:=#[],argTypes:=#[] }/\o2.dst=none/\o2.guard=none/\Nat.beq j q=false) /\
   (∀ vs w,(callFunc k vs).run P w=.ok (.enter k vs) w)/\∃ sE sD obs1 obs2 x,look s2.sl j=some x/\ik sD.ob ids=some obs1/\hZ (mB []) obs1=some obs2/\leO obs2 rob /\
    (∀ w0 F g a a2 w,St fn.ntmps w0 F g ⟨(q,.func (.func k) [x])::s2.sl,s2.ob⟩ a w->a2.tmps=a.tmps ->
     B.wp P (λ e a' w'=>(e=.normal\/e=.ret)/\a'.defers=a2.defers/\∃ v,(∀ w2,(results fn a'.tmps).run P w2=.ok v w2)/\∃ g2,St fn.ntmps w0 F g2 sE a w'/\ARep w' g2 (.p (.val c)) v) a2 w) /\
    ∀ w0 F g a w u,St fn.ntmps w0 F g sE a w->CallsD P k #[a.eval (.tmp j)] u w λ e u' w'=>u'=u/\∃ v,e=.returned v/\∃ g2,St fn.ntmps w0 F g2 sD a w') :
  aV P f args Iz (λ x y=>x=.p (.val c)/\y=rob):=by
 refine aV.of_sub ?_;intro w g vs hlt hown hinj hnst k1 k2 hobs;refine calls_of_wp_defers hf hb ?_;have hn':=th hn
 have hs:St fn.ntmps ⟨w,g.st,g.ow,hlt.gl,(λ i b h=>Nat.lt_of_lt_of_le (hown i b h).2 vr),[]⟩ (λ b=>b < w.heap.size/\∀ i,g.ow i≠some b) g ⟨fG args,Iz⟩ { tmps:=vs++Array.replicate (fn.ntmps - vs.size) Go.undef,defers:=[] } w:=by
  refine ⟨Z,?_,?_,hobs,hinj,?_,hlt.lt,?_,?_,Z,Z,Z,n6 _,λ b _ o=>Iff.rfl,λ _ _ _=>rfl,jD.refl _ _,λ i b hi h=>hnst i b hi h,Ev.refl _ _⟩
  ·simp only [Array.size_append,Array.size_replicate]; omega
  ·intro i;have:=mU args 0 i;simp only [AS.get,fG,this,rd,if_true,Nat.sub_zero]
   cases ha:args[i]? with
   | none=>exact .undef _
   | some x =>
    have hi:i < args.length:=(List.getElem?_eq_some_iff.1 ha).1;have hi2:i < vs.size:=by omega
    have e:(vs++Array.replicate (fn.ntmps - vs.size) Go.undef).getD i Go.undef=vs[i]:=by
     simp [Array.getD_eq_getD_getElem?,Array.getElem?_append,hi2]
    simp only [sm];rw [e];exact k2 i x _ ha (Array.getElem?_eq_getElem hi2)
  ·intro i b hi; exact ⟨(hown i b hi).1,λ h=>h.2 i hi⟩
  ·intro b h; exact h.1
  ·intro b h; rfl
 -- behind everything: what is handed back
 have fin:∀ {sE:AS} {obs1 obs2:List (Nat×List AV)} {a:Act} {w':World} {g2:Gh} {v:Value},ik sE.ob ids=some obs1->hZ (mB []) obs1=some obs2->leO obs2 rob ->
   St fn.ntmps ⟨w,g.st,g.ow,hlt.gl,(λ i b h=>Nat.lt_of_lt_of_le (hown i b h).2 vr),[]⟩ (λ b=>b < w.heap.size/\∀ i,g.ow i≠some b) g2 sE a w'->ARep w' g2 (.p (.val c)) v ->
   ∃ v1 r obs' g',Ending.returned v=.returned v1/\(AV.sub r (.p (.val c))/\leO obs' rob)/\ARep w' g' r v1/\(∀ p∈obs',iB w' g' p.1 p.2)/\nE w g w' g':=by
  intro sE obs1 obs2 a w' g2 v p1 p2 p3 hS hv;obtain ⟨g',e1,e2,e3⟩:=wj [] ids Z Z hown hS hv rfl p1 p2;exact ⟨v,_,_,g',rfl,⟨AV.sub_refl _,p3⟩,e1,e2,e3⟩
 refine wp_seq (wp_mono (h0 _ _ g _ w hs) ?_);rintro e a0 w0 ⟨g0,s0',hs0,rfl,rfl⟩;refine wp_seq (wp_seq (wp_mono (h1 _ _ g0 a0 w0 hs0) ?_));rintro e a1 w1 ⟨g1,s1',hs1,rfl,rfl⟩;have hcv:a1.eval (.tmp t)=.bool b:=ct hs1 hc
 cases hbb:b with
 | false =>
  subst hbb;refine wp_cond_false hcv (wp_skip ?_);obtain ⟨sE,obs1,obs2,p1,p2,p3,hB⟩:=hF rfl;refine wp_mono (hB _ _ g1 a1 a1 w1 hs1 rfl) ?_;rintro e a' w' ⟨he,hd,v,hv,g2,hS,hr⟩;have hd':a'.defers=[]:=hd.trans hs1.nd;rcases he with rfl | rfl
  ·simp only [bodyPostD,hd',Leaves]; exact ⟨v,hv w',fin p1 p2 p3 hS hr⟩
  ·simp only [bodyPostD,hd',Leaves]; exact ⟨v,hv w',fin p1 p2 p3 hS hr⟩
 | true =>
  subst hbb;obtain ⟨h2,⟨m1,m2,m3,m4,m5,m6,m7,m8⟩,hen,sE,sD,obs1,obs2,x,hj,p1,p2,p3,hB,hD⟩:=hT rfl;refine wp_cond_true hcv (wp_seq (wp_mono (h2 _ _ g1 a1 w1 hs1) ?_));rintro e a2 w2 ⟨g2,s2',hs2,rfl,rfl⟩;refine wp_region ?_;have hx:ARep w2 g2 x (a2.eval (.tmp j)):=bV hs2 (x:=.tmp j) hj;have hq:q < fn.ntmps:=mv ▸ m3;have e1:(execOp a2.eval o1).run P w2=.ok (.value (.func (.func k) #[] #[a2.eval (.tmp j)])) w2:=by simp [execOp,m1,Instr.makeFunc,Act.eval]
  have hs3:=hs2.put (d:=some q) (λ t ht=>by cases ht; exact hq) (x:=.func (.func k) [x]) (v:=.func (.func k) #[] #[a2.eval (.tmp j)]) (.func rfl λ i c v hc hv=>by
   match i,hc,hv with
   | 0,hc,hv=>simp at hc hv; subst hc hv; exact hx)
  obtain ⟨a3,ha3⟩:∃ a3,a3=a2.put (some q) (.func (.func k) #[] #[a2.eval (.tmp j)]):=⟨_,rfl⟩
  rw [<- ha3] at hs3
  have hqv:a3.eval (.tmp q)=.func (.func k) #[] #[a2.eval (.tmp j)]:=by
   have:q < a2.tmps.size:=by rw [hs2.sz]; exact hq
   rw [ha3]; simp [Act.put,Act.eval,Array.getD,this]
  have hjq:a3.eval (.tmp j)=a2.eval (.tmp j):=by
   have Iw:q≠j:=λ e=>by subst e; simp at m8
   rw [ha3]; simp only [Act.put,Act.eval,Array.getD_eq_getD_getElem?,Array.getElem?_setIfInBounds,if_neg Iw]
  have e2:(execOp a3.eval o2).run P w2=.ok (.defer { target:=.fn (.func k) #[a2.eval (.tmp j)],args:=#[] }) w2:=by simp [execOp,m5,resolve,hqv,Deferred.ofValue]
  have hr:List.range (#[o1,o2]:Array Oper).size=[0,1]:=rfl;rw [hr];have g0':(#[o1,o2]:Array Oper)[0]? = some o1:=rfl;have g1':(#[o1,o2]:Array Oper)[1]? = some o2:=rfl;simp only [wpOps,g0',g1',Region.wanted,m4,m7,if_true];refine .inl ?_;unfold Oper.wp;rw [e1];simp only [Oper.upon,m2];rw [<- ha3];refine .inl ?_;rw [e2];simp only [m6,Act.put];refine wp_mono (hB _ _ g2 a3 { a3 with defers:={ target:=.fn (.func k) #[a2.eval (.tmp j)],args:=#[] }::a3.defers } w2 hs3 rfl) ?_;rintro e a' w' ⟨he,hd,v,hv,g3,hS,hrv⟩;have hnd:a3.defers=[]:=hs3.nd;rw [hnd] at hd
  have key:Leaves P fn a'.tmps (λ e w'=>∃ v r obs' g',e=.returned v/\(AV.sub r (.p (.val c))/\leO obs' rob)/\ARep w' g' r v/\(∀ p∈obs',iB w' g' p.1 p.2)/\nE w g w' g') a'.defers .returning w':=by
   rw [hd];refine leaves_cons (f:=k) (args:=#[a2.eval (.tmp j)]) G (by simp [invoke,hen]) ?_;have:=hD _ _ g3 a3 w' .returning hS;rw [hjq] at this;refine this.mono ?_;rintro e u' w'' ⟨hu,v2,he2,g4,hS4⟩;subst hu he2;simp only [settle,Leaves];refine ⟨v,hv w'',fin p1 p2 p3 hS4 ?_⟩
   cases hrv with
   | p hrv=>cases hrv; exact .p (.val _)
  rcases he with rfl | rfl
  ·exact key
  ·exact key
theorem mR {C:Cx}{c:Code}{s t:AS}(h:M C (λ e s=>e=.normal/\s=t) ⟨.cd c,[],s⟩):awp C c (λ e s=>e=.normal/\s=t) s:=rN h
theorem mE {C:Cx}{s t:AS}(h:cN C s t):M C (λ e s=>e=.normal/\s=t) ⟨.ex .normal,[],s⟩:=⟨t,h,Z,Z⟩
end Go.Ab
end
section
namespace Go.Ab.R06
open Go.Proofs Go.Ab Go.Ab.RB
attribute [local irreducible] awp eR bq aB aV AV.sub M cN
theorem na (x:ac):zh Tryz.prog 77 [.ptr 1000000 0] [(1000000,[.ptr 1000001 0]),(1000001,(ac.cs x).map .p)] (λ a b=>a.sub (.tuple [])/\leO b [(1000000,[.ptr 1000001 0]),(1000001,(ac.cs (.mk x.fs x.fat (-1) x.AT)).map .p)]):=by
 refine Hb good [] [1000000,1000001] Tryz.func77 Z Z Z Z Z λ w0 F=>mPo (v0:=ac.mk x.fs x.fat (-1) x.AT) (λ _:ac=>.tuple []) (λ v=>[(1000000,[.ptr 1000001 0]),(1000001,(ac.cs v).map .p)]) ?_;refine nx 4 Z (mO Z (eO Z Z Z Z Z Z Z Z (ac.b_outer _) (ac.u_outer _) ?_));exact nx 1 Z (uM Z (ay _) Z Z Z (av Z Z (av Z (az _) Z)) (sr) ⟨⟨_,Z,⟨sr,trivial⟩⟩,⟨_,Z,aC _⟩,trivial⟩)
end Go.Ab.R06
end
section
namespace Go.Ab
theorem AW {w:World}{g:Gh}{tok sz ty:Nat}{es:List PV}{b off cap:Nat}(h:ARep w g (.vec tok sz ty es) (.slice (some ⟨b,off,none⟩) es.length cap))(hc:es.length+1<=cap) :
  ARep w g (.vecp tok sz ty es) (.slice (some ⟨b,off,none⟩) (es.length+1) cap):=by
 generalize hv:Value.slice (some ⟨b,off,none⟩) es.length cap=v at h
 cases h with
 | vecn=>cases hv
 | vece _ _ a=>injection hv with _ _ h3; omega
 | vec how hb Il Ia Ik hr hty =>
  injection hv with h1 h2 h3
  injection h1 with h1
  injection h1 with h4 h5
  subst h3 h4 h5;exact .vecp how hb Il hc Ia Ik hr hty
section
variable {C:Cx} {o:Oper} {K:AS->Prop} {sl:List (Nat×AV)} {ob:List (Nat×List AV)} {d:Nat}
theorem nD (ty0:Nat){es ys:List PV}{t tx e:TypeId}{i ie:TI}{y:Operand}(D:Nat->Bool)(hDl:∀ i,D i=true->i < M1)(hDd:D d=true)(hy1:ys.length=1)
  (hi:look C.tt t=some i) (Ip:i.k=.slice e) (hie:look C.tt e=some ie)
  (hS:vT C sl ob tx y ie.size ys) (hzl:ie.zero.length=ie.size)
  (H0:(es.length+ys.length)*ie.bytes<=140737488355328) (hlen':es.length+ys.length<=9223372036854775807)
  {g:Gh} {a:Act} {w:World} (hs:St C.n C.w0 C.F g ⟨sl,ob⟩ a w) (base:Option Addr) (cap:Nat) (olds:List Value)
  (hold:(Builtin.firstCells ie.size es.length (.slice base es.length cap)).run C.P w.drew=.ok olds.toArray w.drew) (hol:olds.length=es.length*ie.size)
  (hes:∀ e,e∈es->e.cells.length=ie.size)
  (hoc:∀ (i:Nat) y (j:Nat) x,es[i]? = some y->y.cells[j]? = some x->x.one=true/\∃ u,olds[i*ie.size+j]? = some u/\PRep w g.st x u)
  (hg:cap < es.length+ys.length) (ty:TypeId) (hn:Nat.blt d C.n=true) (hty:ty0=0\/ty0=e+1) :
  ∃ v w' g',(Builtin.append_ #[t,tx] ty #[.slice base es.length cap,a.eval y]).run C.P w=.ok v w' /\
   St C.n C.w0 C.F g' ⟨(d,.vecp d ie.size ty0 es)::(cM D ⟨sl,ob⟩).sl,(cM D ⟨sl,ob⟩).ob⟩ (a.put (some d) v) w':=by
 obtain ⟨u,h1,h2⟩:=cm C.good hi;have h3:=cF (h2.trans Ip);subst h3;obtain ⟨info,hf1,hf2,hf3,z,hf4,hf5⟩:=jb C.good hie;obtain ⟨news,hsrc,hnews⟩:=hS g a w hs;have hfit:=growslice_fits (bytes:=ie.bytes) hg H0;have hrun:=run_append_grow_src w t tx ty e info z h1 hf1 hf4 base es.length cap olds (by rw [hf2]; exact hold) (a.eval y) ys.length news (by rw [hf2]; exact hsrc) hg O (by rw [hf3]; exact hfit);obtain ⟨q,hq⟩:∃ q,q=grownCap w (es.length+ys.length) cap e:=⟨_,rfl⟩
 rw [<- hq] at hrun
 have hqn:es.length+ys.length<=q:=by
  rw [hq]; unfold grownCap; simp only [Question.cut]; omega
 have hzs:z.cells.size=ie.size:=by rw [<- hzl,<- hf5,Array.length_toList]
 obtain ⟨c,hc⟩:∃ c,c=(olds++news).toArray++Builtin.zeroCells z.cells (q - (es.length+ys.length)):=⟨_,rfl⟩
 rw [<- hc] at hrun
 have Il:c.size=q*ie.size:=by
  rw [hc];simp only [Array.size_append,List.size_toArray,dg,hol,hsrc.newsLen,size_zeroCells,hzs];rw [<- wr,<- wr]; congr 1; omega
 have hget:∀ m,m < es.length*ie.size->c[m]? = olds[m]?:=by
  intro m hm;rw [hc,Array.getElem?_append];simp only [List.size_toArray,dg,hol,hsrc.newsLen];rw [if_pos O,List.getElem?_toArray,List.getElem?_append,hol,if_pos hm]
 have hf:=hs.drew.fresh D hDl d hDd (λ o=>o < es.length*ie.size) c e
 have hv:ARep (w.drew.alloc (.cells c e)) ⟨λ b o=>g.st b o\/(b=w.drew.heap.size/\o < es.length*ie.size),λ i=>if i=d then some w.drew.heap.size else if D i then none else g.ow i⟩
   (.vec d ie.size ty0 es) (.slice (some ⟨w.drew.heap.size,0,none⟩) es.length q):=by
  refine Dd G fE Il O hes (λ o=>⟨λ h=>?_,λ h=>.inr ⟨Z,h⟩⟩) (λ i y j x hy hx=>?_) hty
  ·rcases h with h | h
   ·exact absurd (hs.lt _ _ h) (Nat.lt_irrefl _)
   ·exact h.2
  ·have Ij:=lj (w:=w.drew) (T:=λ o=>o < es.length*ie.size) (ob:=.cells c e) hs.drew.lt;have hcl:=hes y (List.mem_of_getElem? hy);have hjl:j < ie.size:=by rw [<- hcl]; exact (List.getElem?_eq_some_iff.1 hx).1
   have hil:i < es.length:=(List.getElem?_eq_some_iff.1 hy).1;have hm1:(i+1)*ie.size<=es.length*ie.size:=Nat.mul_le_mul_right _ O;rw [wr] at hm1;obtain ⟨k1,u,hu,hr⟩:=hoc i y j x hy hx;refine ⟨k1,u,?_,(PRep.mono (w:=w) (w':=w.drew) (st:=g.st) (st':=g.st) (λ b o h=>⟨h,rfl⟩) hr).mono Ij⟩;rw [hget _ O]; exact hu
 have hp:=hf.put (d:=some d) (λ t ht=>by cases ht; exact mv ▸ hn) (AW hv O);rw [hy1] at hrun;exact ⟨_,_,_,hrun,hp⟩
theorem xD {t tx e:TypeId}{x y:Operand}{k sz ty:Nat}{es:List PV}{ys:List PV}{i ie:TI}(ho:o.op=.call { callee:=.builtin .append,args:=#[x,y],argTypes:=#[t,tx] })(hd:o.dst=some d)(hn:Nat.blt d C.n=true)
  (hi:look C.tt t=some i) (Ip:i.k=.slice e) (hie:look C.tt e=some ie) (hx:evo sl x=some (.vec k sz ty es)) (hk:Nat.blt k M1=true) (hiz:ie.size=sz) (hy1:ys.length=1)
  (hS:vT C sl ob tx y ie.size ys) (_Ia:∀ y∈ys,y.cells.length=ie.size) (h0:Nat.blt 0 ie.size=true) (hzl:Nat.beq ie.zero.length ie.size=true)
  (H0:(es.length+1)*ie.bytes<=140737488355328) (hlen':es.length+1<=9223372036854775807) (hty:(Nat.beq ty 0||Nat.beq ty (e+1))=true)
  (hK:K ⟨(d,.vecp d sz ty es)::(cM (λ i=>Nat.beq i k||Nat.beq i d) ⟨sl,ob⟩).sl,(cM (λ i=>Nat.beq i k||Nat.beq i d) ⟨sl,ob⟩).ob⟩):bq C o K ⟨sl,ob⟩:=by
 subst hiz;rw [<- hy1] at H0 hlen';have h0':0 < ie.size:=by simpa using h0
 have hzl':=la hzl;have hk':k < M1:=mv ▸ hk;have hdl:d < M1:=by have h1:=th C.nl; have h2:d < C.n:=mv ▸ hn; omega
 have hty':=DY hty
 have hDl:∀ i,(Nat.beq i k||Nat.beq i d)=true->i < M1:=by
  intro i hi;simp only [Bool.or_eq_true] at hi;rcases hi with hi | hi <;> (have:=la hi; omega)
 intro g a w hs;have hxr:=bV hs hx;generalize hxv:a.eval x=xv at hxr
 have hrun0:∀ v w',(Builtin.append_ #[t,tx] o.type #[xv,a.eval y]).run C.P w=.ok v w'->(execOp a.eval o).run C.P w=.ok (.value v) w':=by
  intro v w' h;rw [gY ho];simp [builtin,hxv,h]
 cases hxr with
 | vecn =>
  obtain ⟨v,w',g',hr,Ik⟩:=nD ty (es:=[]) (λ i=>Nat.beq i k||Nat.beq i d) hDl G hy1 hi Ip hie hS hzl' (by simpa using H0) (by simpa using hlen') hs none 0 []
   (run_firstCells_none w.drew ie.size 0 0 0) G G G (by simp [hy1]) o.type hn hty'
  unfold Oper.wp;rw [hrun0 _ _ hr];simp only [Oper.upon,hd];exact ⟨g',_,Ik,hK⟩
 | vece tok sz a0 =>
  obtain ⟨v,w',g',hr,Ik⟩:=nD 0 (es:=[]) (λ i=>Nat.beq i k||Nat.beq i d) hDl G hy1 hi Ip hie hS hzl' (by simpa using H0) (by simpa using hlen') hs (some a0) 0 []
   (run_firstCells_some w.drew ie.size 0 a0 0 0 [] G G) G G G (by simp [hy1]) o.type hn hty'
  unfold Oper.wp;rw [hrun0 _ _ hr];simp only [Oper.upon,hd];exact ⟨g',_,Ik,hK⟩
 | vec how hb Il hsz' Ik hr hty0 =>
  rename_i b off cap c e0;have hinv:=qM hsz' hb hr;have hcapE:es.length<=cap:=by cases hr with | nile _=>exact n6 _ | slice _ _ hcap=>exact hcap
  by_cases hroom:es.length+ys.length<=cap
  ·obtain ⟨u,h1,h2⟩:=cm C.good hi;have h3:=cF (h2.trans Ip);subst h3;obtain ⟨info,hf1,hf2,hf3,z,hf4,hf5⟩:=jb C.good hie;obtain ⟨news,hsrc,hnews⟩:=hS g a w hs
   have hfit:(off+es.length*ie.size)+news.length<=c.size:=by
    rw [hsrc.newsLen,Il,Nat.add_assoc,<- wr]; exact Nat.add_le_add_left (Nat.mul_le_mul_right _ hroom) _
   have hstc:=run_storeCells_at C.P b (off+es.length*ie.size) e0 news 0 c w hb (by simpa using hfit) hsrc.one;simp only [Nat.add_zero] at hstc;obtain ⟨c',hc'⟩:∃ c',c'=(c.toList.take (off+es.length*ie.size)++news++c.toList.drop (off+es.length*ie.size+news.length)).toArray:=⟨_,rfl⟩
   rw [<- hc'] at hstc;have hrr:=nI t tx o.type e info h1 hf1 b off es.length cap (a.eval y) ys.length news (by rw [hf2]; exact hsrc) hroom (by rw [hf2]; exact hstc)
   have Ig:∀ j,c'[j]? = if off+es.length*ie.size<=j/\j < off+es.length*ie.size+news.length then news[j - (off+es.length*ie.size)]? else c[j]?:=by
    intro j;rw [hc'];have:=kO c.toList news (off+es.length*ie.size) (by simpa using hfit) j;simpa using this
   have hcs':c'.size=off+cap*ie.size:=by rw [<- Il,hc']; simp; omega
   have hin:=hs.inplace (λ i=>Nat.beq i k||Nat.beq i d) hDl (k:=k) (d:=d) how G G  hb (c':=c') (hcs'.trans Il.symm) (λ o h=>by
    have:=(Ik o).1 h
    rw [Ig o,if_neg O]) (λ o=>o < off+es.length*ie.size) (λ o h=>(Ik o).1 h)
   have hEv:Ev w g.st (w.setRow b c') (λ b' o=>(b'=b/\o < off+es.length*ie.size)\/(b'≠b/\g.st b' o)):=by
    intro b' o h;by_cases e:b'=b
    ·subst e;have h5:=(Ik o).1 h;refine ⟨.inl ⟨rfl,h5⟩,?_⟩;simp only [World.cell?,hb,setRow_heap w b' c c' _ (0,0) hb];have:=Ig o;rw [if_neg O] at this;simpa using this
    ·exact ⟨.inr ⟨e,h⟩,by simp only [World.cell?,setRow_other w b b' c' e]⟩
   have hv:ARep (w.setRow b c') ⟨λ b' o=>(b'=b/\o < off+es.length*ie.size)\/(b'≠b/\g.st b' o),λ i=>if i=d then some b else if (Nat.beq i k||Nat.beq i d) then none else g.ow i⟩
     (.vec d ie.size ty es) (.slice (some ⟨b,off,none⟩) es.length cap):=by
    refine sY G (setRow_heap w b c c' e0 (0,0) hb) hcs' hcapE hsz' (λ o=>⟨λ h=>?_,λ h=>.inl ⟨Z,h⟩⟩) (λ i y j x hy hx=>?_) hty0
    ·rcases h with h | h
     ·exact h.2
     ·exact absurd Z h.1
    ·have hcl:=hsz' y (List.mem_of_getElem? hy);have hjl:j < ie.size:=by rw [<- hcl]; exact (List.getElem?_eq_some_iff.1 hx).1
     have hil:i < es.length:=(List.getElem?_eq_some_iff.1 hy).1;obtain ⟨k1,u,hu,hr⟩:=hinv i y j x hy hx;have hm2:(i+1)*ie.size<=es.length*ie.size:=Nat.mul_le_mul_right _ O;rw [wr] at hm2;refine ⟨k1,u,?_,hr.mono hEv⟩;rw [Ig,if_neg O]; exact hu
   have hp:=hin.put (d:=some d) (λ t ht=>by cases ht; exact mv ▸ hn) (AW hv O);rw [hy1] at hrr;unfold Oper.wp;rw [hrun0 _ _ hrr];simp only [Oper.upon,hd];exact ⟨_,_,hp,hK⟩
  ·obtain ⟨olds,hol,hocell⟩:∃ olds:List Value,olds.length=es.length*ie.size/\∀ m,m < es.length*ie.size->olds[m]? = c[off+m]? :=
    ⟨((c.toList.drop off).take (es.length*ie.size)),by
     rw [List.length_take,n8,show c.toList.length=off+cap*ie.size from Array.length_toList.trans Il]
     have:=Nat.mul_le_mul_right ie.size hcapE; omega,λ m hm=>by rw [List.getElem?_take,if_pos hm,List.getElem?_drop,Array.getElem?_toList]⟩
   have hold:(Builtin.firstCells ie.size es.length (.slice (some ⟨b,off,none⟩) es.length cap)).run C.P w.drew=.ok olds.toArray w.drew:=by
    refine run_firstCells_some w.drew ie.size es.length ⟨b,off,none⟩ es.length cap olds hol (λ j v hv=>?_);have hj:j < es.length*ie.size:=by rw [<- hol]; exact (List.getElem?_eq_some_iff.1 hv).1
    rw [add_lit,World.cell?_drew];simp only [World.cell?,hb];rw [<- hocell j hj]; simpa using hv
   obtain ⟨v,w',g',hr',hst'⟩:=nD ty (es:=es) (λ i=>Nat.beq i k||Nat.beq i d) hDl G hy1 hi Ip hie hS hzl' H0 hlen' hs (some ⟨b,off,none⟩) cap olds
    hold hol hsz' (λ i y j x hy hx=>by
     obtain ⟨k1,u,hu,hr⟩:=hinv i y j x hy hx;have hi:i < es.length:=(List.getElem?_eq_some_iff.1 hy).1;have hj:j < ie.size:=by rw [<- hsz' y (List.mem_of_getElem? hy)]; exact (List.getElem?_eq_some_iff.1 hx).1
     have hm2:(i+1)*ie.size<=es.length*ie.size:=Nat.mul_le_mul_right _ O;rw [wr] at hm2
     exact ⟨k1,u,by rw [hocell _ O,<- Nat.add_assoc]; exact hu,hr⟩) O o.type hn hty'
   unfold Oper.wp;rw [hrun0 _ _ hr'];simp only [Oper.upon,hd];exact ⟨g',_,hst',hK⟩
theorem qG {α:Type}(f:α->PV)(l0:List α){z:PV}{t tx e e':TypeId}{x y:Operand}{k sz ty:Nat}{i ie j:TI}(ho:o.op=.call { callee:=.builtin .append,args:=#[x,y],argTypes:=#[t,tx] })(hd:o.dst=some d)(hn:Nat.blt d C.n=true)
  (hi:look C.tt t=some i) (Ip:i.k=.slice e) (hie:look C.tt e=some ie) (hj:look C.tt tx=some j) (hjk:j.k=.slice e') (hx:evo sl x=some (.vec k sz ty (l0.map f))) (hk:Nat.blt k M1=true) (hiz:ie.size=sz)
  (hy:evo sl y=some (.p (eL (λ x:PV=>x) [z]))) (Ia:Nat.beq z.cells.length ie.size=true) (h0:Nat.blt 0 ie.size=true) (hzl:Nat.beq ie.zero.length ie.size=true) (hby:Nat.blt 0 ie.bytes=true)
  (hty:(Nat.beq ty 0||Nat.beq ty (e+1))=true) (H0:(l0.length+1)*ie.bytes<=140737488355328)
  (hK:K ⟨(d,.vecp d sz ty (l0.map f))::(cM (λ i=>Nat.beq i k||Nat.beq i d) ⟨sl,ob⟩).sl,(cM (λ i=>Nat.beq i k||Nat.beq i d) ⟨sl,ob⟩).ob⟩):bq C o K ⟨sl,ob⟩:=by
 have hby':1<=ie.bytes:=Nat.succ_le_of_lt (by simpa using hby);have h1:(l0.length+1)*1<=(l0.length+1)*ie.bytes:=Nat.mul_le_mul_left _ hby';have hs':∀ y∈[z],y.cells.length=ie.size:=λ y hy=>by rw [List.mem_singleton.1 hy]; exact la Ia
 exact xD (ys:=[z]) ho hd hn hi Ip hie hx hk hiz Z (pC hj hjk hy Z hs' (by simpa using h0)) hs' h0 hzl (by rw [n7]; exact H0) (by rw [n7]; omega) hty hK
theorem p7 {t e:TypeId}{x y:Operand}{i ie:TI}{tok sz ty:Nat}{es:List PV}{k:IntKind}{n:Int}(ho:o.op=.indexAddr t x y)(hd:o.dst=some d)(hn:Nat.blt d C.n=true)
  (hi:look C.tt t=some i) (Ip:i.k=.slice e) (hie:look C.tt e=some ie) (hiz:ie.size=sz) (hx:evo sl x=some (.vecp tok sz ty es)) (hy:evo sl y=some (.p (.val (.int k n)))) (hnn:n=(es.length:Int))
  (hK:K ⟨(d,.elp tok sz)::sl,ob⟩):bq C o K ⟨sl,ob⟩:=by
 subst hiz hnn;obtain ⟨u,h1,h2⟩:=cm C.good hi;have h3:=cF (h2.trans Ip);subst h3;refine ok_one hd hn (λ g a w hs=>?_) hK;have h5:=bV hs hx;generalize hv:a.eval x=v at h5
 cases h5 with
 | vecp how hb Il hcap Ia Ik hr hty =>
  rename_i b off cap c e0;refine ⟨.pointer (some ⟨b,off+es.length*ie.size,none⟩),?_,.elp how hb ?_ Ik⟩
  ·have h6:(es.length:Int) < ((es.length+1:Nat):Int):=by omega
   simp [execOp,ho,hv,ct hs hy,Instr.indexAt,asIntOf,run_underlying h1,run_sizeOf C.good hie,add_lit]
  ·rw [Il];have:=Nat.mul_le_mul_right ie.size hcap;rw [wr,Nat.one_mul] at this;omega
def upP (tok sz:Nat)(z:PV)(x:AV):AV:=match x with
 | .vecp t s ty es=>bif Nat.beq t tok&&Nat.beq s sz then .vec t s ty (es++[z]) else .undef
 | x=>x.dem (Nat.beq · tok)
def upPS (tok sz:Nat)(z:PV):List (Nat×AV)->Option (List (Nat×AV))
 | []=>some []
 | (i,x)::r=>(match frc (upP tok sz z x) with
  | some y=>(match upPS tok sz z r with | some l=>some ((i,y)::l) | none=>none)
  | none=>none)
def E2 (tok sz:Nat)(z:PV):List AV->Option (List AV)
 | []=>some []
 | x::r=>(match frc (upP tok sz z x) with
  | some y=>(match E2 tok sz z r with | some l=>some (y::l) | none=>none)
  | none=>none)
theorem zY {tok sz:Nat}{z:PV}:∀ {l l':List AV},E2 tok sz z l=some l'->l'=l.map (upP tok sz z)
 | [],l',h=>by cases h; rfl
 | x::r,l',h=>by
  unfold E2 at h;split at h
  ·rename_i y hy;split at h
   ·rename_i m hm; cases h; rw [yH hy,zY hm]; rfl
   ·cases h
  ·cases h
def Bc (tok sz:Nat)(z:PV):List (Nat×List AV)->Option (List (Nat×List AV))
 | []=>some []
 | (i,cs)::r=>(match Nat.beq i tok with
  | true=>Bc tok sz z r
  | false=>(match E2 tok sz z cs with
   | some ds=>(match Bc tok sz z r with | some l=>some ((i,ds)::l) | none=>none)
   | none=>none))
theorem rM {tok sz:Nat}{z:PV}:∀ {l l':List (Nat×List AV)},Bc tok sz z l=some l'->∀ id cs,look l' id=some cs->id≠tok/\∃ ds,look l id=some ds/\cs=ds.map (upP tok sz z)
 | [],l',h,id,cs,hc=>by cases h; cases hc
 | (i,xs)::r,l',h,id,cs,hc=>by
  unfold Bc at h;split at h
  ·rename_i hb;obtain ⟨h1,ds,h2,h3⟩:=rM h id cs hc;have hi:=la hb;refine ⟨h1,ds,?_,h3⟩;rw [br,if_neg (λ e'=>h1 O)];exact h2
  ·rename_i hb;have hi:i≠tok:=λ e=>by subst e; simp at hb
   split at h
   ·rename_i ds hds;split at h
    ·rename_i m hm
     cases h
     rw [br] at hc ⊢;by_cases e1:i=id
     ·subst e1;rw [if_pos rfl] at hc ⊢
      cases hc
      exact ⟨hi,xs,Z,zY hds⟩
     ·rw [if_neg e1] at hc ⊢;exact rM hm id cs hc
    ·cases h
   ·cases h
theorem E4 {t:TypeId}{x v:Operand}{i:TI}{tok sz:Nat}{z:PV}{Y0z:AV}{sl':List (Nat×AV)}{ob':List (Nat×List AV)}(ho:o.op=.store t x v)(hd:o.dst=none)
  (hi:look C.tt t=some i) (hiz:i.size=sz) (hx:evo sl x=some (.elp tok sz)) (hv:evo sl v=some Y0z) (hY:Y0z.sub (.p z)) (hc:(AV.p z).cellsA=some (z.cells.map .p)) (hcl:Nat.beq z.cells.length sz=true) (htok:Nat.blt tok M1=true)
  (h1:sl'=sl.map λ p=>(p.1,upP tok sz z p.2)) (h2:Bc tok sz z ob=some ob') (hK:K ⟨sl',ob'⟩):bq C o K ⟨sl,ob⟩:=by
 subst hiz h1;have htl:tok < M1:=mv ▸ htok;have hcl':=la hcl;intro g a w hs;have h5:=bV hs hx;have h6:ARep w g (.p z) (a.eval v):=hY _ _ _ (bV hs hv);obtain ⟨hs1,hs2⟩:=lf hc h6;rw [n7] at hs1;generalize Ij:a.eval x=u at h5
 cases h5 with
 | elp how k2 hp Ik =>
  rename_i b p c e
  have Iv:∀ u∈(a.eval v).cells.toList,u.oneCell'=true:=by
   intro u hu;obtain ⟨j,hj,rfl⟩:=List.getElem_of_mem hu;simp only [Array.length_toList] at hj;exact (hs2 j ((z.cells.map AV.p)[j]'(by simp; omega)) _ (List.getElem?_eq_getElem (by simp; omega)) (by simp [hj])).2
  have hstc:=run_storeCells_at C.P b p e (a.eval v).cells.toList 0 c w k2 (by simp; omega) Iv;simp only [Nat.add_zero,Array.length_toList] at hstc;obtain ⟨c',hc'⟩:∃ c',c'=(c.toList.take p++(a.eval v).cells.toList++c.toList.drop (p+(a.eval v).cells.size)).toArray:=⟨_,rfl⟩
  rw [<- hc'] at hstc;have hsz':=run_sizeOf C.good hi w;have Iw:(a.eval v).cells.size=i.size:=hs1.trans hcl';unfold Oper.wp
  have hrun:(execOp a.eval o).run C.P w=.ok .skip (w.setRow b c'):=by
   simp [execOp,ho,Ij,Instr.storeAt,Instr.sureAddr,storeVar,hsz',Iw,hstc]
  rw [hrun];simp only [Oper.upon,hd,Act.put]
  have Ig:∀ j,c'[j]? = if p<=j/\j < p+i.size then (a.eval v).cells[j - p]? else c[j]?:=by
   intro j;rw [hc'];have:=kO c.toList (a.eval v).cells.toList p (by simp; omega) j;simp only [Array.length_toList,Array.getElem?_toList,Iw] at this;simpa [Iw] using this
  have hsize':c'.size=c.size:=by
   rw [hc']; simp; omega
  obtain ⟨g',hg'⟩:∃ g':Gh,g'=⟨λ b' o=>(b'=b/\o < p+i.size)\/(b'≠b/\g.st b' o),g.ow⟩:=⟨_,rfl⟩
  have hst':∀ b' o,g'.st b' o↔(b'=b/\o < p+i.size)\/(b'≠b/\g.st b' o):=λ b' o=>by rw [hg']
  have how':g'.ow=g.ow:=by rw [hg']
  have hev':Ev w g.st (w.setRow b c') g'.st:=by
   intro b2 o2 h2;by_cases e1:b2=b
   ·subst e1;have:=(Ik o2).1 h2;refine ⟨(hst' _ _).2 (.inl ⟨rfl,by omega⟩),?_⟩;simp only [World.cell?,k2,setRow_heap w b2 c c' e (0,0) k2];have h7:=Ig o2;rw [if_neg O] at h7;simpa using h7
   ·exact ⟨(hst' _ _).2 (.inr ⟨e1,h2⟩),by simp only [World.cell?,setRow_other w b b2 c' e1]⟩
  have MJ:∀ id b2,Nat.beq id tok=false->g.ow id=some b2->b2≠b:=λ id b2 hD h e=>by
   subst e;have:=hs.inj id tok b2 h how;subst this;simp at hD
  have hE:EvO (Nat.beq · tok) w g (w.setRow b c') g':=by
   refine ⟨hev',λ id b2 _ h=>by rw [how']; exact h,λ id b2 c2 e2 hD h h2=>⟨c2,(setRow_other w b b2 c' (MJ id b2 hD h)).trans h2,Z⟩,λ id b2 o2 hD h h3=>?_,λ id b2 es2 k2' hD h h2=>(setRow_other w b b2 c' (MJ id b2 hD h)).trans h2,λ i hi=>?_,λ id b2 o2 hD h _=>setRow_other w b b2 c' (MJ id b2 hD h)⟩
   ·rcases (hst' _ _).1 h3 with h4 | h4
    ·exact absurd h4.1 (MJ id b2 hD h)
    ·exact h4.2
   ·cases hq:Nat.beq i tok
    ·rfl
    ·have:=la hq; have:=yi hi; omega
  have hup:∀ {y:AV} {u:Value},ARep w g y u->ARep (w.setRow b c') g' (upP tok i.size z y) u:=by
   intro y u h;unfold upP;split
   ·rename_i t s ty es
    cases hq:(Nat.beq t tok&&Nat.beq s i.size)
    ·exact .undef _
    ·simp only [ro] at hq;have e1:=la hq.1;have e2:=la hq.2;subst e1 e2;rw [cond_true]
     cases h with
     | vecp how2 hb2 hcs2 hcap2 hsz2 hst2 hr2 hty2 =>
      rename_i b2 off cap c2 e2;rw [how] at how2; cases how2;rw [k2] at hb2; cases hb2
      have hpo:p=off+es.length*i.size:=by
       rcases Nat.lt_trichotomy p (off+es.length*i.size) with h7 | h7 | h7
       ·have:=(Ik p).1 ((hst2 p).2 h7); omega
       ·exact h7
       ·have:=(hst2 (off+es.length*i.size)).1 ((Ik _).2 h7); omega
      have hinv:=qM hsz2 k2 hr2;have H0:(es++[z]).length=es.length+1:=by simp
      have:=sY (w:=w.setRow b c') (g:=g') (tok:=t) (es:=es++[z]) (cap:=cap) (by rw [how']; exact how) (setRow_heap w b c c' e (0,0) k2) (hsize'.trans hcs2) (by rw [H0]; exact hcap2) (λ x hx=>by
       rcases List.mem_append.1 hx with hx | hx
       ·exact hsz2 x hx
       ·rw [List.mem_singleton.1 hx]; exact hcl') (λ o=>by
       rw [hst',H0,wr,Nat.one_mul]
       exact ⟨λ h=>h.elim (λ h=>by omega) (λ h=>absurd Z h.1),λ h=>.inl ⟨Z,by omega⟩⟩) (λ k y j x hy hx=>?_) hty2
      ·rw [H0] at this; exact this
      ·have hcl2:y.cells.length=i.size:=by
        rcases List.mem_append.1 (List.mem_of_getElem? hy) with hx | hx
        ·exact hsz2 y hx
        ·rw [List.mem_singleton.1 hx]; exact hcl'
       have hjl:j < i.size:=by rw [<- hcl2]; exact (List.getElem?_eq_some_iff.1 hx).1
       rw [List.getElem?_append] at hy;split at hy
       ·rename_i hlt;obtain ⟨q1,u,hu,hr⟩:=hinv k y j x hy hx;have hm2:(k+1)*i.size<=es.length*i.size:=Nat.mul_le_mul_right _ O;rw [wr] at hm2;refine ⟨q1,u,?_,hr.mono hev'⟩;rw [Ig,if_neg O]; exact hu
       ·rename_i hge
        have hk0:k - es.length=0:=by
         have:=(List.getElem?_eq_some_iff.1 hy).1;simp at this; omega
        rw [hk0] at hy;simp only [List.getElem?_cons_zero,bt] at hy;subst hy;have hke:k=es.length:=by omega
        subst hke;have hjc:j < (a.eval v).cells.size:=by omega
        have h8:=hs2 j (.p x) _ (by simp [hx]) (Array.getElem?_eq_getElem hjc);refine ⟨?_,(a.eval v).cells[j],?_,?_⟩
        ·have h9:PV.onesB z.cells=true\/z.one=true:=by
          cases z with
          | agg cs =>
           simp only [AV.cellsA] at hc
           cases ho:PV.onesB cs
           ·rw [ho] at hc; cases hc
           ·exact .inl ho
          | val _ =>
           simp only [AV.cellsA] at hc;rename_i v0
           cases ho:v0.oneCell'
           ·rw [ho] at hc; cases hc
           ·exact .inr ho
          | slice _=>exact .inr Z
          | ifc=>exact .inr Z
          | aint _=>exact .inr Z
         rcases h9 with h9 | h9
         ·exact iw h9 x (List.mem_of_getElem? hx)
         ·have:z.cells=[z]:=by cases z <;> first | rfl | (simp [PV.one] at h9)
          rw [this] at hx;have:=(List.getElem?_eq_some_iff.1 hx).1;simp at this;subst this;simp at hx;rw [<- hx]; exact h9
        ·rw [Ig,if_pos ⟨by omega,by omega⟩,hpo];rw [show off+es.length*i.size+j - (off+es.length*i.size)=j by omega];exact Array.getElem?_eq_getElem hjc
        ·cases h8.1 with
         | p hr=>exact hr.mono hev'
   ·exact h.dem hE
  refine ⟨g',⟨sl.map λ p=>(p.1,upP tok i.size z p.2),ob'⟩,?_,hK⟩;refine ⟨hs.nd,hs.sz,λ j=>?_,λ id' cs' h'=>?_,by rw [how']; exact hs.inj,λ j b2 h=>?_,λ b2 o2 h=>?_,hs.fl,λ b2 h=>?_,hs.os,hs.out,hs.tape,?_,λ b2 h o2=>?_,by rw [how']; exact hs.owf,hs.shf.next (λ _ b c e _ _ h=>(ql k2 hsize').1 b c e h),λ j b2 hj h o2 h3=>?_,hs.ev0.trans hev'⟩
  ·have h:=hs.sl j;simp only [AS.get,lc];simp only [AS.get] at h
   cases hl:look sl j with
   | none=>simp only [Option.map_none,Option.getD_none]; exact .undef _
   | some x=>rw [hl] at h; simpa using hup h
  ·obtain ⟨hne',ds,m1,rfl⟩:=rM h2 id' cs' h';obtain ⟨b2,c2,e2,n1,n2,n3,n4,n5⟩:=hs.ob id' ds m1
   have hD:Nat.beq id' tok=false:=by
    cases hq:Nat.beq id' tok
    ·rfl
    ·exact absurd (la hq) hne'
   have hb2:=MJ id' b2 hD n1;refine ⟨b2,c2,e2,by rw [how']; exact n1,(setRow_other w b b2 c' hb2).trans n2,by simpa using n3,λ o2 h3=>?_,λ j y hy=>?_⟩
   ·rcases (hst' _ _).1 h3 with h4 | h4
    ·exact hb2 h4.1
    ·exact n4 o2 h4.2
   ·simp only [List.getElem?_map,ph] at hy;obtain ⟨y0,hy0,rfl⟩:=hy;obtain ⟨u,hu,hr⟩:=n5 j y0 hy0;exact ⟨u,hu,hup hr⟩
  ·rw [how'] at h;have:=hs.own j b2 h; exact ⟨by simpa using this.1,this.2⟩
  ·rcases (hst' _ _).1 h with h4 | h4
   ·have:=(hs.own tok b how).1; rw [h4.1]; simpa using this
   ·have:=hs.lt b2 o2 h4.2; simpa using this
  ·have Iw:b2≠b:=λ e=>(hs.own tok b how).2 (e ▸ h);exact (setRow_other w b b2 c' Iw).trans (hs.fr b2 h)
  ·have:=hs.size; simpa using this
  ·have Iw:b2≠b:=λ e=>(hs.own tok b how).2 (e ▸ h)
   exact ⟨λ h3=>by
    rcases (hst' _ _).1 h3 with h4 | h4
    ·exact absurd h4.1 Iw
    ·exact (hs.stf b2 h o2).1 h4.2,λ h3=>(hst' _ _).2 (.inr ⟨Iw,(hs.stf b2 h o2).2 h3⟩)⟩
  ·rcases (hst' _ _).1 h3 with h4 | h4
   ·have h7:g.ow j=some b2:=(hs.owf j hj (C.w0.lo j b2 h)).trans h;have:=hs.inj j tok b2 h7 (by rw [h4.1]; exact how);omega
   ·exact hs.nst j b2 hj h o2 h4.2
theorem wO {t:TypeId}{x v:Operand}{i:TI}{tok sz:Nat}{z:PV}{sl':List (Nat×AV)}{ob':List (Nat×List AV)}(ho:o.op=.store t x v)(hd:o.dst=none)
  (hi:look C.tt t=some i) (hiz:i.size=sz) (hx:evo sl x=some (.elp tok sz)) (hv:evo sl v=some (.p z)) (hc:(AV.p z).cellsA=some (z.cells.map .p)) (hcl:Nat.beq z.cells.length sz=true) (htok:Nat.blt tok M1=true)
  (h1:sl'=sl.map λ p=>(p.1,upP tok sz z p.2)) (h2:Bc tok sz z ob=some ob') (hK:K ⟨sl',ob'⟩):bq C o K ⟨sl,ob⟩:=E4 ho hd hi hiz hx hv (AV.sub_refl _) hc hcl htok h1 h2 hK
end
def rq (c:Nat)(imp:List Nat):gf->gf->Prop
 | (k,d,v)::r,(k',d',v')::r'=>(k=k'/\d=d'/\(imp.any (Nat.beq k)=true\/v c=v' c))/\rq c imp r r'
 | [],[]=>True
 | _,_=>False
theorem sw {c:Nat}{imp:List Nat}:∀ {r1 r2:gf},rq c imp r1 r2->∀ k p,imp.any (Nat.beq k)=false->dw r2 k=some p->∃ v,dw r1 k=some (p.1,v)/\v c=p.2 c
 | [],[],_,k,p,_,h=>by cases h
 | (k1,d1,v1)::r,(k2,d2,v2)::r',⟨⟨e1,e2,e3⟩,hr⟩,k,p,hk,h=>by
  subst e1 e2;simp only [dw] at h ⊢
  cases hb:Nat.beq k1 k
  ·rw [hb,cond_false] at h;rw [cond_false];exact sw hr k p hk h
  ·rw [hb,cond_true] at h
   cases h
   rw [cond_true];have:=la hb;subst this;exact ⟨v1,rfl,e3.resolve_left (by rw [hk]; exact λ h=>by cases h)⟩
 | [],_::_,h,_,_,_,_=>h.elim
 | _::_,[],h,_,_,_,_=>h.elim
theorem zN {C:Cx}{ops:Array Oper}{S1 S2:fv}{c k:Nat}{r1 r2:gf}{imp:List Nat}(h1:lks (dW r2 S2.m++S2.bas S2.m) ((dW r1 S1.m++S1.bas S1.m).map (·.1))=some ((dW r1 S1.m++S1.bas S1.m).map (·.2)))
  (h2:lkE (S1.obj S1.m) (S2.obj S2.m) (S1.obj S1.m)) (h3:rq c imp r1 r2) :
  DS C ops S2 (λ rev2=>(⟨dW rev2 S2.m++S2.bas S2.m,S2.obj S2.m⟩:AS).le ⟨dW r1 S1.m++S1.bas S1.m,S1.obj S1.m⟩/\rq c imp r1 rev2) [] k r2:=by
 refine ⟨⟨λ j x h=>?_,λ id cs h=>⟨cs,(yx h2 id cs h).trans h,n6 _,λ i c d a b=>by rw [a] at b; cases b; exact AV.sub_refl _⟩⟩,h3⟩;have:=wV h1 j x h;unfold AS.get;rw [this];exact AV.sub_refl _
theorem yU {C:Cx}{id:Nat}{ops:Array Oper}{Q:Exit->AS->Prop}{sl:List (Nat×AV)}{ob:List (Nat×List AV)}(S1 S2:fv){k0 k1 k2:Nat}{r:List Nat}(hm:C.P.follows .mixedOrders=true)
  (hi1:S1.imp=k0::k1::k2::r) (hi2:S2.imp=k0::k2::k1::r) (hlen1:S1.imp.length=S1.m) (hlen2:S2.imp.length=S2.m) (hob1:S1.obj 0=ob) (hob2:S2.obj 1=S1.obj 1) (hb:eZ sl (S1.bas 0)) (hb2:S2.bas 1=S1.bas 1)
  (hbas1:∀ j,j < S1.m->eZ (trL (S1.D j) (S1.bas j)) (S1.bas (j+1))) (hbas2:∀ j,j < S2.m->eZ (trL (S2.D j) (S2.bas j)) (S2.bas (j+1)))
  (hnd:nodupB (k0::k1::k2::r)=true) (hin:(k0::k1::k2::r).all (λ i=>Nat.blt i ops.size)=true) (hch1:chainB ops (k0::k1::r)=true) (hch2:chainB ops (k0::k2::r)=true)
  (hord:(ops.toList.zipIdx.all λ p=>p.1.after.toList.all λ e=>!(Region.binds .any e)||Nat.blt e.on p.2)=true)
  (h:DS C ops S1 (λ rev1=>Q .normal ⟨dW rev1 S1.m++S1.bas S1.m,S1.obj S1.m⟩/\DS C ops S2 (λ rev2=>(⟨dW rev2 S2.m++S2.bas S2.m,S2.obj S2.m⟩:AS).le ⟨dW rev1 S1.m++S1.bas S1.m,S1.obj S1.m⟩/\rq 1 (k1::k2::r) rev1 rev2) ops.toList 0 []) ops.toList 0 []):awp C (.region id ops true) Q ⟨sl,ob⟩:=by
 intro g a w hs
 have hnd2:nodupB S2.imp=true:=by
  rw [hi2];simp only [nodupB,List.any_cons,Bool.not_or,ro,Bool.not_eq_true'] at hnd ⊢;obtain ⟨⟨b1,b2,b3⟩,⟨a1,a2⟩,a3,a4⟩:=hnd;refine ⟨⟨b2,b1,b3⟩,⟨?_,a3⟩,a2,a4⟩
  cases hq:Nat.beq k2 k1
  ·rfl
  ·rw [la hq] at a1; rw [Nat.beq_refl] at a1; cases a1
 have hin2:S2.imp.all (λ i=>Nat.blt i ops.size)=true:=by
  rw [hi2];simp only [List.all_cons,ro] at hin ⊢;exact ⟨hin.1,hin.2.2.1,hin.2.1,hin.2.2.2⟩
 obtain ⟨fin1,⟨hf1,h2⟩,hP1⟩:=xY.mk' hlen1 hbas1 (by rw [hi1]; exact hnd) (by rw [hi1]; exact hin) hord h;obtain ⟨fin2,⟨hf2,hag⟩,hP2⟩:=xY.mk' hlen2 hbas2 hnd2 hin2 hord h2
 have chain:∀ (x y:Nat) (S:fv),S.imp=k0::x::y::r->chainB ops (k0::y::r)=true->chainB ops (k0::x::r)=true->∀ (listed:Array Bool) (j i q:Nat),Bh ops S listed j->i∈Region.ready .any ops listed->S.imp[q]? = some i->j < q->q=2/\j=1:=by
  intro x y S hS hcy hcx listed j i q hI hi hq hjq;obtain ⟨h1,o,ho,hafter⟩:=mem_ready.1 hi
  have use:∀ z zi,S.imp[z]? = some zi->mL ops 4 o zi=true->z < j:=by
   intro z zi hz hb;exact (hI.2.1 z zi hz).1 (jx hI.2.2 4 o zi hb hafter)
  match q,hq,hjq with
  | 0,_,hjq=>omega
  | 1,hq,hjq =>
   exfalso;rw [hS] at hq;have b1:=ke hcx 0 k0 i o Z (by simpa using hq) ho;have:=use 0 k0 (by rw [hS]; rfl) b1;omega
  | 2,hq,hjq =>
   rw [hS] at hq;have b1:=ke hcy 0 k0 i o rfl (by simpa using hq) ho;have:=use 0 k0 (by rw [hS]; rfl) b1;exact ⟨rfl,by omega⟩
  | q+3,hq,hjq =>
   exfalso;rw [hS] at hq;simp only [List.getElem?_cons_succ] at hq;have hql:q < r.length:=(List.getElem?_eq_some_iff.1 hq).1
   cases q with
   | zero =>
    have b1:=ke hcy 1 y i o Z (by simpa using hq) ho;have:=use 2 y (by rw [hS]; rfl) b1;omega
   | succ q =>
    have b1:=ke hcy (q+2) r[q] i o (by simp [List.getElem?_eq_getElem (show q < r.length by omega)]) (by simpa using hq) ho;have:=use (q+3) r[q] (by rw [hS]; simp [List.getElem?_eq_getElem (show q < r.length by omega)]) b1;omega
 have two:=od hP2 hf2 hf1 2 (λ fuel listed g a w sl' j hj IT i q hi hq hjq=>by
  have:=chain k2 k1 S2 hi2 hch1 hch2 listed j i q IT.inv hi hq hjq; omega)
 refine wp_region_any hm ?_;refine (od hP1 (AS.le_refl _) hf1 0 ?_).1 _ _ g a _ sl 0 (rd _) (PAt.start hb (by rw [hob1]; exact hs.drew));intro fuel listed g a w sl' j _ IT i q hi hq hjq;obtain ⟨rfl,rfl⟩:=chain k1 k2 S1 hi1 hch2 hch1 listed j i q IT.inv hi hq hjq;have Ip:i=k2:=by rw [hi1] at hq; simpa using hq.symm
 subst Ip
 have hno:∀ k,(k1::i::r).any (Nat.beq k)=true->listed.getD k false=false:=by
  intro k hk;obtain ⟨x,hx,hkx⟩:=List.any_eq_true.1 hk;have:=la hkx;subst this;obtain ⟨z,hz⟩:=List.mem_iff_getElem?.1 hx;have:=IT.inv.2.1 (z+1) k (by rw [hi1]; simpa using hz)
  cases hl:listed.getD k false with
  | false=>rfl
  | true=>have:=this.1 hl; omega
 have hm2:1<=S2.m:=by rw [<- hlen2,hi2]; simp
 refine two.2 fuel listed g a w sl' 1 i (.inr ⟨n6 _,by rw [hi2]; rfl⟩) hi ⟨IT.sz,IT.un,⟨hm2,λ z k hz=>?_,IT.inv.2.2⟩,⟨λ z x hx=>IT.kn.1 z x (by rw [<- hb2]; exact hx),λ k p hk hp=>?_⟩,by rw [hob2]; exact IT.st⟩
 ·cases z with
  | zero =>
   have hz0:k=k0:=by rw [hi2] at hz; simpa using hz.symm
   subst hz0;have:=IT.inv.2.1 0 k (by rw [hi1]; rfl);exact this
  | succ z =>
   constructor
   ·intro hl
    have hmem:k∈(k1::i::r):=by
     have:=List.mem_of_getElem? (show (i::k1::r)[z]? = some k by rw [hi2] at hz; simpa using hz);simp only [ur] at this ⊢;rcases this with h | h | h
     ·exact .inr (.inl h)
     ·exact .inl h
     ·exact .inr (.inr h)
    rw [hno k (List.any_eq_true.2 ⟨k,hmem,by simp⟩)] at hl
    cases hl
   ·intro h; omega
 ·have hk':(k1::i::r).any (Nat.beq k)=false:=by
   cases hq:(k1::i::r).any (Nat.beq k) with
   | false=>rfl
   | true=>rw [hno k hq] at hk; cases hk
  obtain ⟨v,hv1,hv2⟩:=sw hag k p hk' hp;have:=IT.kn.2 k _ hk hv1;rw [<- hv2]; exact this
theorem mSP {C:Cx}{Q:Exit->AS->Prop}{k:List Fr}{ops:Array Oper}{sl:List (Nat×AV)}{ob:List (Nat×List AV)}(S1 S2:fv){id k0 k1 k2:Nat}{r:List Nat}(hm:C.P.follows .mixedOrders=true)
  (hi1:S1.imp=k0::k1::k2::r) (hi2:S2.imp=k0::k2::k1::r) (hlen1:S1.imp.length=S1.m) (hlen2:S2.imp.length=S2.m) (hob1:S1.obj 0=ob) (hob2:S2.obj 1=S1.obj 1) (hb:eZ sl (S1.bas 0)) (hb2:S2.bas 1=S1.bas 1)
  (hbas1:∀ j,j < S1.m->eZ (trL (S1.D j) (S1.bas j)) (S1.bas (j+1))) (hbas2:∀ j,j < S2.m->eZ (trL (S2.D j) (S2.bas j)) (S2.bas (j+1)))
  (hnd:nodupB (k0::k1::k2::r)=true) (hin:(k0::k1::k2::r).all (λ i=>Nat.blt i ops.size)=true) (hch1:chainB ops (k0::k1::r)=true) (hch2:chainB ops (k0::k2::r)=true)
  (hord:(ops.toList.zipIdx.all λ p=>p.1.after.toList.all λ e=>!(Region.binds .any e)||Nat.blt e.on p.2)=true)
  (h:DS C ops S1 (λ rev1=>M C Q ⟨.ex .normal,k,⟨dW rev1 S1.m++S1.bas S1.m,S1.obj S1.m⟩⟩/\DS C ops S2 (λ rev2=>(⟨dW rev2 S2.m++S2.bas S2.m,S2.obj S2.m⟩:AS).le ⟨dW rev1 S1.m++S1.bas S1.m,S1.obj S1.m⟩/\rq 1 (k1::k2::r) rev1 rev2) ops.toList 0 []) ops.toList 0 []) :
  M C Q ⟨.cd (.region id ops true),k,⟨sl,ob⟩⟩ :=
 yU S1 S2 hm hi1 hi2 hlen1 hlen2 hob1 hob2 hb hb2 hbas1 hbas2 hnd hin hch1 hch2 hord h
end Go.Ab
end
section
namespace Go.Ab.R06
open Go.Proofs Go.Ab Go.Ab.RB
attribute [local irreducible] awp eR bq aB aV AV.sub M cN
def jg (Mf:Int):Option Bool :=
 (
   if (-9007199254740992)<=Mf then
    some (decide (Mf<=9007199254740992))
   else
    some false
  : Option Bool).bind λ t2 =>
 some t2
theorem oT (Mf:Int)(r:Bool)(h0:jg Mf=some r):aB Tryz.prog 110 [eI Mf] (·=.p (eB r)):=by
 unfold jg at h0;refine bm good Tryz.func110 Z Z Z λ w0=>mP (λ v:Bool=>.p (eB v)) ?_;refine nx 5 Z (bd h0 λ o4 h1 h0=>?_);refine kN o4 (λ v5=>⟨[(2,.p (eB v5))],[]⟩) ?_ ?_
 ·exact nx 2 Z (mQ (oi h0) Z (sr))
 refine nx 4 Z (fD [4,5] h1 Z (λ c1 h1=>?_) λ c1 h1=>?_)
 ·exact nx 5 Z (eX _ (oi h1).symm (gE Z Z))
 exact nx 5 Z (eX _ (oi h1).symm (gE Z Z))
def cP (s7:Bytes):Nat->Int->Option (Unit⊕Bool)
 | 0,_=>none
 | m+1,I5 =>
 if I5 < (s7.length:Int) then
  (
    ck ((0:Int)<=I5/\I5 < (s7.length:Int)) <|
    if byt s7 I5 < 48 then
     some true
    else
     ck ((0:Int)<=I5/\I5 < (s7.length:Int)) <|
     some (decide (57 < byt s7 I5))
   : Option Bool).bind λ t21 =>
  if t21=true then
   some (.inr false)
  else
   ck (inR (I5+1)) <|
   cP s7 m (I5+1)
 else
  some (.inl ())
def gO (n:Nat)(H1:Bytes):Option Bool :=
 jn (
   (
     if 0 < (H1.length:Int) then
      ck ((0:Int)<=0/\0 < (H1.length:Int)) <|
      some (decide (byt H1 0=45))
     else
      some false
    : Option Bool).bind λ t3 =>
   if t3=true then
    ck ((0:Int)<=1/\1<=(H1.length:Int)/\(H1.length:Int)<=(H1.length:Int)) <|
    if sub H1 1 (H1.length:Int)=([48]:Bytes) then
     some (.inr false)
    else
     some (.inl (sub H1 1 (H1.length:Int)))
   else
    some (.inl H1)
  : Option (Bytes⊕Bool)) λ s7 =>
 jn (cP s7 n 0) λ _JX =>
 (
   if s7=([]:Bytes) then
    some false
   else
    ck ((0:Int)<=0/\0 < (s7.length:Int)) <|
    if byt s7 0=48 then
     some (decide ((s7.length:Int)=1))
    else
     some true
  : Option Bool).bind λ Oq =>
 some Oq
theorem qa (n:Nat)(H1:Bytes)(r:Bool)(h0:gO n H1=some r):aB Tryz.prog 113 [eS H1] (·=.p (eB r)):=by
 unfold gO at h0;refine bm good Tryz.func113 Z Z Z λ w0=>mP (λ v:Bool=>.p (eB v)) ?_;refine nx 5 rfl ?_;obtain ⟨o34,h1,IS,hR0⟩:=db h0;refine kX (λ L1:Bytes=>o34=.inl L1) (λ L1=>⟨[(0,.p (eS L1))],[]⟩) (λ L1 hv=>?_) ?_
 ·have h0:=IS _ hv;refine nx 5 rfl (oLs rfl ?_);refine nx 3 rfl ?_;obtain ⟨N8,h1,IS,hR0⟩:=db h0;refine kEx 0 (λ v37:Unit=>N8=.inl v37) (λ v37=>⟨[(0,.p (eS L1))],[]⟩) (λ v37 hv=>?_) ?_
  ·have h0:=IS _ hv;refine nx 2 Z (bd h0 λ Ns h1 h0=>?_);refine kN Ns (λ MO=>⟨[(2,.p (eB MO))],[]⟩) ?_ ?_
   ·exact nx 2 Z (mQ (oi h0) Z (sr))
   refine nx 2 Z (oS Z Z ?_);refine nx 1 Z (fN [33,34] h1 Z (λ KM h1=>?_) λ KM h1=>?_)
   ·exact nx 11 Z (eX _ (oi h1).symm (gE Z Z))
   refine nx 1 Z (oI h1 Z λ Ky h1=>?_);refine nx 2 Z (fN [37,38] h1 Z (λ K8 h1=>?_) λ K8 h1=>?_)
   ·refine nx 1 Z (oLs Z ?_);exact nx 5 Z (eX _ (oi h1).symm (gE Z Z))
   exact nx 7 Z (eX _ (oi h1).symm (gE Z Z))
  refine lG (λ (MX:Int)=>⟨[(0,.p (eS L1)),(17,.p (eI (L1.length:Int))),(18,.p (eI MX))],[]⟩) (λ m (MX:Int)=>cP L1 m MX) Y 0 h1 (gE rfl rfl) ?_;rintro m I5 h1;replace h1:cP L1 (m+1) I5=some N8:=h1;rw [cP] at h1;refine nx 5 rfl (fD [19] h1 rfl (λ IA h1=>?_) λ IA h1=>?_)
  ·refine nx 10 Z (bd h1 λ OG h2 h1=>?_);refine kN OG (λ Oh=>⟨[(0,.p (eS L1)),(17,.p (eI (L1.length:Int))),(18,.p (eI I5)),(30,.p (eB Oh))],[]⟩) ?_ ?_
   ·refine nx 1 Z (fB [30] h1 Z (λ Mz h1=>?_) λ Mz h1=>?_)
    ·exact nx 6 Z (mQ (hR0 _ (oi h1).symm) Z (sr))
    refine nx 3 Z (oA h1 Z Z λ LA h1=>?_);exact nx 2 Z (eX (I5+1) h1 (gE Z Z))
   refine nx 3 Z (oI h2 Z λ KI h2=>?_);refine nx 2 Z (fD [24,25] h2 Z (λ Lm h2=>?_) λ Lm h2=>?_)
   ·exact nx 6 Z (eX _ (oi h2).symm (gE Z Z))
   refine nx 2 Z (oI h2 Z λ Kn h2=>?_);exact nx 3 Z (eX _ (oi h2).symm (gE Z Z))
  exact nx 2 Z (eXi _ (oi h1).symm (gE Z Z))
 refine nx 1 Z (bd h1 λ o43 h2 h1=>?_);refine kN o43 (λ Og=>⟨[(0,.p (eS H1)),(11,.p (eB Og))],[]⟩) ?_ ?_
 ·refine nx 1 Z (fB [11] h1 Z (λ c4 h1=>?_) λ c4 h1=>?_)
  ·refine nx 4 Z (oP h1 Z Z Z λ Mk h1=>?_);refine nx 5 Z (oS Z Z ?_);refine nx 1 Z (fD [15] h1 Z (λ c6 h1=>?_) λ c6 h1=>?_)
   ·exact nx 6 Z (mQ (hR0 _ (oi h1).symm) Z (sr))
   exact nx 2 Z (eX _ (oi h1).symm (gE Z Z))
  exact nx 2 Z (eX _ (oi h1).symm (gE Z Z))
 refine nx 2 Z (oLs Z ?_);refine nx 2 Z (fD [6,7] h2 Z (λ c1 h2=>?_) λ c1 h2=>?_)
 ·refine nx 1 Z (oI h2 Z λ Ke h2=>?_);exact nx 3 Z (eX _ (oi h2).symm (gE Z Z))
 exact nx 5 Z (eX _ (oi h2).symm (gE Z Z))
def kg (n:Nat)(H1:Bytes):Option (Int×Int) :=
 (gO n H1).bind λ r1 =>
 if (!r1)=true then
  some (0,2)
 else
  (iZ H1 10 64).bind λ r4 =>
  (
    if r4.2=true then
     some true
    else
     (jg r4.1).bind λ r7 =>
     some (!r7)
   : Option Bool).bind λ t9 =>
  if t9=true then
   some (0,5)
  else
   some (r4.1,0)
theorem sP (n:Nat)(H1:Bytes)(r:Int×Int)(h0:kg n H1=some r):aB Tryz.prog 104 [eS H1] (·=.tuple [.p (eI r.1),.p (eI r.2)]):=by
 unfold kg at h0;refine bm good Tryz.func104 Z Z Z λ w0=>mP (λ v:Int×Int=>.tuple [.p (eI v.1),.p (eI v.2)]) ?_;refine nx 9 Z (bd h0 λ r1 e2 h0=>?_);refine oK (qa _ H1 _ e2) Z ⟨sr,trivial⟩ Tryz.call113 Z (nx 2 Z ?_);refine fB [8] h0 Z (λ c3 h0=>?_) λ c3 h0=>?_
 ·exact nx 7 Z (mQ (oi h0) Z (ax ⟨sr,sr,trivial⟩))
 refine nx 5 Z (bd h0 λ r4 e5 h0=>?_);refine oK (qd H1 10 64 _ e5) Z ⟨sr,sr,sr,trivial⟩ Tryz.call114 (Bi (rT Z (rT (Gb _) yP))) (nx 8 Z ?_);refine bd h0 λ NA h1 h0=>kN NA (λ Lt=>⟨[(4,.p (eI r4.1)),(20,.p (eB Lt))],[]⟩) ?_ ?_
 ·refine nx 1 Z (fB [20] h0 Z (λ Kq h0=>?_) λ Kq h0=>?_)
  ·exact nx 7 Z (mQ (oi h0) Z (ax ⟨sr,sr,trivial⟩))
  exact nx 9 Z (mQ (oi h0) Z (ax ⟨sr,sr,trivial⟩))
 refine nx 2 Z (mO Z (Gk Z Z Z Z Z Z (.inr ⟨Z,Z⟩) ?_));refine nx 1 Z (fB [15,16] h1 Z (λ c6 h1=>?_) λ c6 h1=>?_)
 ·exact nx 5 Z (eX _ (oi h1).symm (gE Z Z))
 refine nx 1 Z (bd h1 λ r7 e8 h1=>?_);refine oK (oT r4.1 _ e8) Z ⟨sr,trivial⟩ Tryz.call110 Z (nx 3 Z ?_);exact eX _ (oi h1).symm (gE Z Z)
def cO (H1:Bytes):Nat->Int->Int->Option (Int×Int)
 | 0,_,_=>none
 | m+1,n11,i12 =>
 (
   if i12 < (H1.length:Int) then
    some (decide (i12 < 6))
   else
    some false
  : Option Bool).bind λ Or =>
 if Or=true then
  ck ((0:Int)<=i12/\i12 < (H1.length:Int)) <|
  (strings_IndexByte ([48,49,50,51,52,53,54,55,56,57,97,98,99,100,101,102]:Bytes) (byt H1 i12)).bind λ KS =>
  if KS < 0 then
   some (n11,i12)
  else
   ck (inR (i12+1)) <|
   cO H1 m (IntKind.wrap .i32 ((IntKind.wrap .i32 (16*n11))+(IntKind.wrap .i32 (KS)))) (i12+1)
 else
  some (n11,i12)
def eN (n:Nat)(H1:Bytes):Option (Int×Int×Int) :=
 (cO H1 n 0 0).bind λ Mc =>
 if Mc.2=(H1.length:Int) then
  some (0,0,40)
 else
  (
    ck ((0:Int)<=Mc.2/\Mc.2 < (H1.length:Int)) <|
    if byt H1 Mc.2=125 then
     if Mc.2=0 then
      some true
     else
      if 1 < Mc.2 then
       ck ((0:Int)<=0/\0 < (H1.length:Int)) <|
       if byt H1 0=48 then
        some true
       else
        (dG Mc.1).bind λ J1 =>
        some (!J1)
      else
       (dG Mc.1).bind λ It =>
       some (!It)
    else
     some true
   : Option Bool).bind λ t36 =>
  if t36=true then
   some (0,0,2)
  else
   ck (inR (Mc.2+1)) <|
   some (Mc.1,Mc.2+1,0)
theorem o0 (n:Nat)(H1:Bytes)(r:Int×Int×Int)(h0:eN n H1=some r):aB Tryz.prog 160 [eS H1] (·=.tuple [.p (eK .i32 r.1),.p (eI r.2.1),.p (eI r.2.2)]):=by
 unfold eN at h0;refine bm good Tryz.func160 Z Z Z λ w0=>mP (λ v:Int×Int×Int=>.tuple [.p (eK .i32 v.1),.p (eI v.2.1),.p (eI v.2.2)]) ?_;refine nx 13 Z (bd h0 λ Lj h1 h0=>?_);refine kE 0 Lj (λ KR=>⟨[(0,.p (eS H1)),(5,.p (eK .i32 KR.1)),(6,.p (eI KR.2))],[]⟩) ?_ ?_
 ·refine nx 6 Z (oLs Z ?_);refine nx 2 Z (fD [32] h0 Z (λ KM h0=>?_) λ KM h0=>?_)
  ·exact nx 8 Z (mQ (oi h0) Z (ax ⟨sr,sr,sr,trivial⟩))
  refine nx 4 Z (bd h0 λ o44 h1 h0=>?_);refine kN o44 (λ Of=>⟨[(5,.p (eK .i32 Lj.1)),(6,.p (eI Lj.2)),(54,.p (eB Of))],[]⟩) ?_ ?_
  ·refine nx 1 Z (fB [54] h0 Z (λ c37 h0=>?_) λ c37 h0=>?_)
   ·exact nx 8 Z (mQ (oi h0) Z (ax ⟨sr,sr,sr,trivial⟩))
   refine nx 6 Z (oA h0 Z Z λ NL h0=>?_);exact nx 5 Z (mQ (oi h0) Z (ax ⟨sr,sr,sr,trivial⟩))
  refine nx 3 Z (oI h1 Z λ Ky h1=>?_);refine nx 2 Z (fN [36,37] h1 Z (λ K8 h1=>?_) λ K8 h1=>?_)
  ·refine nx 4 Z (fD [39,40,41] h1 Z (λ Mw h1=>?_) λ Mw h1=>?_)
   ·exact nx 14 Z (eX _ (oi h1).symm (gE Z Z))
   refine nx 3 Z (fD [43,44] h1 Z (λ Mv h1=>?_) λ Mv h1=>?_)
   ·refine nx 1 Z (oI h1 Z λ Mn h1=>?_);refine nx 4 Z (fD [47,48,49,50] h1 Z (λ Jk h1=>?_) λ Jk h1=>?_)
    ·exact nx 5 Z (eX _ (oi h1).symm (gE Z Z))
    refine nx 1 Z (bd h1 λ J1 Mo h1=>?_);refine oK (jj Lj.1 _ Mo) Z ⟨sr,trivial⟩ Tryz.call168 Z (nx 3 Z ?_);exact eX _ (oi h1).symm (gE Z Z)
   refine nx 7 Z (bd h1 λ It LH h1=>?_);refine oK (jj Lj.1 _ LH) Z ⟨sr,trivial⟩ Tryz.call168 Z (nx 3 Z ?_);exact eX _ (oi h1).symm (gE Z Z)
  exact nx 18 Z (eX _ (oi h1).symm (gE Z Z))
 refine lG (λ (MH:Int×Int)=>⟨[(0,.p (eS H1)),(5,.p (eK .i32 MH.1)),(6,.p (eI MH.2))],[]⟩) (λ m (MH:Int×Int)=>cO H1 m MH.1 MH.2) Y (0,0) h1 (gE rfl rfl) ?_;rintro m ⟨n11,i12⟩ h1;replace h1:cO H1 (m+1) n11 i12=some Lj:=h1;rw [cO] at h1;refine nx 2 rfl (bd h1 λ N7 h2 h1=>?_);refine kN N7 (λ Oe=>⟨[(0,.p (eS H1)),(5,.p (eK .i32 n11)),(6,.p (eI i12)),(15,.p (eB Oe))],[]⟩) ?_ ?_
 ·refine nx 1 Z (fB [15] h1 Z (λ KN h1=>?_) λ KN h1=>?_)
  ·refine nx 8 Z (oI h1 Z λ K0 h1=>?_);refine bd h1 λ KS Ng h1=>oK (gq ([48,49,50,51,52,53,54,55,56,57,97,98,99,100,101,102]:Bytes) (byt H1 i12) _ Ng) Z ⟨sr,sr,trivial⟩ Tryz.call57 Z (nx 8 Z ?_);refine fD [23] h1 Z (λ Lm h1=>?_) λ Lm h1=>?_
   ·exact nx 2 Z (eXi _ (oi h1).symm (gE Z Z))
   refine nx 12 Z (oA h1 Z Z λ Kn h1=>?_);exact nx 2 Z (eX (IntKind.wrap .i32 ((IntKind.wrap .i32 (16*n11))+(IntKind.wrap .i32 (KS))),i12+1) h1 (gE Z Z))
  exact nx 2 Z (eXi _ (oi h1).symm (gE Z Z))
 refine nx 3 Z (oLs Z ?_);refine nx 2 Z (fD [11,12] h2 Z (λ JN h2=>?_) λ JN h2=>?_)
 ·exact nx 4 Z (eX _ (oi h2).symm (gE Z Z))
 exact nx 4 Z (eX _ (oi h2).symm (gE Z Z))
def ju (n:Nat)(H1:Bytes):Option (Int×Int×Int) :=
 if H1=([]:Bytes) then
  some (0,0,40)
 else
  ck ((0:Int)<=0/\0 < (H1.length:Int)) <|
  if byt H1 0=110 then
   some (10,1,0)
  else
   if byt H1 0=114 then
    some (13,1,0)
   else
    if byt H1 0=116 then
     some (9,1,0)
    else
     (
       if byt H1 0=34 then
        some true
       else
        some (decide (byt H1 0=92))
      : Option Bool).bind λ t7 =>
     if t7=true then
      ck ((0:Int)<=0/\0 < (H1.length:Int)) <|
      some (IntKind.wrap .i32 (byt H1 0),1,0)
     else
      if byt H1 0=117 then
       if (H1.length:Int)=1 then
        some (0,0,40)
       else
        ck ((0:Int)<=1/\1 < (H1.length:Int)) <|
        if byt H1 1=123 then
         ck ((0:Int)<=2/\2<=(H1.length:Int)/\(H1.length:Int)<=(H1.length:Int)) <|
         (eN n (sub H1 2 (H1.length:Int))).bind λ Im =>
         ck (inR (Im.2.1+2)) <|
         some (Im.1,Im.2.1+2,Im.2.2)
        else
         some (0,0,2)
      else
       some (0,0,2)
theorem rC (n:Nat)(H1:Bytes)(r:Int×Int×Int)(h0:ju n H1=some r):aB Tryz.prog 152 [eS H1] (·=.tuple [.p (eK .i32 r.1),.p (eI r.2.1),.p (eI r.2.2)]):=by
 unfold ju at h0;refine bm good Tryz.func152 Z Z Z λ w0=>mP (λ v:Int×Int×Int=>.tuple [.p (eK .i32 v.1),.p (eI v.2.1),.p (eI v.2.2)]) ?_;refine nx 10 Z (oS Z Z ?_);refine nx 1 Z (fD [9] h0 Z (λ c1 h0=>?_) λ c1 h0=>?_)
 ·exact nx 8 Z (mQ (oi h0) Z (ax ⟨sr,sr,sr,trivial⟩))
 refine nx 6 Z (oI h0 Z λ Ke h0=>?_);refine nx 7 Z (fD [12,13] h0 Z (λ c3 h0=>?_) λ c3 h0=>?_)
 ·exact nx 8 Z (mQ (oi h0) Z (ax ⟨sr,sr,sr,trivial⟩))
 refine nx 6 Z (fD [14,15] h0 Z (λ c4 h0=>?_) λ c4 h0=>?_)
 ·exact nx 8 Z (mQ (oi h0) Z (ax ⟨sr,sr,sr,trivial⟩))
 refine nx 6 Z (fD [16,17] h0 Z (λ c5 h0=>?_) λ c5 h0=>?_)
 ·exact nx 8 Z (mQ (oi h0) Z (ax ⟨sr,sr,sr,trivial⟩))
 refine nx 2 Z (bd h0 λ Kk h1 h0=>?_);refine kN Kk (λ v20=>⟨[(0,.p (eS H1)),(11,.p (eK .u8 (byt H1 0))),(18,.p (eB v20))],[]⟩) ?_ ?_
 ·refine nx 1 Z (fB [18] h0 Z (λ c8 h0=>?_) λ c8 h0=>?_)
  ·refine nx 4 Z (oI h0 Z λ Lq h0=>?_);exact nx 6 Z (mQ (oi h0) Z (ax ⟨sr,sr,sr,trivial⟩))
  refine nx 6 Z (fD [24,25] h0 Z (λ Kq h0=>?_) λ Kq h0=>?_)
  ·refine nx 5 Z (oLs Z ?_);refine nx 2 Z (fD [28] h0 Z (λ Ka h0=>?_) λ Ka h0=>?_)
   ·exact nx 8 Z (mQ (oi h0) Z (ax ⟨sr,sr,sr,trivial⟩))
   refine nx 6 Z (oI h0 Z λ KA h0=>?_);refine nx 2 Z (fN [31] h0 Z (λ JN h0=>?_) λ JN h0=>?_)
   ·refine nx 5 Z (oP h0 Z Z Z λ Kp h0=>?_);refine bd h0 λ Im K7 h0=>oK (o0 _ (sub H1 2 (H1.length:Int)) _ K7) Z ⟨sr,trivial⟩ Tryz.call160 Z (nx 12 Z ?_);refine oA h0 Z Z λ Na h0=>nx 5 Z (mG (gE (t:=⟨[(2,.p (eK .i32 Im.1)),(3,.p (eI (Im.2.1+2))),(4,.p (eI Im.2.2))],[]⟩) Z Z) ?_);exact nx 1 Z (mQ (oi h0) Z (ax ⟨sr,sr,sr,trivial⟩))
   exact nx 8 Z (mQ (oi h0) Z (ax ⟨sr,sr,sr,trivial⟩))
  exact nx 9 Z (mQ (oi h0) Z (ax ⟨sr,sr,sr,trivial⟩))
 refine nx 5 Z (fD [18,19] h1 Z (λ c6 h1=>?_) λ c6 h1=>?_)
 ·exact nx 2 Z (eX _ (oi h1).symm (gE Z Z))
 exact nx 5 Z (eX _ (oi h1).symm (gE Z Z))
def ew (n:Nat)(H1:Bytes):Nat->Int->(List UInt8)->Option ((Int×(List UInt8))⊕(Bytes×Int×Int))
 | 0,_,_=>none
 | m+1,at31,LB =>
 (
   if at31 < (H1.length:Int) then
    ck ((0:Int)<=at31/\at31 < (H1.length:Int)) <|
    some (!decide (byt H1 at31=34))
   else
    some false
  : Option Bool).bind λ t35 =>
 if t35=true then
  ck ((0:Int)<=at31/\at31<=(H1.length:Int)/\(H1.length:Int)<=(H1.length:Int)) <|
  (bg (sub H1 at31 (H1.length:Int))).bind λ J5 =>
  jn (
    if J5.1=92 then
     ck (inR (at31+1)) <|
     ck ((0:Int)<=at31+1/\at31+1<=(H1.length:Int)/\(H1.length:Int)<=(H1.length:Int)) <|
     (ju n (sub H1 (at31+1) (H1.length:Int))).bind λ L5 =>
     if L5.2.2=0 then
      ck (inR (L5.2.1+1)) <|
      some (.inl (L5.1,L5.2.1+1))
     else
      some (.inr (.inr (([]:Bytes),0,L5.2.2)))
    else
     (
       if J5.1=65533 then
        if J5.2=1 then
         some true
        else
         if J5.1 < 32 then
          some true
         else
          some (decide (J5.1=127))
       else
        if J5.1 < 32 then
         some true
        else
         some (decide (J5.1=127))
      : Option Bool).bind λ t51 =>
     if t51=true then
      some (.inr (.inr (([]:Bytes),0,2)))
     else
      some (.inl (J5.1,J5.2))
   : Option ((Int×Int)⊕((Int×(List UInt8))⊕(Bytes×Int×Int)))) λ MV =>
  (dJ (cw.mk LB) MV.1).bind λ KD =>
  ck (inR (at31+MV.2)) <|
  ew n H1 m (at31+MV.2) KD.2.2.HW
 else
  some (.inl (at31,LB))
def gW (n:Nat)(H1:Bytes):Option (Bytes×Int×Int) :=
 if H1=([]:Bytes) then
  some (([]:Bytes),0,40)
 else
  ck ((0:Int)<=0/\0 < (H1.length:Int)) <|
  if byt H1 0=34 then
   jn (ew n H1 n 1 []) λ Nx =>
   if Nx.1=(H1.length:Int) then
    some (([]:Bytes),0,40)
   else
    (jq (cw.mk Nx.2)).bind λ Kw =>
    if 4096 < Kw.1 then
     some (([]:Bytes),0,3)
    else
     (fu (cw.mk Kw.2.HW)).bind λ Kv =>
     ck (inR (Nx.1+1)) <|
     some (Kv.1,Nx.1+1,0)
  else
   some (([]:Bytes),0,2)
theorem re (n:Nat)(H1:Bytes)(r:Bytes×Int×Int)(h0:gW n H1=some r):aB Tryz.prog 150 [eS H1] (·=.tuple [.p (eS r.1),.p (eI r.2.1),.p (eI r.2.2)]):=by
 unfold gW at h0;refine bm good Tryz.func150 Z Z Z λ w0=>mP (λ v:Bytes×Int×Int=>.tuple [.p (eS v.1),.p (eI v.2.1),.p (eI v.2.2)]) ?_;refine nx 10 Z (oS Z Z ?_);refine nx 1 Z (fD [13] h0 Z (λ c1 h0=>?_) λ c1 h0=>?_)
 ·exact nx 8 Z (mQ (oi h0) Z (ax ⟨sr,sr,sr,trivial⟩))
 refine nx 6 Z (oI h0 Z λ Ke h0=>?_);refine nx 2 Z (fN [16] h0 Z (λ c3 h0=>?_) λ c3 h0=>?_)
 ·refine nx 4 rfl (mO rfl (Br Z Z Z Z Z Z Z ?_));refine nx 7 rfl ?_;obtain ⟨OE,h1,IS,hR0⟩:=db h0;refine kEx 0 (λ LX:Int×(List UInt8)=>OE=.inl LX) (λ LX=>⟨[(0,.p (eS H1)),(5,.ptr 5 0),(6,.p (eI LX.1))],[(5,[.bptr 178 2 5,.vec 101000 1 (5+1) (LX.2.map eU)])]⟩) (λ LX hv=>?_) ?_
  ·have h0:=IS _ hv;refine nx 6 Z (oLs Z ?_);refine nx 2 Z (fD [73] h0 Z (λ c62 h0=>?_) λ c62 h0=>?_)
   ·exact nx 8 Z (mQ (oi h0) Z (ax ⟨sr,sr,sr,trivial⟩))
   refine nx 5 Z (bd h0 λ Kw O0 h0=>?_);refine mO Z (bn [5] [101000] 103000 103001 (ot (cw.mk LX.2) _ O0) Z Z Z Z Z ⟨sr,trivial⟩ Z Z ⟨⟨_,Z,⟨sr,sr,trivial⟩⟩,trivial⟩ Z Z Z Z Z Z Z Z Tryz.call154 Z Z ?_);refine nx 2 Z (fD [75] h0 Z (λ c65 h0=>?_) λ c65 h0=>?_)
   ·exact nx 8 Z (mQ (oi h0) Z (ax ⟨sr,sr,sr,trivial⟩))
   refine nx 4 Z (bd h0 λ Kv OZ h0=>?_);refine mO Z (bn [5] [103000] 104000 104000 (ni (cw.mk Kw.2.HW) _ OZ) Z Z Z Z Z ⟨sr,trivial⟩ Z Z ⟨⟨_,Z,⟨sr,sr,trivial⟩⟩,trivial⟩ Z Z Z Z Z Z Z Z Tryz.call155 Z Z ?_);refine nx 1 Z (oA h0 Z Z λ ON h0=>?_);exact nx 5 Z (mQ (oi h0) Z (ax ⟨sr,sr,sr,trivial⟩))
  refine lG (λ (L9:Int×(List UInt8))=>⟨[(0,.p (eS H1)),(5,.ptr 5 0),(6,.p (eI L9.1))],[(5,[.bptr 178 2 5,.vec 101000 1 (5+1) (L9.2.map eU)])]⟩) (λ m (L9:Int×(List UInt8))=>ew n H1 m L9.1 L9.2) Y (1,[]) h1 (cK (iF ⟨er rfl,er rfl,er rfl,trivial⟩ ⟨⟨_,rfl,⟨sr,AV.sub_nilvec _ _ _,trivial⟩⟩,trivial⟩)) ?_;rintro m ⟨at31,LB⟩ h1;replace h1:ew n H1 (m+1) at31 LB=some OE:=h1;rw [ew] at h1;refine nx 2 rfl (bd h1 λ N4 h2 h1=>?_);refine kN N4 (λ LW=>⟨[(0,.p (eS H1)),(5,.ptr 5 0),(6,.p (eI at31)),(26,.p (eB LW))],[(5,[.bptr 178 2 5,.vec 101000 1 (5+1) (LB.map eU)])]⟩) ?_ ?_
  ·refine nx 1 Z (fB [26] h1 Z (λ Mt h1=>?_) λ Mt h1=>?_)
   ·refine nx 7 rfl (oP h1 Z Z Z λ KZ h1=>?_);refine bd h1 λ J5 O4 h1=>oK (d6 (sub H1 at31 (H1.length:Int)) _ O4) rfl ⟨sr,trivial⟩ Tryz.call90 rfl (nx 7 rfl ?_);obtain ⟨o78,h2,hL1,hR1⟩:=db h1;refine kX (λ MN:Int×Int=>o78=.inl MN) (λ MN=>⟨[(0,.p (eS H1)),(5,.ptr 5 0),(6,.p (eI at31)),(7,.p (eK .i32 MN.1)),(8,.p (eI MN.2))],[(5,[.bptr 178 2 5,.vec 101000 1 (5+1) (LB.map eU)])]⟩) (λ MN hv=>?_) ?_
    ·have h1:=hL1 _ hv;refine nx 4 Z (bd h1 λ KD O1 h1=>?_);refine mO Z (bn [5] [101000] 102000 102001 (lL (cw.mk LB) MN.1 _ O1) Z Z Z Z Z ⟨sr,sr,trivial⟩ Z Z ⟨⟨_,Z,⟨sr,sr,trivial⟩⟩,trivial⟩ Z Z Z Z Z Z Z Z Tryz.call153 Z Z ?_);refine nx 4 Z (oA h1 Z Z λ M3 h1=>?_);exact nx 2 Z (eX (at31+MN.2,KD.2.2.HW) h1 (aQ (bB 102000 101000 Z Z Z Z Z) (gE Z Z)))
    refine nx 5 Z (fD [35] h2 Z (λ Pd h2=>?_) λ Pd h2=>?_)
    ·refine nx 5 Z (oA h2 Z Z λ KG h2=>?_);refine oP h2 Z Z Z λ M4 h2=>bd h2 λ L5 e44 h2=>oK (rC _ (sub H1 (at31+1) (H1.length:Int)) _ e44) Z ⟨sr,trivial⟩ Tryz.call152 Z (nx 14 Z ?_);refine fN [46] h2 Z (λ O' h2=>?_) λ O' h2=>?_
     ·refine nx 5 Z (oA h2 Z Z λ NK h2=>?_);exact nx 3 Z (eX _ (oi h2).symm (gE Z Z))
     refine nx 8 Z (mG (gE (t:=⟨[(2,.p (eS ([]:Bytes))),(3,.p (eI 0)),(4,.p (eI L5.2.2))],[]⟩) Z Z) ?_);exact nx 1 Z (mQ (hR0 _ (hR1 _ (oi h2).symm).symm) Z (ax ⟨sr,sr,sr,trivial⟩))
    refine nx 2 Z (bd h2 λ o80 h3 h2=>?_);refine kN o80 (λ v81=>⟨[(0,.p (eS H1)),(5,.ptr 5 0),(6,.p (eI at31)),(7,.p (eK .i32 J5.1)),(8,.p (eI J5.2)),(64,.p (eB v81))],[(5,[.bptr 178 2 5,.vec 101000 1 (5+1) (LB.map eU)])]⟩) ?_ ?_
    ·refine nx 1 Z (fB [64] h2 Z (λ NZ h2=>?_) λ NZ h2=>?_)
     ·exact nx 8 Z (mQ (hR0 _ (hR1 _ (oi h2).symm).symm) Z (ax ⟨sr,sr,sr,trivial⟩))
     exact nx 2 Z (eX _ (oi h2).symm (gE Z Z))
    refine nx 4 Z (fD [52,53] h3 Z (λ Ni h3=>?_) λ Ni h3=>?_)
    ·refine nx 4 Z (fD [55,56,57] h3 Z (λ O9 h3=>?_) λ O9 h3=>?_)
     ·exact nx 8 Z (eX _ (oi h3).symm (gE Z Z))
     refine nx 4 Z (fD [59,60,61] h3 Z (λ c49 h3=>?_) λ c49 h3=>?_)
     ·exact nx 4 Z (eX _ (oi h3).symm (gE Z Z))
     exact nx 4 Z (eX _ (oi h3).symm (gE Z Z))
    refine nx 8 Z (fD [59,60,61] h3 Z (λ O8 h3=>?_) λ O8 h3=>?_)
    ·exact nx 4 Z (eX _ (oi h3).symm (gE Z Z))
    exact nx 4 Z (eX _ (oi h3).symm (gE Z Z))
   exact nx 2 Z (eXi _ (oi h1).symm (gE Z Z))
  refine nx 3 Z (oLs Z ?_);refine nx 2 Z (fD [20,21] h2 Z (λ N0 h2=>?_) λ N0 h2=>?_)
  ·refine nx 2 Z (oI h2 Z λ Ly h2=>?_);exact nx 3 Z (eX _ (oi h2).symm (gE Z Z))
  exact nx 6 Z (eX _ (oi h2).symm (gE Z Z))
 exact nx 8 Z (mQ (oi h0) Z (ax ⟨sr,sr,sr,trivial⟩))
def j9 (H1:Bytes):Option Bool :=
 (
   if (H1.length:Int)<=4096 then
    (eT H1).bind λ r2 =>
    some r2
   else
    some false
  : Option Bool).bind λ t4 =>
 some t4
theorem sX (H1:Bytes)(r:Bool)(h0:j9 H1=some r):aB Tryz.prog 120 [eS H1] (·=.p (eB r)):=by
 unfold j9 at h0;refine bm good Tryz.func120 Z Z Z λ w0=>mP (λ v:Bool=>.p (eB v)) ?_;refine nx 5 Z (bd h0 λ o6 h1 h0=>?_);refine kN o6 (λ v7=>⟨[(2,.p (eB v7))],[]⟩) ?_ ?_
 ·exact nx 2 Z (mQ (oi h0) Z (sr))
 refine nx 2 Z (oLs Z ?_);refine nx 2 Z (fD [5,6] h1 Z (λ c1 h1=>?_) λ c1 h1=>?_)
 ·refine nx 1 Z (bd h1 λ r2 e3 h1=>?_);refine oK (lX H1 _ e3) Z ⟨sr,trivial⟩ Tryz.call129 Z (nx 3 Z ?_);exact eX _ (oi h1).symm (gE Z Z)
 exact nx 5 Z (eX _ (oi h1).symm (gE Z Z))
def nt (Mf:Int):Option Bool :=
 (
   if (-9007199254740992)<=Mf then
    some (decide (Mf<=9007199254740992))
   else
    some false
  : Option Bool).bind λ t2 =>
 some t2
theorem uf (Mf:Int)(r:Bool)(h0:nt Mf=some r):aB Tryz.prog 101 [eI Mf] (·=.p (eB r)):=by
 unfold nt at h0;refine bm good Tryz.func101 Z Z Z λ w0=>mP (λ v:Bool=>.p (eB v)) ?_;refine nx 5 Z (bd h0 λ o4 h1 h0=>?_);refine kN o4 (λ v5=>⟨[(2,.p (eB v5))],[]⟩) ?_ ?_
 ·exact nx 2 Z (mQ (oi h0) Z (sr))
 refine nx 4 Z (fD [4,5] h1 Z (λ c1 h1=>?_) λ c1 h1=>?_)
 ·exact nx 5 Z (eX _ (oi h1).symm (gE Z Z))
 exact nx 5 Z (eX _ (oi h1).symm (gE Z Z))
def sU (H1:Bytes):Nat->Int->Option (Unit⊕Bool)
 | 0,_=>none
 | m+1,i9 =>
 if i9 < (H1.length:Int) then
  (
    ck ((0:Int)<=i9/\i9 < (H1.length:Int)) <|
    if byt H1 i9 < 48 then
     some true
    else
     ck ((0:Int)<=i9/\i9 < (H1.length:Int)) <|
     some (decide (57 < byt H1 i9))
   : Option Bool).bind λ Or =>
  if Or=true then
   some (.inr false)
  else
   ck (inR (i9+1)) <|
   sU H1 m (i9+1)
 else
  some (.inl ())
def em (H1:Bytes)(Ie:Int)(lo_2:Int)(hi_3:Int):Option Bool :=
 (
   if Ie < (H1.length:Int) then
    ck ((0:Int)<=Ie/\Ie < (H1.length:Int)) <|
    if lo_2<=byt H1 Ie then
     ck ((0:Int)<=Ie/\Ie < (H1.length:Int)) <|
     some (decide (byt H1 Ie<=hi_3))
    else
     some false
   else
    some false
  : Option Bool).bind λ t5 =>
 some t5
theorem iq (H1:Bytes)(Ie:Int)(lo_2:Int)(hi_3:Int)(r:Bool)(h0:em H1 Ie lo_2 hi_3=some r):aB Tryz.prog 130 [eS H1,eI Ie,eK .u8 lo_2,eK .u8 hi_3] (·=.p (eB r)):=by
 unfold em at h0;refine bm good Tryz.func130 Z Z Z λ w0=>mP (λ v:Bool=>.p (eB v)) ?_;refine nx 5 Z (bd h0 λ o7 h1 h0=>?_);refine kN o7 (λ v8=>⟨[(8,.p (eB v8))],[]⟩) ?_ ?_
 ·exact nx 2 Z (mQ (oi h0) Z (sr))
 refine nx 3 Z (oLs Z ?_);refine nx 2 Z (fD [12,13] h1 Z (λ c1 h1=>?_) λ c1 h1=>?_)
 ·refine nx 2 Z (oI h1 Z λ Ke h1=>?_);refine nx 4 Z (fD [18,19,20] h1 Z (λ c3 h1=>?_) λ c3 h1=>?_)
  ·refine nx 2 Z (oI h1 Z λ Ml h1=>?_);exact nx 5 Z (eX _ (oi h1).symm (gE Z Z))
  exact nx 8 Z (eX _ (oi h1).symm (gE Z Z))
 exact nx 15 Z (eX _ (oi h1).symm (gE Z Z))
def jY (H1:Bytes)(Ie:Int):Option (Int×Int) :=
 (
   if Ie < 0 then
    some true
   else
    some (decide ((H1.length:Int)<=Ie))
  : Option Bool).bind λ t2 =>
 if t2=true then
  some (0,0)
 else
  ck ((0:Int)<=Ie/\Ie < (H1.length:Int)) <|
  if byt H1 Ie < 128 then
   ck (inR (byt H1 Ie)) <|
   some (byt H1 Ie,1)
  else
   (
     if 194<=byt H1 Ie then
      if byt H1 Ie<=223 then
       ck (inR (Ie+1)) <|
       (em H1 (Ie+1) 128 191).bind λ Iu =>
       some Iu
      else
       some false
     else
      some false
    : Option Bool).bind λ t12 =>
   if t12=true then
    ck (inR (cQ .u8 (byt H1 Ie) 31)) <|
    ck ((0:Int)<=6) <|
    ck (inR (Ie+1)) <|
    ck ((0:Int)<=Ie+1/\Ie+1 < (H1.length:Int)) <|
    ck (inR (cQ .u8 (byt H1 (Ie+1)) 63)) <|
    some (iOr .i64 (jW .i64 (cQ .u8 (byt H1 Ie) 31) 6) (cQ .u8 (byt H1 (Ie+1)) 63),2)
   else
    (
      if byt H1 Ie=224 then
       some 160
      else
       some 128
     : Option Int).bind λ lo20 =>
    (
      if byt H1 Ie=237 then
       some 159
      else
       some 191
     : Option Int).bind λ hi22 =>
    (
      if 224<=byt H1 Ie then
       if byt H1 Ie<=239 then
        ck (inR (Ie+1)) <|
        (em H1 (Ie+1) lo20 hi22).bind λ JF =>
        if JF=true then
         ck (inR (Ie+2)) <|
         (em H1 (Ie+2) 128 191).bind λ MF =>
         some MF
        else
         some false
       else
        some false
      else
       some false
     : Option Bool).bind λ t32 =>
    if t32=true then
     ck (inR (cQ .u8 (byt H1 Ie) 15)) <|
     ck ((0:Int)<=12) <|
     ck (inR (Ie+1)) <|
     ck ((0:Int)<=Ie+1/\Ie+1 < (H1.length:Int)) <|
     ck (inR (cQ .u8 (byt H1 (Ie+1)) 63)) <|
     ck ((0:Int)<=6) <|
     ck (inR (Ie+2)) <|
     ck ((0:Int)<=Ie+2/\Ie+2 < (H1.length:Int)) <|
     ck (inR (cQ .u8 (byt H1 (Ie+2)) 63)) <|
     some (iOr .i64 (iOr .i64 (jW .i64 (cQ .u8 (byt H1 Ie) 15) 12) (jW .i64 (cQ .u8 (byt H1 (Ie+1)) 63) 6)) (cQ .u8 (byt H1 (Ie+2)) 63),3)
    else
     (
       if byt H1 Ie=240 then
        some 144
       else
        some 128
      : Option Int).bind λ lo44 =>
     (
       if byt H1 Ie=244 then
        some 143
       else
        some 191
      : Option Int).bind λ hi46 =>
     (
       if 240<=byt H1 Ie then
        if byt H1 Ie<=244 then
         ck (inR (Ie+1)) <|
         (em H1 (Ie+1) lo44 hi46).bind λ r50 =>
         if r50=true then
          ck (inR (Ie+2)) <|
          (em H1 (Ie+2) 128 191).bind λ La =>
          if La=true then
           ck (inR (Ie+3)) <|
           (em H1 (Ie+3) 128 191).bind λ JJ =>
           some JJ
          else
           some false
         else
          some false
        else
         some false
       else
        some false
      : Option Bool).bind λ t60 =>
     if t60=true then
      ck (inR (cQ .u8 (byt H1 Ie) 7)) <|
      ck ((0:Int)<=18) <|
      ck (inR (Ie+1)) <|
      ck ((0:Int)<=Ie+1/\Ie+1 < (H1.length:Int)) <|
      ck (inR (cQ .u8 (byt H1 (Ie+1)) 63)) <|
      ck ((0:Int)<=12) <|
      ck (inR (Ie+2)) <|
      ck ((0:Int)<=Ie+2/\Ie+2 < (H1.length:Int)) <|
      ck (inR (cQ .u8 (byt H1 (Ie+2)) 63)) <|
      ck ((0:Int)<=6) <|
      ck (inR (Ie+3)) <|
      ck ((0:Int)<=Ie+3/\Ie+3 < (H1.length:Int)) <|
      ck (inR (cQ .u8 (byt H1 (Ie+3)) 63)) <|
      some (iOr .i64 (iOr .i64 (iOr .i64 (jW .i64 (cQ .u8 (byt H1 Ie) 7) 18) (jW .i64 (cQ .u8 (byt H1 (Ie+1)) 63) 12)) (jW .i64 (cQ .u8 (byt H1 (Ie+2)) 63) 6)) (cQ .u8 (byt H1 (Ie+3)) 63),4)
     else
      some (0,0)
theorem sH (H1:Bytes)(Ie:Int)(r:Int×Int)(h0:jY H1 Ie=some r):aB Tryz.prog 121 [eS H1,eI Ie] (·=.tuple [.p (eI r.1),.p (eI r.2)]):=by
 unfold jY at h0;refine bm good Tryz.func121 Z Z Z λ w0=>mP (λ v:Int×Int=>.tuple [.p (eI v.1),.p (eI v.2)]) ?_;refine nx 7 Z (bd h0 λ o83 h1 h0=>?_);refine kN o83 (λ v84=>⟨[(0,.p (eS H1)),(1,.p (eI Ie)),(16,.p (eB v84))],[]⟩) ?_ ?_
 ·refine nx 1 Z (fB [16] h0 Z (λ c3 h0=>?_) λ c3 h0=>?_)
  ·exact nx 7 Z (mQ (oi h0) Z (ax ⟨sr,sr,trivial⟩))
  refine nx 6 Z (oI h0 Z λ Ml h0=>?_);refine nx 8 Z (fD [21] h0 Z (λ c5 h0=>?_) λ c5 h0=>?_)
  ·refine nx 4 Z (cc' h0 λ hk6 h0=>?_);refine mO Z (gw Z Z Z Z Z Z Z Z (kU hk6) ?_);exact nx 4 Z (mQ (oi h0) Z (ax ⟨sr,sr,trivial⟩))
  refine nx 4 Z (bd h0 λ o85 h1 h0=>?_);refine kN o85 (λ LK=>⟨[(0,.p (eS H1)),(1,.p (eI Ie)),(6,.p (eK .u8 (byt H1 Ie))),(35,.p (eB LK))],[]⟩) ?_ ?_
  ·refine nx 1 Z (fB [35] h0 Z (λ JN h0=>?_) λ JN h0=>?_)
   ·refine nx 5 Z (cc' h0 λ Kp h0=>?_);refine mO Z (gw Z Z Z Z Z Z Z Z (kU Kp) ?_);refine cc' h0 λ Ko h0=>mO Z (oW Z Z Z Z Z Z Ko ?_);refine nx 2 Z (oA h0 Z Z λ K0 h0=>?_);refine oI h0 Z λ Na h0=>nx 1 Z (cc' h0 λ KI h0=>?_);refine mO Z (gw Z Z Z Z Z Z Z Z (kU KI) ?_);exact nx 5 Z (mQ (oi h0) Z (ax ⟨sr,sr,trivial⟩))
   refine nx 8 Z (bd h0 λ o87 h1 h0=>?_);refine kN o87 (λ v88=>⟨[(0,.p (eS H1)),(1,.p (eI Ie)),(6,.p (eK .u8 (byt H1 Ie))),(7,.p (eK .u8 v88)),(8,.p (eK .u8 191))],[]⟩) ?_ ?_
   ·refine nx 2 Z (bd h0 λ OC h1 h0=>?_);refine kN OC (λ MC=>⟨[(0,.p (eS H1)),(1,.p (eI Ie)),(6,.p (eK .u8 (byt H1 Ie))),(7,.p (eK .u8 o87)),(8,.p (eK .u8 MC))],[]⟩) ?_ ?_
    ·refine nx 3 Z (bd h0 λ o91 h1 h0=>?_);refine kN o91 (λ v92=>⟨[(0,.p (eS H1)),(1,.p (eI Ie)),(6,.p (eK .u8 (byt H1 Ie))),(70,.p (eB v92))],[]⟩) ?_ ?_
     ·refine nx 1 Z (fB [70] h0 Z (λ N0 h0=>?_) λ N0 h0=>?_)
      ·refine nx 2 Z (cc' h0 λ Ly h0=>?_);refine cc' h0 λ Mm h0=>cc' h0 λ M7 h0=>cc' h0 λ KZ h0=>cc' h0 λ NL h0=>cc' h0 λ M6 h0=>cc' h0 λ M5 h0=>cc' h0 λ KG h0=>cc' h0 λ M4 h0=>mD [(0,.p (eS H1)),(1,.p (eI Ie)),(6,.p (eK .u8 (byt H1 Ie)))] Z ⟨Z,Z,Z,trivial⟩ Z (dR 2 Z ?_);refine dq (.p (eI (cQ .u8 (byt H1 Ie) 15))) [72] Z (λ _ e _ q=>aj Z (gw Z Z Z Z Z Z Z (e _ _ Z) (kU Ly) q)) Z (dq (.p (eI (jW .i64 (cQ .u8 (byt H1 Ie) 15) 12))) [73] Z (λ _ e _ q=>aj Z (oW Z Z Z (e _ _ Z) Z Z Mm q)) Z ?_);refine dR 2 Z (dq (.p (eI (Ie+1))) [76] Z (λ _ e _ q=>aj Z (dV Z Z Z (e _ _ Z) Z Z M7 q)) Z ?_);refine dq (.p (eK .u8 (byt H1 (Ie+1)))) [75,77] Z (λ _ e _ q=>aj Z (gk Z Z Z Z Z (e _ _ Z) (e _ _ Z) KZ q)) Z (dR 1 Z ?_);refine dq (.p (eI (cQ .u8 (byt H1 (Ie+1)) 63))) [79] Z (λ _ e _ q=>aj Z (gw Z Z Z Z Z Z Z (e _ _ Z) (kU NL) q)) Z (dq (.p (eI (jW .i64 (cQ .u8 (byt H1 (Ie+1)) 63) 6))) [80] Z (λ _ e _ q=>aj Z (oW Z Z Z (e _ _ Z) Z Z M6 q)) Z ?_);refine dR 3 Z (dq (.p (eI (Ie+2))) [84] Z (λ _ e _ q=>aj Z (dV Z Z Z (e _ _ Z) Z Z M5 q)) Z ?_);refine dq (.p (eK .u8 (byt H1 (Ie+2)))) [83,85] Z (λ _ e _ q=>aj Z (gk Z Z Z Z Z (e _ _ Z) (e _ _ Z) KG q)) Z (dR 1 Z ?_);refine dq (.p (eI (cQ .u8 (byt H1 (Ie+2)) 63))) [87] Z (λ _ e _ q=>aj Z (gw Z Z Z Z Z Z Z (e _ _ Z) (kU M4) q)) Z (dR 3 Z ?_);refine dE Z (nx 2 Z ?_);exact mQ (oi h0) Z (ax ⟨sr,sr,trivial⟩)
      refine nx 8 Z (bd h0 λ o93 h1 h0=>?_);refine kN o93 (λ v94=>⟨[(0,.p (eS H1)),(1,.p (eI Ie)),(6,.p (eK .u8 (byt H1 Ie))),(7,.p (eK .u8 v94)),(8,.p (eK .u8 191))],[]⟩) ?_ ?_
      ·refine nx 2 Z (bd h0 λ o95 h1 h0=>?_);refine kN o95 (λ v96=>⟨[(0,.p (eS H1)),(1,.p (eI Ie)),(6,.p (eK .u8 (byt H1 Ie))),(7,.p (eK .u8 o93)),(8,.p (eK .u8 v96))],[]⟩) ?_ ?_
       ·refine nx 3 Z (bd h0 λ o97 h1 h0=>?_);refine kN o97 (λ v98=>⟨[(0,.p (eS H1)),(1,.p (eI Ie)),(6,.p (eK .u8 (byt H1 Ie))),(119,.p (eB v98))],[]⟩) ?_ ?_
        ·refine nx 1 Z (fB [119] h0 Z (λ c61 h0=>?_) λ c61 h0=>?_)
         ·refine nx 2 Z (cc' h0 λ OO h0=>?_);refine cc' h0 λ hk63 h0=>cc' h0 λ hk64 h0=>cc' h0 λ ND h0=>cc' h0 λ hk66 h0=>cc' h0 λ hk67 h0=>cc' h0 λ ON h0=>cc' h0 λ hk69 h0=>cc' h0 λ hk70 h0=>cc' h0 λ hk71 h0=>cc' h0 λ hk72 h0=>cc' h0 λ hk73 h0=>cc' h0 λ hk74 h0=>?_;refine mD [(0,.p (eS H1)),(1,.p (eI Ie)),(6,.p (eK .u8 (byt H1 Ie)))] Z ⟨Z,Z,Z,trivial⟩ Z (dR 2 Z ?_);refine dq (.p (eI (cQ .u8 (byt H1 Ie) 7))) [121] Z (λ _ e _ q=>aj Z (gw Z Z Z Z Z Z Z (e _ _ Z) (kU OO) q)) Z (dq (.p (eI (jW .i64 (cQ .u8 (byt H1 Ie) 7) 18))) [122] Z (λ _ e _ q=>aj Z (oW Z Z Z (e _ _ Z) Z Z hk63 q)) Z ?_);refine dR 2 Z (dq (.p (eI (Ie+1))) [125] Z (λ _ e _ q=>aj Z (dV Z Z Z (e _ _ Z) Z Z hk64 q)) Z ?_);refine dq (.p (eK .u8 (byt H1 (Ie+1)))) [124,126] Z (λ _ e _ q=>aj Z (gk Z Z Z Z Z (e _ _ Z) (e _ _ Z) ND q)) Z (dR 1 Z ?_);refine dq (.p (eI (cQ .u8 (byt H1 (Ie+1)) 63))) [128] Z (λ _ e _ q=>aj Z (gw Z Z Z Z Z Z Z (e _ _ Z) (kU hk66) q)) Z (dq (.p (eI (jW .i64 (cQ .u8 (byt H1 (Ie+1)) 63) 12))) [129] Z (λ _ e _ q=>aj Z (oW Z Z Z (e _ _ Z) Z Z hk67 q)) Z ?_);refine dR 3 Z (dq (.p (eI (Ie+2))) [133] Z (λ _ e _ q=>aj Z (dV Z Z Z (e _ _ Z) Z Z ON q)) Z ?_);refine dq (.p (eK .u8 (byt H1 (Ie+2)))) [132,134] Z (λ _ e _ q=>aj Z (gk Z Z Z Z Z (e _ _ Z) (e _ _ Z) hk69 q)) Z (dR 1 Z ?_);refine dq (.p (eI (cQ .u8 (byt H1 (Ie+2)) 63))) [136] Z (λ _ e _ q=>aj Z (gw Z Z Z Z Z Z Z (e _ _ Z) (kU hk70) q)) Z (dq (.p (eI (jW .i64 (cQ .u8 (byt H1 (Ie+2)) 63) 6))) [137] Z (λ _ e _ q=>aj Z (oW Z Z Z (e _ _ Z) Z Z hk71 q)) Z ?_);refine dR 3 Z (dq (.p (eI (Ie+3))) [141] Z (λ _ e _ q=>aj Z (dV Z Z Z (e _ _ Z) Z Z hk72 q)) Z ?_);refine dq (.p (eK .u8 (byt H1 (Ie+3)))) [140,142] Z (λ _ e _ q=>aj Z (gk Z Z Z Z Z (e _ _ Z) (e _ _ Z) hk73 q)) Z (dR 1 Z ?_);refine dq (.p (eI (cQ .u8 (byt H1 (Ie+3)) 63))) [144] Z (λ _ e _ q=>aj Z (gw Z Z Z Z Z Z Z (e _ _ Z) (kU hk74) q)) Z (dR 3 Z ?_);refine dE Z (nx 1 Z ?_);refine mG (gE (t:=⟨[(4,.p (eI (iOr .i64 (iOr .i64 (iOr .i64 (jW .i64 (cQ .u8 (byt H1 Ie) 7) 18) (jW .i64 (cQ .u8 (byt H1 (Ie+1)) 63) 12)) (jW .i64 (cQ .u8 (byt H1 (Ie+2)) 63) 6)) (cQ .u8 (byt H1 (Ie+3)) 63)))),(5,.p (eI 4))],[]⟩) Z Z) (nx 1 Z ?_);exact mQ (oi h0) Z (ax ⟨sr,sr,trivial⟩)
         exact nx 8 Z (mQ (oi h0) Z (ax ⟨sr,sr,trivial⟩))
        refine nx 4 Z (fD [95,96] h1 Z (λ Ni h1=>?_) λ Ni h1=>?_)
        ·refine nx 4 Z (fD [98,99,100] h1 Z (λ O9 h1=>?_) λ O9 h1=>?_)
         ·refine nx 2 Z (oA h1 Z Z λ OT h1=>?_);refine nx 2 Z (bd h1 λ r50 e51 h1=>?_);refine oK (iq H1 (Ie+1) o93 o95 _ e51) Z ⟨sr,sr,sr,sr,trivial⟩ Tryz.call130 Z (nx 2 Z ?_);refine fB [106,107,108] h1 Z (λ NZ h1=>?_) λ NZ h1=>?_
          ·refine nx 2 Z (oA h1 Z Z λ Mj h1=>?_);refine bd h1 λ La e55 h1=>oK (iq H1 (Ie+2) 128 191 _ e55) Z ⟨sr,sr,sr,sr,trivial⟩ Tryz.call130 Z (nx 2 Z ?_);refine fB [112,113,114] h1 Z (λ c56 h1=>?_) λ c56 h1=>?_
           ·refine nx 2 Z (oA h1 Z Z λ M3 h1=>?_);refine bd h1 λ JJ NT h1=>oK (iq H1 (Ie+3) 128 191 _ NT) Z ⟨sr,sr,sr,sr,trivial⟩ Tryz.call130 Z (nx 2 Z ?_);exact eX _ (oi h1).symm (gE Z Z)
           exact nx 6 Z (eX _ (oi h1).symm (gE Z Z))
          exact nx 12 Z (eX _ (oi h1).symm (gE Z Z))
         exact nx 20 Z (eX _ (oi h1).symm (gE Z Z))
        exact nx 24 Z (eX _ (oi h1).symm (gE Z Z))
       refine nx 5 Z (fD [93] h1 Z (λ O' h1=>?_) λ O' h1=>?_)
       ·exact nx 4 Z (eX _ (oi h1).symm (gE Z Z))
       exact nx 2 Z (eX _ (oi h1).symm (gE Z Z))
      refine nx 5 Z (fD [91] h1 Z (λ Pa h1=>?_) λ Pa h1=>?_)
      ·exact nx 4 Z (eX _ (oi h1).symm (gE Z Z))
      exact nx 2 Z (eX _ (oi h1).symm (gE Z Z))
     refine nx 4 Z (fD [52,53] h1 Z (λ J4 h1=>?_) λ J4 h1=>?_)
     ·refine nx 4 Z (fD [55,56,57] h1 Z (λ My h1=>?_) λ My h1=>?_)
      ·refine nx 2 Z (oA h1 Z Z λ KH h1=>?_);refine nx 2 Z (bd h1 λ JF NW h1=>?_);refine oK (iq H1 (Ie+1) o87 OC _ NW) Z ⟨sr,sr,sr,sr,trivial⟩ Tryz.call130 Z (nx 2 Z ?_);refine fB [63,64,65] h1 Z (λ Mw h1=>?_) λ Mw h1=>?_
       ·refine nx 2 Z (oA h1 Z Z λ M9 h1=>?_);refine bd h1 λ MF e31 h1=>oK (iq H1 (Ie+2) 128 191 _ e31) Z ⟨sr,sr,sr,sr,trivial⟩ Tryz.call130 Z (nx 2 Z ?_);exact eX _ (oi h1).symm (gE Z Z)
       exact nx 6 Z (eX _ (oi h1).symm (gE Z Z))
      exact nx 14 Z (eX _ (oi h1).symm (gE Z Z))
     exact nx 18 Z (eX _ (oi h1).symm (gE Z Z))
    refine nx 5 Z (fD [50] h1 Z (λ c21 h1=>?_) λ c21 h1=>?_)
    ·exact nx 4 Z (eX _ (oi h1).symm (gE Z Z))
    exact nx 2 Z (eX _ (oi h1).symm (gE Z Z))
   refine nx 5 Z (fD [48] h1 Z (λ Lm h1=>?_) λ Lm h1=>?_)
   ·exact nx 4 Z (eX _ (oi h1).symm (gE Z Z))
   exact nx 2 Z (eX _ (oi h1).symm (gE Z Z))
  refine nx 4 Z (fD [25,26] h1 Z (λ c7 h1=>?_) λ c7 h1=>?_)
  ·refine nx 4 Z (fD [28,29,30] h1 Z (λ c8 h1=>?_) λ c8 h1=>?_)
   ·refine nx 2 Z (oA h1 Z Z λ Lq h1=>?_);refine bd h1 λ Iu JM h1=>oK (iq H1 (Ie+1) 128 191 _ JM) Z ⟨sr,sr,sr,sr,trivial⟩ Tryz.call130 Z (nx 2 Z ?_);exact eX _ (oi h1).symm (gE Z Z)
   exact nx 6 Z (eX _ (oi h1).symm (gE Z Z))
  exact nx 10 Z (eX _ (oi h1).symm (gE Z Z))
 refine nx 4 Z (fD [10,11] h1 Z (λ c1 h1=>?_) λ c1 h1=>?_)
 ·exact nx 6 Z (eX _ (oi h1).symm (gE Z Z))
 refine nx 2 Z (oLs Z ?_);exact nx 3 Z (eX _ (oi h1).symm (gE Z Z))
def fQ (H1:Bytes):Nat->Int->Option (Unit⊕Bool)
 | 0,_=>none
 | m+1,i8 =>
 if i8 < (H1.length:Int) then
  (jY H1 i8).bind λ Iu =>
  if Iu.2=0 then
   some (.inr false)
  else
   ck (inR (i8+Iu.2)) <|
   fQ H1 m (i8+Iu.2)
 else
  some (.inl ())
def lk (n:Nat)(H1:Bytes):Option Bool :=
 if 4096 < (H1.length:Int) then
  some false
 else
  jn (fQ H1 n 0) λ _Ks =>
  some true
theorem ui (n:Nat)(H1:Bytes)(r:Bool)(h0:lk n H1=some r):aB Tryz.prog 112 [eS H1] (·=.p (eB r)):=by
 unfold lk at h0;refine bm good Tryz.func112 Z Z Z λ w0=>mP (λ v:Bool=>.p (eB v)) ?_;refine nx 8 Z (oLs Z ?_);refine nx 2 Z (fD [8] h0 Z (λ c1 h0=>?_) λ c1 h0=>?_)
 ·exact nx 6 Z (mQ (oi h0) Z (sr))
 refine nx 8 rfl ?_;obtain ⟨N9,h1,IS,hR0⟩:=db h0;refine kEx 0 (λ Kt:Unit=>N9=.inl Kt) (λ Kt=>⟨[],[]⟩) (λ Kt hv=>?_) ?_
 ·have h0:=IS _ hv;exact nx 6 Z (mQ (oi h0) Z (sr))
 refine lG (λ (q18:Int)=>⟨[(0,.p (eS H1)),(3,.p (eI q18))],[]⟩) (λ m (q18:Int)=>fQ H1 m q18) Y 0 h1 (gE rfl rfl) ?_;rintro m i8 h1;replace h1:fQ H1 (m+1) i8=some N9:=h1;rw [fQ] at h1;refine nx 5 rfl (oLs rfl ?_);refine nx 2 rfl (fD [12] h1 rfl (λ c9 h1=>?_) λ c9 h1=>?_)
 ·refine nx 7 Z (bd h1 λ Iu JM h1=>?_);refine oK (sH H1 i8 _ JM) Z ⟨sr,sr,trivial⟩ Tryz.call121 Z (nx 12 Z ?_);refine fD [20] h1 Z (λ KP h1=>?_) λ KP h1=>?_
  ·exact nx 6 Z (mQ (hR0 _ (oi h1).symm) Z (sr))
  refine nx 5 Z (oA h1 Z Z λ K3 h1=>?_);exact nx 2 Z (eX (i8+Iu.2) h1 (gE Z Z))
 exact nx 2 Z (eXi _ (oi h1).symm (gE Z Z))
def j8 (Ic:ah):Option Bool :=
 (
   if Ic.Ar=2 then
    some true
   else
    if Ic.Ar=1 then
     if Ic.F'=0 then
      some true
     else
      if Ic.F'=1 then
       some true
      else
       some (decide (Ic.F'=0))
    else
     some (decide (Ic.F'=0))
  : Option Bool).bind λ num5 =>
 (
   if Ic.Ar=3 then
    some true
   else
    some (decide (Ic.HT=([]:Bytes)))
  : Option Bool).bind λ str7 =>
 (
   if Ic.Ar=4 then
    some true
   else
    if Ic.Ar=5 then
     some true
    else
     some (decide ((Ic.HQ.length:Int)=0))
  : Option Bool).bind λ items10 =>
 (
   if Ic.Ar=5 then
    if (Ic.D'.length:Int)=(Ic.HQ.length:Int) then
     some true
    else
     some false
   else
    some (decide ((Ic.D'.length:Int)=0))
  : Option Bool).bind λ keys13 =>
 (
   if 0<=Ic.Ar then
    if Ic.Ar<=6 then
     if num5=true then
      if str7=true then
       if items10=true then
        some keys13
       else
        some false
      else
       some false
     else
      some false
    else
     some false
   else
    some false
  : Option Bool).bind λ JA =>
 some JA
theorem sS (Ic:ah)(r:Bool)(h0:j8 Ic=some r):aB Tryz.prog 100 [.agg (ah.cs Ic)] (·=.p (eB r)):=by
 unfold j8 at h0;refine bm good Tryz.func100 Z Z Z λ w0=>mP (λ v:Bool=>.p (eB v)) ?_;refine nx 6 Z (bd h0 λ Lw h1 h0=>?_);refine kN Lw (λ Ls=>⟨[(1,.ptr 1 0),(3,.p (eB Ls))],[(1,(ah.cs Ic).map .p)]⟩) ?_ ?_
 ·refine nx 2 Z (bd h0 λ M0 h1 h0=>?_);refine kN M0 (λ Nu=>⟨[(1,.ptr 1 0),(3,.p (eB Lw)),(4,.p (eB Nu))],[(1,(ah.cs Ic).map .p)]⟩) ?_ ?_
  ·refine nx 2 Z (bd h0 λ KY h1 h0=>?_);refine kN KY (λ JW=>⟨[(1,.ptr 1 0),(3,.p (eB Lw)),(4,.p (eB M0)),(5,.p (eB JW))],[(1,(ah.cs Ic).map .p)]⟩) ?_ ?_
   ·refine nx 2 Z (bd h0 λ OH h1 h0=>?_);refine kN OH (λ Om=>⟨[(1,.ptr 1 0),(3,.p (eB Lw)),(4,.p (eB M0)),(5,.p (eB KY)),(6,.p (eB Om))],[(1,(ah.cs Ic).map .p)]⟩) ?_ ?_
    ·refine nx 2 Z (bd h0 λ o33 h1 h0=>?_);refine kN o33 (λ v34=>⟨[(2,.p (eB v34))],[]⟩) ?_ ?_
     ·exact nx 2 Z (mQ (oi h0) Z (sr))
     refine nx 5 Z (fD [77,78] h1 Z (λ KO h1=>?_) λ KO h1=>?_)
     ·refine nx 5 Z (fD [81,82,83] h1 Z (λ KN h1=>?_) λ KN h1=>?_)
      ·refine nx 3 Z (fB [3,84,85,86] h1 Z (λ MA h1=>?_) λ MA h1=>?_)
       ·refine nx 3 Z (fB [4,87,88,89] h1 Z (λ IA h1=>?_) λ IA h1=>?_)
        ·refine nx 3 Z (fB [5,90,91,92] h1 Z (λ J' h1=>?_) λ J' h1=>?_)
         ·exact nx 4 Z (eX _ (oi h1).symm (gE Z Z))
         exact nx 4 Z (eX _ (oi h1).symm (gE Z Z))
        exact nx 7 Z (eX _ (oi h1).symm (gE Z Z))
       exact nx 10 Z (eX _ (oi h1).symm (gE Z Z))
      exact nx 13 Z (eX _ (oi h1).symm (gE Z Z))
     exact nx 18 Z (eX _ (oi h1).symm (gE Z Z))
    refine nx 5 Z (fD [54,55] h1 Z (λ Ka h1=>?_) λ Ka h1=>?_)
    ·refine nx 2 Z (oLl (f:=eS) Z Z ?_);refine nx 2 Z (oLl (f:=dv) Z Z ?_);refine nx 3 Z (fD [62,63,64] h1 Z (λ KP h1=>?_) λ KP h1=>?_)
     ·exact nx 12 Z (eX _ (oi h1).symm (gE Z Z))
     refine nx 4 Z (lT [68] (Cv Ka) Z ?_);exact nx 8 Z (eX _ (oi h1).symm (gE Z Z))
    refine nx 13 Z (lT [68] (Fa Ka) Z ?_);refine nx 2 Z (oLl (f:=eS) Z Z ?_);exact nx 5 Z (eX _ (oi h1).symm (gE Z Z))
   refine nx 5 Z (fD [40,41] h1 Z (λ c8 h1=>?_) λ c8 h1=>?_)
   ·exact nx 12 Z (eX _ (oi h1).symm (gE Z Z))
   refine nx 5 Z (fD [44,45,46] h1 Z (λ c9 h1=>?_) λ c9 h1=>?_)
   ·exact nx 7 Z (eX _ (oi h1).symm (gE Z Z))
   refine nx 2 Z (oLl (f:=dv) Z Z ?_);exact nx 4 Z (eX _ (oi h1).symm (gE Z Z))
  refine nx 5 Z (fD [32,33] h1 Z (λ c6 h1=>?_) λ c6 h1=>?_)
  ·exact nx 6 Z (eX _ (oi h1).symm (gE Z Z))
  refine nx 2 Z (oS Z Z ?_);exact nx 3 Z (eX _ (oi h1).symm (gE Z Z))
 refine nx 5 Z (fD [9,10] h1 Z (λ c1 h1=>?_) λ c1 h1=>?_)
 ·exact nx 21 Z (eX _ (oi h1).symm (gE Z Z))
 refine nx 4 Z (fD [13,14] h1 Z (λ c2 h1=>?_) λ c2 h1=>?_)
 ·refine nx 4 Z (fD [17,18] h1 Z (λ c3 h1=>?_) λ c3 h1=>?_)
  ·exact nx 13 Z (eX _ (oi h1).symm (gE Z Z))
  refine nx 7 Z (fD [21,22,23,24,25] h1 Z (λ c4 h1=>?_) λ c4 h1=>?_)
  ·exact nx 6 Z (eX _ (oi h1).symm (gE Z Z))
  exact nx 6 Z (eX _ (oi h1).symm (gE Z Z))
 exact nx 17 Z (eX _ (oi h1).symm (gE Z Z))
def jG (n:Nat)(H1:Bytes):Option Int :=
 if 4096 < (H1.length:Int) then
  some 3
 else
  (lk n H1).bind λ r2 =>
  if (!r2)=true then
   some 1
  else
   some 0
theorem qk (n:Nat)(H1:Bytes)(r:Int)(h0:jG n H1=some r):aB Tryz.prog 102 [eS H1] (·=.p (eI r)):=by
 unfold jG at h0;refine bm good Tryz.func102 Z Z Z λ w0=>mP (λ v:Int=>.p (eI v)) ?_;refine nx 8 Z (oLs Z ?_);refine nx 2 Z (fD [5] h0 Z (λ c1 h0=>?_) λ c1 h0=>?_)
 ·exact nx 6 Z (mQ (oi h0) Z (sr))
 refine nx 6 Z (bd h0 λ r2 e3 h0=>?_);refine oK (ui _ H1 _ e3) Z ⟨sr,trivial⟩ Tryz.call112 Z (nx 2 Z ?_);refine fB [8] h0 Z (λ c4 h0=>?_) λ c4 h0=>?_
 ·exact nx 6 Z (mQ (oi h0) Z (sr))
 exact nx 7 Z (mQ (oi h0) Z (sr))
def fA (n:Nat)(Ic:ah):Nat->Int->Option (Unit⊕Int)
 | 0,_=>none
 | m+1,i25 =>
 if i25 < (Ic.D'.length:Int) then
  ck ((0:Int)<=i25/\i25 < (Ic.D'.length:Int)) <|
  (jG n (lat Ic.D' i25)).bind λ Jc =>
  if Jc=0 then
   (
     if 0 < i25 then
      ck (inR (i25 - 1)) <|
      ck ((0:Int)<=i25 - 1/\i25 - 1 < (Ic.D'.length:Int)) <|
      ck ((0:Int)<=i25/\i25 < (Ic.D'.length:Int)) <|
      some (!Op.bytesLess (lat Ic.D' (i25 - 1)) (lat Ic.D' i25))
     else
      some false
    : Option Bool).bind λ t35 =>
   if t35=true then
    some (.inr 1)
   else
    ck (inR (i25+1)) <|
    fA n Ic m (i25+1)
  else
   some (.inr Jc)
 else
  some (.inl ())
def mT (n:Nat)(Ic:ah):Option Int :=
 (j8 Ic).bind λ r1 =>
 if (!r1)=true then
  some 1
 else
  (
    if Ic.Ar=2 then
     (nt Ic.F').bind λ r5 =>
     some (!r5)
    else
     some false
   : Option Bool).bind λ t7 =>
  if t7=true then
   some 5
  else
   (jG n Ic.HT).bind λ r9 =>
   if r9=0 then
    jn (fA n Ic n 0) λ _MX =>
    some 0
   else
    some r9
theorem uY (n:Nat)(Ic:ah)(r:Int)(h0:mT n Ic=some r):aB Tryz.prog 86 [.agg (ah.cs Ic)] (·=.p (eI r)):=by
 unfold mT at h0;refine bm good Tryz.func86 Z Z Z λ w0=>mP (λ v:Int=>.p (eI v)) ?_;refine nx 9 Z (bd h0 λ r1 e2 h0=>?_);refine oK (sS Ic _ e2) Z ⟨sr,trivial⟩ Tryz.call100 Z (nx 2 Z ?_);refine fB [8] h0 Z (λ c3 h0=>?_) λ c3 h0=>?_
 ·exact nx 6 Z (mQ (oi h0) Z (sr))
 refine nx 4 Z (bd h0 λ Lj h1 h0=>?_);refine kN Lj (λ KR=>⟨[(1,.ptr 1 0),(17,.p (eB KR))],[(1,(ah.cs Ic).map .p)]⟩) ?_ ?_
 ·refine nx 1 Z (fB [17] h0 Z (λ c8 h0=>?_) λ c8 h0=>?_)
  ·exact nx 6 Z (mQ (oi h0) Z (sr))
  refine nx 7 Z (bd h0 λ r9 J0 h0=>?_);refine oK (qk _ Ic.HT _ J0) Z ⟨sr,trivial⟩ Tryz.call102 Z (nx 7 Z ?_);refine fN [22] h0 Z (λ Ka h0=>?_) λ Ka h0=>?_
  ·refine nx 8 rfl ?_;obtain ⟨o44,h1,IS,hR0⟩:=db h0;refine kEx 0 (λ Of:Unit=>o44=.inl Of) (λ Of=>⟨[],[]⟩) (λ Of hv=>?_) ?_
   ·have h0:=IS _ hv;exact nx 6 Z (mQ (oi h0) Z (sr))
   refine lG (λ (MH:Int)=>⟨[(1,.ptr 1 0),(4,.p (eI MH))],[(1,(ah.cs Ic).map .p)]⟩) (λ m (MH:Int)=>fA n Ic m MH) Y 0 h1 (gE rfl rfl) ?_;rintro m i25 h1;replace h1:fA n Ic (m+1) i25=some o44:=h1;rw [fA] at h1;refine nx 6 rfl (oLl (f:=eS) rfl rfl ?_);refine nx 2 rfl (fD [28] h1 rfl (λ Mx h1=>?_) λ Mx h1=>?_)
   ·refine nx 10 Z (oE h1 Y Z Z Y λ Lk h1=>?_);refine nx 1 Z (bd h1 λ Jc O5 h1=>?_);refine oK (qk _ (lat Ic.D' i25) _ O5) Z ⟨sr,trivial⟩ Tryz.call102 Z (nx 7 Z ?_);refine fN [38] h1 Z (λ LJ h1=>?_) λ LJ h1=>?_
    ·refine nx 3 Z (bd h1 λ N7 h2 h1=>?_);refine kN N7 (λ Oe=>⟨[(1,.ptr 1 0),(4,.p (eI i25)),(55,.p (eB Oe))],[(1,(ah.cs Ic).map .p)]⟩) ?_ ?_
     ·refine nx 1 Z (fB [55] h1 Z (λ Mt h1=>?_) λ Mt h1=>?_)
      ·exact nx 6 Z (mQ (hR0 _ (oi h1).symm) Z (sr))
      refine nx 4 Z (oA h1 Z Z λ KZ h1=>?_);exact nx 2 Z (eX (i25+1) h1 (gE Z Z))
     refine fD (p:=0 < i25) [] h2 Z (λ Jk h2=>?_) λ Jk h2=>?_
     ·refine cc' h2 λ OV h2=>cc' h2 λ NM h2=>cc' h2 λ Ly h2=>mD [(1,.ptr 1 0),(4,.p (eI i25))] Z ⟨Z,Z,trivial⟩ Z (dR 1 Z ?_);refine dL (dt Jk) Z (dR 4 Z ?_);refine dq (.p (eI (i25 - 1))) [42,45] Z (λ _ e _ q=>f0 (dV Z Z Z (e _ _ Z) Z Z OV q) Z Z (e _ _ Z) (rfl)) Z (dq (.rptr [eS (lat Ic.D' (i25 - 1))]) [42,44,46] Z (λ _ e _ q=>f0 (rY (f:=eS) (l:=Ic.D') (λ x=>[eS x]) Z Z Z Z Z Z (e _ _ Z) Z (e _ _ Z) NM Y Y q) Z Z (e _ _ Z) (rfl)) Z ?_);refine dR 4 Z (dq (.rptr [eS (lat Ic.D' i25)]) [42,50,51] Z (λ _ e _ q=>f0 (rY (f:=eS) (l:=Ic.D') (λ x=>[eS x]) Z Z Z Z Z Z (e _ _ Z) Z (e _ _ Z) Ly Y Y q) Z Z (e _ _ Z) (rfl)) Z ?_);refine dR 1 Z (dq (.p (eB (!Op.bytesLess (lat Ic.D' (i25 - 1)) (lat Ic.D' i25)))) [42,48,53] Z (λ _ e _ q=>f0 (ti Z Z Z (e _ _ Z) (e _ _ Z) Z q) Z Z (e _ _ Z) (rfl)) Z ?_);refine dR 1 Z (dE Z ?_);exact nx 1 Z (eX _ (oi h2).symm (gE Z Z))
     refine mD [(1,.ptr 1 0),(4,.p (eI i25))] Z ⟨Z,Z,trivial⟩ Z (dR 1 Z ?_);refine dL (df Jk) Z (dR 14 Z ?_);refine dE Z (nx 1 Z ?_);exact eX _ (oi h2).symm (gE Z Z)
    exact nx 7 Z (mQ (hR0 _ (oi h1).symm) Z (sr))
   exact nx 2 Z (eXi _ (oi h1).symm (gE Z Z))
  exact nx 7 Z (mQ (oi h0) Z (sr))
 refine nx 5 Z (fD [11,12] h1 Z (λ c4 h1=>?_) λ c4 h1=>?_)
 ·refine nx 2 Z (bd h1 λ r5 e6 h1=>?_);refine oK (uf Ic.F' _ e6) Z ⟨sr,trivial⟩ Tryz.call101 Z (nx 3 Z ?_);exact eX _ (oi h1).symm (gE Z Z)
 exact nx 6 Z (eX _ (oi h1).symm (gE Z Z))
def fP (JD:ah->Int->Int->Option (Int×Int))(Ic:ah)(H5:Int):Nat->Int->Int->Option (Int⊕(Int×Int))
 | 0,_,_=>none
 | m+1,n16,i17 =>
 if i17 < (Ic.HQ.length:Int) then
  ck ((0:Int)<=i17/\i17 < (Ic.HQ.length:Int)) <|
  ck (inR (H5+1)) <|
  (JD (lat Ic.HQ i17) (H5+1) n16).bind λ Iq =>
  if Iq.1=0 then
   ck (inR (i17+1)) <|
   fP JD Ic H5 m Iq.2 (i17+1)
  else
   some (.inr (Iq.1,Iq.2))
 else
  some (.inl n16)
def hH:Nat->ah->Int->Int->Option (Int×Int)
 | 0,_,_,_=>none
 | n+1,Ic,H5,Ii =>
 if 32 < H5 then
  some (4,Ii)
 else
  if 4096<=Ii then
   some (14,Ii)
  else
   (mT n Ic).bind λ r3 =>
   if r3=0 then
    ck (inR (Ii+1)) <|
    jn (fP (hH n) Ic H5 n (Ii+1) 0) λ n27 =>
    some (0,n27)
   else
    some (r3,Ii)
theorem tU (n:Nat):∀ (Ic:ah) (H5:Int) (Ii:Int) (r:Int×Int),hH n Ic H5 Ii=some r->aB Tryz.prog 70 [.agg (ah.cs Ic),eI H5,eI Ii] (·=.tuple [.p (eI r.1),.p (eI r.2)]):=by
 induction n with
 | zero=>intro Ic H5 Ii r h0; cases h0
 | succ n ih =>
 have JR:=ih;intro Ic H5 Ii r h0;rw [hH] at h0;refine bm good Tryz.func70 Z Z Z λ w0=>mP (λ v:Int×Int=>.tuple [.p (eI v.1),.p (eI v.2)]) ?_;refine nx 12 Z (fD [14] h0 Z (λ c1 h0=>?_) λ c1 h0=>?_)
 ·exact nx 8 Z (mQ (oi h0) Z (ax ⟨sr,sr,trivial⟩))
 refine nx 8 Z (fD [17] h0 Z (λ c2 h0=>?_) λ c2 h0=>?_)
 ·exact nx 8 Z (mQ (oi h0) Z (ax ⟨sr,sr,trivial⟩))
 refine nx 6 Z (bd h0 λ r3 e4 h0=>?_);refine oK (uY _ Ic _ e4) Z ⟨sr,trivial⟩ Tryz.call86 Z (nx 7 Z ?_);refine fN [22] h0 Z (λ c5 h0=>?_) λ c5 h0=>?_
 ·refine nx 5 rfl (oA h0 Z Z λ hk6 h0=>?_);refine nx 8 rfl ?_;obtain ⟨KY,h1,IS,hR0⟩:=db h0;refine kEx 0 (λ JW:Int=>KY=.inl JW) (λ JW=>⟨[(9,.p (eI JW))],[]⟩) (λ JW hv=>?_) ?_
  ·have h0:=IS _ hv;exact nx 8 Z (mQ (oi h0) Z (ax ⟨sr,sr,trivial⟩))
  refine lG (λ (JX:Int×Int)=>⟨[(1,.p (eI H5)),(3,.ptr 3 0),(9,.p (eI JX.1)),(10,.p (eI JX.2))],[(3,(ah.cs Ic).map .p)]⟩) (λ m (JX:Int×Int)=>fP (hH n) Ic H5 m JX.1 JX.2) Y (Ii+1,0) h1 (gE rfl rfl) ?_;rintro m ⟨n16,i17⟩ h1;replace h1:fP (hH n) Ic H5 (m+1) n16 i17=some KY:=h1;rw [fP] at h1;refine nx 6 rfl (oLl (f:=dv) rfl rfl ?_);refine nx 2 rfl (fD [31] h1 rfl (λ J' h1=>?_) λ J' h1=>?_)
  ·refine nx 9 Z (oE h1 ah.HU Z Z Y λ J7 h1=>?_);refine nx 2 Z (oA h1 Z Z λ Kn h1=>?_);refine nx 1 Z (bd h1 λ Iq LI h1=>?_);refine oK (JR (lat Ic.HQ i17) (H5+1) n16 _ LI) Z ⟨sr,sr,sr,trivial⟩ Tryz.call70 Z (nx 12 Z ?_);refine fN [47] h1 Z (λ J4 h1=>?_) λ J4 h1=>?_
   ·refine nx 8 Z (oA h1 Z Z λ Kz h1=>?_);exact nx 2 Z (eX (Iq.2,i17+1) h1 (gE Z Z))
   refine nx 8 Z (mG (gE (t:=⟨[(6,.p (eI Iq.1)),(7,.p (eI Iq.2))],[]⟩) Z Z) ?_);exact nx 1 Z (mQ (hR0 _ (oi h1).symm) Z (ax ⟨sr,sr,trivial⟩))
  exact nx 2 Z (eXi _ (oi h1).symm (gE Z Z))
 exact nx 9 Z (mQ (oi h0) Z (ax ⟨sr,sr,trivial⟩))
def lz (n:Nat)(Ic:ah):Option Int :=
 (hH n Ic 1 0).bind λ r1 =>
 some r1.1
theorem tT (n:Nat)(Ic:ah)(r:Int)(h0:lz n Ic=some r):aB Tryz.prog 49 [.agg (ah.cs Ic)] (·=.p (eI r)):=by
 unfold lz at h0;refine bm good Tryz.func49 Z Z Z λ w0=>mP (λ v:Int=>.p (eI v)) ?_;refine nx 8 Z (bd h0 λ r1 e2 h0=>?_);refine oK (tU _ Ic 1 0 _ e2) Z ⟨sr,sr,sr,trivial⟩ Tryz.call70 Z (nx 12 Z ?_);exact mQ (oi h0) Z (sr)
def sQ (H1:Bytes):Nat->Int->Option Int
 | 0,_=>none
 | m+1,at11 =>
 (
   if at11 < (H1.length:Int) then
    ck ((0:Int)<=at11/\at11 < (H1.length:Int)) <|
    if byt H1 at11=32 then
     some true
    else
     ck ((0:Int)<=at11/\at11 < (H1.length:Int)) <|
     if byt H1 at11=9 then
      some true
     else
      ck ((0:Int)<=at11/\at11 < (H1.length:Int)) <|
      some (decide (byt H1 at11=13))
   else
    some false
  : Option Bool).bind λ t18 =>
 if t18=true then
  ck (inR (at11+1)) <|
  sQ H1 m (at11+1)
 else
  some at11
def ji (J3:Int):Option Bool :=
 (
   if 97<=J3 then
    if J3<=122 then
     some true
    else
     if 65<=J3 then
      if J3<=90 then
       some true
      else
       some (decide (J3=95))
     else
      some (decide (J3=95))
   else
    if 65<=J3 then
     if J3<=90 then
      some true
     else
      some (decide (J3=95))
    else
     some (decide (J3=95))
  : Option Bool).bind λ t7 =>
 some t7
theorem oU (J3:Int)(r:Bool)(h0:ji J3=some r):aB Tryz.prog 71 [eK .u8 J3] (·=.p (eB r)):=by
 unfold ji at h0;refine bm good Tryz.func71 Z Z Z λ w0=>mP (λ v:Bool=>.p (eB v)) ?_;refine nx 5 Z (bd h0 λ o9 h1 h0=>?_);refine kN o9 (λ Oo=>⟨[(2,.p (eB Oo))],[]⟩) ?_ ?_
 ·exact nx 2 Z (mQ (oi h0) Z (sr))
 refine nx 4 Z (fD [4,5] h1 Z (λ c1 h1=>?_) λ c1 h1=>?_)
 ·refine nx 4 Z (fD [7,8,9] h1 Z (λ c2 h1=>?_) λ c2 h1=>?_)
  ·exact nx 13 Z (eX _ (oi h1).symm (gE Z Z))
  refine nx 3 Z (fD [11,12] h1 Z (λ c3 h1=>?_) λ c3 h1=>?_)
  ·refine nx 5 Z (fD [14,15,16,17] h1 Z (λ c4 h1=>?_) λ c4 h1=>?_)
   ·exact nx 5 Z (eX _ (oi h1).symm (gE Z Z))
   exact nx 5 Z (eX _ (oi h1).symm (gE Z Z))
  exact nx 10 Z (eX _ (oi h1).symm (gE Z Z))
 refine nx 7 Z (fD [11,12] h1 Z (λ c5 h1=>?_) λ c5 h1=>?_)
 ·refine nx 5 Z (fD [14,15,16,17] h1 Z (λ c6 h1=>?_) λ c6 h1=>?_)
  ·exact nx 5 Z (eX _ (oi h1).symm (gE Z Z))
  exact nx 5 Z (eX _ (oi h1).symm (gE Z Z))
 exact nx 10 Z (eX _ (oi h1).symm (gE Z Z))
def dh (H1:Bytes):Nat->Int->Option (Unit⊕Bool)
 | 0,_=>none
 | m+1,i20 =>
 if i20 < (H1.length:Int) then
  (
    ck ((0:Int)<=i20/\i20 < (H1.length:Int)) <|
    (ji (byt H1 i20)).bind λ IOz =>
    if (!IOz)=true then
     ck ((0:Int)<=i20/\i20 < (H1.length:Int)) <|
     if byt H1 i20 < 48 then
      some true
     else
      ck ((0:Int)<=i20/\i20 < (H1.length:Int)) <|
      some (decide (57 < byt H1 i20))
    else
     some false
   : Option Bool).bind λ t29 =>
  if t29=true then
   some (.inr false)
  else
   ck (inR (i20+1)) <|
   dh H1 m (i20+1)
 else
  some (.inl ())
def fM (n:Nat)(H1:Bytes):Option Bool :=
 (
   if H1=([]:Bytes) then
    some true
   else
    if 64 < (H1.length:Int) then
     some true
    else
     ck ((0:Int)<=0/\0 < (H1.length:Int)) <|
     (ji (byt H1 0)).bind λ r4 =>
     some (!r4)
  : Option Bool).bind λ t6 =>
 if t6=true then
  some false
 else
  jn (dh H1 n 0) λ _q34 =>
  some true
theorem lP (n:Nat)(H1:Bytes)(r:Bool)(h0:fM n H1=some r):aB Tryz.prog 51 [eS H1] (·=.p (eB r)):=by
 unfold fM at h0;refine bm good Tryz.func51 Z Z Z λ w0=>mP (λ v:Bool=>.p (eB v)) ?_;refine nx 6 Z (bd h0 λ N8 h1 h0=>?_);refine kN N8 (λ v37=>⟨[(0,.p (eS H1)),(16,.p (eB v37))],[]⟩) ?_ ?_
 ·refine nx 1 Z (fB [16] h0 Z (λ c7 h0=>?_) λ c7 h0=>?_)
  ·exact nx 6 Z (mQ (oi h0) Z (sr))
  refine nx 8 rfl ?_;obtain ⟨Ns,h1,IS,hR0⟩:=db h0;refine kEx 0 (λ MO:Unit=>Ns=.inl MO) (λ MO=>⟨[],[]⟩) (λ MO hv=>?_) ?_
  ·have h0:=IS _ hv;exact nx 6 Z (mQ (oi h0) Z (sr))
  refine lG (λ (MX:Int)=>⟨[(0,.p (eS H1)),(3,.p (eI MX))],[]⟩) (λ m (MX:Int)=>dh H1 m MX) Y 0 h1 (gE rfl rfl) ?_;rintro m i20 h1;replace h1:dh H1 (m+1) i20=some Ns:=h1;rw [dh] at h1;refine nx 5 rfl (oLs rfl ?_);refine nx 2 rfl (fD [20] h1 rfl (λ c21 h1=>?_) λ c21 h1=>?_)
  ·refine nx 5 Z (bd h1 λ OG h2 h1=>?_);refine kN OG (λ Oh=>⟨[(0,.p (eS H1)),(3,.p (eI i20)),(39,.p (eB Oh))],[]⟩) ?_ ?_
   ·refine nx 1 Z (fB [39] h1 Z (λ LJ h1=>?_) λ LJ h1=>?_)
    ·exact nx 6 Z (mQ (hR0 _ (oi h1).symm) Z (sr))
    refine nx 4 Z (oA h1 Z Z λ M8 h1=>?_);exact nx 2 Z (eX (i20+1) h1 (gE Z Z))
   refine nx 3 Z (oI h2 Z λ Kl h2=>?_);refine bd h2 λ IOz Mq h2=>oK (oU (byt H1 i20) _ Mq) Z ⟨sr,trivial⟩ Tryz.call71 Z (nx 2 Z ?_);refine fB [27,28] h2 Z (λ KM h2=>?_) λ KM h2=>?_
   ·refine nx 2 Z (oI h2 Z λ Ky h2=>?_);refine nx 2 Z (fD [32,33] h2 Z (λ K8 h2=>?_) λ K8 h2=>?_)
    ·exact nx 7 Z (eX _ (oi h2).symm (gE Z Z))
    refine nx 2 Z (oI h2 Z λ M' h2=>?_);exact nx 4 Z (eX _ (oi h2).symm (gE Z Z))
   exact nx 12 Z (eX _ (oi h2).symm (gE Z Z))
  exact nx 2 Z (eXi _ (oi h1).symm (gE Z Z))
 refine nx 2 Z (oS Z Z ?_);refine nx 1 Z (fD [5,6] h1 Z (λ c1 h1=>?_) λ c1 h1=>?_)
 ·exact nx 11 Z (eX _ (oi h1).symm (gE Z Z))
 refine nx 1 Z (oLs Z ?_);refine nx 3 Z (fD [9,10,11] h1 Z (λ c2 h1=>?_) λ c2 h1=>?_)
 ·exact nx 6 Z (eX _ (oi h1).symm (gE Z Z))
 refine nx 1 Z (oI h1 Z λ Lz h1=>?_);refine bd h1 λ r4 e5 h1=>oK (oU (byt H1 0) _ e5) Z ⟨sr,trivial⟩ Tryz.call71 Z (nx 3 Z ?_);exact eX _ (oi h1).symm (gE Z Z)
def aZ (II:Int):Option Bool :=
 (
   if II=12 then
    some true
   else
    some (decide (II=13))
  : Option Bool).bind λ t2 =>
 some t2
theorem qn (II:Int)(r:Bool)(h0:aZ II=some r):aB Tryz.prog 68 [eI II] (·=.p (eB r)):=by
 unfold aZ at h0;refine bm good Tryz.func68 Z Z Z λ w0=>mP (λ v:Bool=>.p (eB v)) ?_;refine nx 5 Z (bd h0 λ o4 h1 h0=>?_);refine kN o4 (λ v5=>⟨[(2,.p (eB v5))],[]⟩) ?_ ?_
 ·exact nx 2 Z (mQ (oi h0) Z (sr))
 refine nx 4 Z (fD [4,5] h1 Z (λ c1 h1=>?_) λ c1 h1=>?_)
 ·exact nx 5 Z (eX _ (oi h1).symm (gE Z Z))
 exact nx 5 Z (eX _ (oi h1).symm (gE Z Z))
def aO (II:Int):Option Bool :=
 (
   if II=3 then
    some true
   else
    if II=4 then
     some true
    else
     if II=9 then
      some true
     else
      (aZ II).bind λ r4 =>
      some r4
  : Option Bool).bind λ t6 =>
 some t6
theorem mN (II:Int)(r:Bool)(h0:aO II=some r):aB Tryz.prog 50 [eI II] (·=.p (eB r)):=by
 unfold aO at h0;refine bm good Tryz.func50 Z Z Z λ w0=>mP (λ v:Bool=>.p (eB v)) ?_;refine nx 5 Z (bd h0 λ o8 h1 h0=>?_);refine kN o8 (λ v9=>⟨[(2,.p (eB v9))],[]⟩) ?_ ?_
 ·exact nx 2 Z (mQ (oi h0) Z (sr))
 refine nx 4 Z (fD [4,5] h1 Z (λ c1 h1=>?_) λ c1 h1=>?_)
 ·exact nx 13 Z (eX _ (oi h1).symm (gE Z Z))
 refine nx 4 Z (fD [7,8,9] h1 Z (λ c2 h1=>?_) λ c2 h1=>?_)
 ·exact nx 9 Z (eX _ (oi h1).symm (gE Z Z))
 refine nx 4 Z (fD [11,12,13] h1 Z (λ c3 h1=>?_) λ c3 h1=>?_)
 ·exact nx 5 Z (eX _ (oi h1).symm (gE Z Z))
 refine nx 1 Z (bd h1 λ r4 e5 h1=>?_);refine oK (qn II _ e5) Z ⟨sr,trivial⟩ Tryz.call68 Z (nx 3 Z ?_);exact eX _ (oi h1).symm (gE Z Z)
def ff (II:Int)(n_1:Int):Option Bool :=
 (
   if II=1 then
    some true
   else
    some (decide (II=3))
  : Option Bool).bind λ t2 =>
 if t2=true then
  some (decide (n_1=0))
 else
  if II=2 then
   some (decide (1<=n_1))
  else
   (
     if II=4 then
      some true
     else
      some (decide (II=6))
    : Option Bool).bind λ t6 =>
   if t6=true then
    some (decide (n_1=1))
   else
    (
      if II=5 then
       some true
      else
       some (decide (II=7))
     : Option Bool).bind λ t9 =>
    if t9=true then
     some (decide (n_1=2))
    else
     if II=8 then
      some (decide (n_1=3))
     else
      (
        if II=9 then
         some true
        else
         some (decide (II=10))
       : Option Bool).bind λ t13 =>
      if t13=true then
       some true
      else
       if II=11 then
        ck ((2:Int)≠0) <|
        some (decide (n_1.tmod 2=0))
       else
        if II=12 then
         (
           if n_1=2 then
            some true
           else
            some (decide (n_1=3))
          : Option Bool).bind λ JA =>
         some JA
        else
         if II=13 then
          (
            if n_1=3 then
             some true
            else
             some (decide (n_1=4))
           : Option Bool).bind λ t22 =>
          some t22
         else
          some false
theorem u9 (II:Int)(n_1:Int)(r:Bool)(h0:ff II n_1=some r):aB Tryz.prog 67 [eI II,eI n_1] (·=.p (eB r)):=by
 unfold ff at h0;refine bm good Tryz.func67 Z Z Z λ w0=>mP (λ v:Bool=>.p (eB v)) ?_;refine nx 11 Z (bd h0 λ KY h1 h0=>?_);refine kN KY (λ JW=>⟨[(1,.p (eI n_1)),(5,.p (eI II)),(6,.p (eB JW))],[]⟩) ?_ ?_
 ·refine nx 1 Z (fB [6] h0 Z (λ c3 h0=>?_) λ c3 h0=>?_)
  ·exact nx 8 Z (mQ (oi h0) Z (sr))
  refine nx 6 Z (fD [11,12] h0 Z (λ c4 h0=>?_) λ c4 h0=>?_)
  ·exact nx 8 Z (mQ (oi h0) Z (sr))
  refine nx 2 Z (bd h0 λ OH h1 h0=>?_);refine kN OH (λ Om=>⟨[(1,.p (eI n_1)),(5,.p (eI II)),(15,.p (eB Om))],[]⟩) ?_ ?_
  ·refine nx 1 Z (fB [15] h0 Z (λ c7 h0=>?_) λ c7 h0=>?_)
   ·exact nx 8 Z (mQ (oi h0) Z (sr))
   refine nx 2 Z (bd h0 λ o33 h1 h0=>?_);refine kN o33 (λ v34=>⟨[(1,.p (eI n_1)),(5,.p (eI II)),(20,.p (eB v34))],[]⟩) ?_ ?_
   ·refine nx 1 Z (fB [20] h0 Z (λ Kq h0=>?_) λ Kq h0=>?_)
    ·exact nx 8 Z (mQ (oi h0) Z (sr))
    refine nx 6 Z (fD [25,26] h0 Z (λ Ka h0=>?_) λ Ka h0=>?_)
    ·exact nx 8 Z (mQ (oi h0) Z (sr))
    refine nx 2 Z (bd h0 λ LO h1 h0=>?_);refine kN LO (λ MP=>⟨[(1,.p (eI n_1)),(5,.p (eI II)),(29,.p (eB MP))],[]⟩) ?_ ?_
    ·refine nx 1 Z (fB [29] h0 Z (λ KO h0=>?_) λ KO h0=>?_)
     ·exact nx 6 Z (mQ (oi h0) Z (sr))
     refine nx 6 Z (fD [32,33] h0 Z (λ KN h0=>?_) λ KN h0=>?_)
     ·refine nx 4 Z (cc' h0 λ K0 h0=>?_);refine mO Z (Do Z Z Z Z Z Z K0 ?_);exact nx 4 Z (mQ (oi h0) Z (sr))
     refine nx 6 Z (fD [37,38] h0 Z (λ IA h0=>?_) λ IA h0=>?_)
     ·refine nx 2 Z (bd h0 λ o37 h1 h0=>?_);refine kN o37 (λ v38=>⟨[(4,.p (eB v38))],[]⟩) ?_ ?_
      ·exact nx 2 Z (mQ (oi h0) Z (sr))
      refine nx 4 Z (fD [40,41] h1 Z (λ J' h1=>?_) λ J' h1=>?_)
      ·exact nx 5 Z (eX _ (oi h1).symm (gE Z Z))
      exact nx 5 Z (eX _ (oi h1).symm (gE Z Z))
     refine nx 6 Z (fD [45,46] h0 Z (λ c20 h0=>?_) λ c20 h0=>?_)
     ·refine nx 2 Z (bd h0 λ o39 h1 h0=>?_);refine kN o39 (λ Oj=>⟨[(4,.p (eB Oj))],[]⟩) ?_ ?_
      ·exact nx 2 Z (mQ (oi h0) Z (sr))
      refine nx 4 Z (fD [48,49] h1 Z (λ c21 h1=>?_) λ c21 h1=>?_)
      ·exact nx 5 Z (eX _ (oi h1).symm (gE Z Z))
      exact nx 5 Z (eX _ (oi h1).symm (gE Z Z))
     exact nx 7 Z (mQ (oi h0) Z (sr))
    refine nx 5 Z (fD [29,30] h1 Z (λ KP h1=>?_) λ KP h1=>?_)
    ·exact nx 2 Z (eX _ (oi h1).symm (gE Z Z))
    exact nx 5 Z (eX _ (oi h1).symm (gE Z Z))
   refine nx 5 Z (fD [20,21] h1 Z (λ c8 h1=>?_) λ c8 h1=>?_)
   ·exact nx 2 Z (eX _ (oi h1).symm (gE Z Z))
   exact nx 5 Z (eX _ (oi h1).symm (gE Z Z))
  refine nx 5 Z (fD [15,16] h1 Z (λ c5 h1=>?_) λ c5 h1=>?_)
  ·exact nx 2 Z (eX _ (oi h1).symm (gE Z Z))
  exact nx 5 Z (eX _ (oi h1).symm (gE Z Z))
 refine nx 5 Z (fD [6,7] h1 Z (λ c1 h1=>?_) λ c1 h1=>?_)
 ·exact nx 2 Z (eX _ (oi h1).symm (gE Z Z))
 exact nx 5 Z (eX _ (oi h1).symm (gE Z Z))
def fU (Ic:ah):Option Bool :=
 (
   if Ic.Ar=0 then
    if Ic.F'=0 then
     if Ic.HT=([]:Bytes) then
      if (Ic.HQ.length:Int)=0 then
       some (decide ((Ic.D'.length:Int)=0))
      else
       some false
     else
      some false
    else
     some false
   else
    some false
  : Option Bool).bind λ t5 =>
 some t5
theorem uX (Ic:ah)(r:Bool)(h0:fU Ic=some r):aB Tryz.prog 69 [.agg (ah.cs Ic)] (·=.p (eB r)):=by
 unfold fU at h0;refine bm good Tryz.func69 Z Z Z λ w0=>mP (λ v:Bool=>.p (eB v)) ?_;refine nx 6 Z (bd h0 λ o7 h1 h0=>?_);refine kN o7 (λ v8=>⟨[(2,.p (eB v8))],[]⟩) ?_ ?_
 ·exact nx 2 Z (mQ (oi h0) Z (sr))
 refine nx 5 Z (fD [5,6] h1 Z (λ c1 h1=>?_) λ c1 h1=>?_)
 ·refine nx 5 Z (fD [9,10,11] h1 Z (λ c2 h1=>?_) λ c2 h1=>?_)
  ·refine nx 2 Z (oS Z Z ?_);refine nx 2 Z (fD [14,15,16] h1 Z (λ c3 h1=>?_) λ c3 h1=>?_)
   ·refine nx 2 Z (oLl (f:=dv) Z Z ?_);refine nx 3 Z (fD [20,21,22] h1 Z (λ c4 h1=>?_) λ c4 h1=>?_)
    ·refine nx 2 Z (oLl (f:=eS) Z Z ?_);exact nx 4 Z (eX _ (oi h1).symm (gE Z Z))
    exact nx 7 Z (eX _ (oi h1).symm (gE Z Z))
   exact nx 13 Z (eX _ (oi h1).symm (gE Z Z))
  exact nx 18 Z (eX _ (oi h1).symm (gE Z Z))
 exact nx 23 Z (eX _ (oi h1).symm (gE Z Z))
def eY (H9:ab):Option Bool :=
 (
   (ff H9.Ar (H9.By.length:Int)).bind λ r1 =>
   if (!r1)=true then
    some true
   else
    (aZ H9.Ar).bind λ r4 =>
    if (!r4)=true then
     if H9.E'=([]:Bytes) then
      (aO H9.Ar).bind λ r8 =>
      if (!r8)=true then
       some (!decide (H9.AI=([]:Bytes)))
      else
       some false
     else
      some true
    else
     (aO H9.Ar).bind λ Jh =>
     if (!Jh)=true then
      some (!decide (H9.AI=([]:Bytes)))
     else
      some false
  : Option Bool).bind λ Or =>
 if Or=true then
  some false
 else
  if H9.Ar=1 then
   (
     if H9.fOp=0 then
      if H9.A'.Ar=0 then
       some true
      else
       if H9.A'.Ar=1 then
        some true
       else
        if H9.A'.Ar=3 then
         some true
        else
         if H9.A'.Ar=2 then
          some (decide (0<=H9.A'.F'))
         else
          some false
     else
      some false
    : Option Bool).bind λ t22 =>
   some t22
  else
   (fU H9.A').bind λ IOz =>
   if (!IOz)=true then
    some false
   else
    if H9.Ar=6 then
     (
       if H9.fOp=1 then
        some true
       else
        some (decide (H9.fOp=2))
      : Option Bool).bind λ Oq =>
     some Oq
    else
     if H9.Ar=7 then
      (
        if 3<=H9.fOp then
         some (decide (H9.fOp<=15))
        else
         some false
       : Option Bool).bind λ t31 =>
      some t31
     else
      some (decide (H9.fOp=0))
theorem sN (H9:ab)(r:Bool)(h0:eY H9=some r):aB Tryz.prog 48 [.agg (ab.cs H9)] (·=.p (eB r)):=by
 unfold eY at h0;refine bm good Tryz.func48 Z Z Z λ w0=>mP (λ v:Bool=>.p (eB v)) ?_;refine nx 7 Z (bd h0 λ N8 h1 h0=>?_);refine kN N8 (λ v37=>⟨[(1,.ptr 1 0),(32,.p (eB v37))],[(1,(ab.cs H9).map .p)]⟩) ?_ ?_
 ·refine nx 1 Z (fB [32] h0 Z (λ KN h0=>?_) λ KN h0=>?_)
  ·exact nx 6 Z (mQ (oi h0) Z (sr))
  refine nx 9 Z (fD [35] h0 Z (λ MA h0=>?_) λ MA h0=>?_)
  ·refine nx 9 Z (bd h0 λ Ns h1 h0=>?_);refine kN Ns (λ MO=>⟨[(2,.p (eB MO))],[]⟩) ?_ ?_
   ·exact nx 2 Z (mQ (oi h0) Z (sr))
   refine nx 5 Z (fD [41,42] h1 Z (λ IA h1=>?_) λ IA h1=>?_)
   ·refine nx 3 Z (fD [44,45] h1 Z (λ J' h1=>?_) λ J' h1=>?_)
    ·exact nx 20 Z (eX _ (oi h1).symm (gE Z Z))
    refine nx 4 Z (fD [47,48,49] h1 Z (λ Lm h1=>?_) λ Lm h1=>?_)
    ·exact nx 16 Z (eX _ (oi h1).symm (gE Z Z))
    refine nx 4 Z (fD [51,52,53] h1 Z (λ c20 h1=>?_) λ c20 h1=>?_)
    ·exact nx 12 Z (eX _ (oi h1).symm (gE Z Z))
    refine nx 3 Z (fD [55,56] h1 Z (λ c21 h1=>?_) λ c21 h1=>?_)
    ·exact nx 9 Z (eX _ (oi h1).symm (gE Z Z))
    exact nx 9 Z (eX _ (oi h1).symm (gE Z Z))
   exact nx 23 Z (eX _ (oi h1).symm (gE Z Z))
  refine nx 7 Z (bd h0 λ IOz Mq h0=>?_);refine oK (uX H9.A' _ Mq) Z ⟨sr,trivial⟩ Tryz.call69 Z (nx 2 Z ?_);refine fB [67] h0 Z (λ KM h0=>?_) λ KM h0=>?_
  ·exact nx 6 Z (mQ (oi h0) Z (sr))
  refine nx 14 Z (fD [70,71] h0 Z (λ Mx h0=>?_) λ Mx h0=>?_)
  ·refine nx 2 Z (bd h0 λ o40 h1 h0=>?_);refine kN o40 (λ Oi=>⟨[(2,.p (eB Oi))],[]⟩) ?_ ?_
   ·exact nx 2 Z (mQ (oi h0) Z (sr))
   refine nx 5 Z (fD [74,75] h1 Z (λ K8 h1=>?_) λ K8 h1=>?_)
   ·exact nx 6 Z (eX _ (oi h1).symm (gE Z Z))
   exact nx 6 Z (eX _ (oi h1).symm (gE Z Z))
  refine nx 6 Z (fD [80,81] h0 Z (λ Mv h0=>?_) λ Mv h0=>?_)
  ·refine nx 2 Z (bd h0 λ Lj h1 h0=>?_);refine kN Lj (λ KR=>⟨[(2,.p (eB KR))],[]⟩) ?_ ?_
   ·exact nx 2 Z (mQ (oi h0) Z (sr))
   refine nx 5 Z (fD [84,85] h1 Z (λ LJ h1=>?_) λ LJ h1=>?_)
   ·exact nx 6 Z (eX _ (oi h1).symm (gE Z Z))
   exact nx 6 Z (eX _ (oi h1).symm (gE Z Z))
  exact nx 10 Z (mQ (oi h0) Z (sr))
 refine nx 5 Z (oLl (f:=ai) Z Z ?_);refine bd h1 λ r1 e2 h1=>oK (u9 H9.Ar (H9.By.length:Int) _ e2) Z ⟨sr,sr,trivial⟩ Tryz.call67 Z (nx 2 Z ?_);refine fB [10,11] h1 Z (λ c3 h1=>?_) λ c3 h1=>?_
 ·exact nx 22 Z (eX _ (oi h1).symm (gE Z Z))
 refine nx 2 Z (bd h1 λ r4 e5 h1=>?_);refine oK (qn H9.Ar _ e5) Z ⟨sr,trivial⟩ Tryz.call68 Z (nx 2 Z ?_);refine fB [15,16] h1 Z (λ c6 h1=>?_) λ c6 h1=>?_
 ·refine nx 2 Z (oS Z Z ?_);refine nx 3 Z (fN [19,20,21,22] h1 Z (λ c7 h1=>?_) λ c7 h1=>?_)
  ·refine nx 2 Z (bd h1 λ r8 e9 h1=>?_);refine oK (mN H9.Ar _ e9) Z ⟨sr,trivial⟩ Tryz.call50 Z (nx 2 Z ?_);refine fB [26,27] h1 Z (λ Kq h1=>?_) λ Kq h1=>?_
   ·refine nx 2 Z (oS Z Z ?_);exact nx 3 Z (eX _ (oi h1).symm (gE Z Z))
   exact nx 6 Z (eX _ (oi h1).symm (gE Z Z))
  exact nx 11 Z (eX _ (oi h1).symm (gE Z Z))
 refine nx 8 Z (bd h1 λ Jh JZ h1=>?_);refine oK (mN H9.Ar _ JZ) Z ⟨sr,trivial⟩ Tryz.call50 Z (nx 2 Z ?_);refine fB [26,27] h1 Z (λ JN h1=>?_) λ JN h1=>?_
 ·refine nx 2 Z (oS Z Z ?_);exact nx 3 Z (eX _ (oi h1).symm (gE Z Z))
 exact nx 6 Z (eX _ (oi h1).symm (gE Z Z))
def gS (H1:Bytes):Option Bool :=
 (
   if H1=([110,117,108,108]:Bytes) then
    some true
   else
    if H1=([116,114,117,101]:Bytes) then
     some true
    else
     if H1=([102,97,108,115,101]:Bytes) then
      some true
     else
      if H1=([102,111,114]:Bytes) then
       some true
      else
       if H1=([105,110]:Bytes) then
        some true
       else
        some (decide (H1=([105,102]:Bytes)))
  : Option Bool).bind λ t6 =>
 some t6
theorem nj (H1:Bytes)(r:Bool)(h0:gS H1=some r):aB Tryz.prog 52 [eS H1] (·=.p (eB r)):=by
 unfold gS at h0;refine bm good Tryz.func52 Z Z Z λ w0=>mP (λ v:Bool=>.p (eB v)) ?_;refine nx 5 Z (bd h0 λ o8 h1 h0=>?_);refine kN o8 (λ v9=>⟨[(2,.p (eB v9))],[]⟩) ?_ ?_
 ·exact nx 2 Z (mQ (oi h0) Z (sr))
 refine nx 2 Z (oS Z Z ?_);refine nx 1 Z (fD [4,5] h1 Z (λ c1 h1=>?_) λ c1 h1=>?_)
 ·exact nx 21 Z (eX _ (oi h1).symm (gE Z Z))
 refine nx 1 Z (oS Z Z ?_);refine nx 2 Z (fD [7,8,9] h1 Z (λ c2 h1=>?_) λ c2 h1=>?_)
 ·exact nx 17 Z (eX _ (oi h1).symm (gE Z Z))
 refine nx 1 Z (oS Z Z ?_);refine nx 2 Z (fD [11,12,13] h1 Z (λ c3 h1=>?_) λ c3 h1=>?_)
 ·exact nx 13 Z (eX _ (oi h1).symm (gE Z Z))
 refine nx 1 Z (oS Z Z ?_);refine nx 2 Z (fD [15,16,17] h1 Z (λ c4 h1=>?_) λ c4 h1=>?_)
 ·exact nx 9 Z (eX _ (oi h1).symm (gE Z Z))
 refine nx 1 Z (oS Z Z ?_);refine nx 2 Z (fD [19,20,21] h1 Z (λ c5 h1=>?_) λ c5 h1=>?_)
 ·exact nx 5 Z (eX _ (oi h1).symm (gE Z Z))
 refine nx 1 Z (oS Z Z ?_);exact nx 3 Z (eX _ (oi h1).symm (gE Z Z))
def oq (n:Nat)(H1:Bytes):Option Bool :=
 (
   (fM n H1).bind λ r1 =>
   if r1=true then
    (gS H1).bind λ r4 =>
    some (!r4)
   else
    some false
  : Option Bool).bind λ t6 =>
 some t6
theorem vc (n:Nat)(H1:Bytes)(r:Bool)(h0:oq n H1=some r):aB Tryz.prog 53 [eS H1] (·=.p (eB r)):=by
 unfold oq at h0;refine bm good Tryz.func53 Z Z Z λ w0=>mP (λ v:Bool=>.p (eB v)) ?_;refine nx 5 Z (bd h0 λ o8 h1 h0=>?_);refine kN o8 (λ v9=>⟨[(2,.p (eB v9))],[]⟩) ?_ ?_
 ·exact nx 2 Z (mQ (oi h0) Z (sr))
 refine nx 2 Z (bd h1 λ r1 e2 h1=>?_);refine oK (lP _ H1 _ e2) Z ⟨sr,trivial⟩ Tryz.call51 Z (nx 1 Z ?_);refine fB [4,5] h1 Z (λ c3 h1=>?_) λ c3 h1=>?_
 ·refine nx 1 Z (bd h1 λ r4 e5 h1=>?_);refine oK (nj H1 _ e5) Z ⟨sr,trivial⟩ Tryz.call52 Z (nx 4 Z ?_);exact eX _ (oi h1).symm (gE Z Z)
 exact nx 6 Z (eX _ (oi h1).symm (gE Z Z))
def mC (n:Nat)(H9:ab):Option Int :=
 (eY H9).bind λ r1 =>
 if (!r1)=true then
  some 1
 else
  if H9.Ar=1 then
   (lz n H9.A').bind λ r5 =>
   some r5
  else
   (
     (aO H9.Ar).bind λ r7 =>
     if r7=true then
      (fM n H9.AI).bind λ Iu =>
      if (!Iu)=true then
       some true
      else
       if H9.Ar=4 then
        some false
       else
        (gS H9.AI).bind λ Lb =>
        some Lb
     else
      some false
    : Option Bool).bind λ I5 =>
   if I5=true then
    some 7
   else
    (
      if H9.E'=([]:Bytes) then
       some false
      else
       (oq n H9.E').bind λ Lf =>
       some (!Lf)
     : Option Bool).bind λ t21 =>
    if t21=true then
     some 7
    else
     some 0
theorem u0 (n:Nat)(H9:ab)(r:Int)(h0:mC n H9=some r):aB Tryz.prog 34 [.agg (ab.cs H9)] (·=.p (eI r)):=by
 unfold mC at h0;refine bm good Tryz.func34 Z Z Z λ w0=>mP (λ v:Int=>.p (eI v)) ?_;refine nx 9 Z (bd h0 λ r1 e2 h0=>?_);refine oK (sN H9 _ e2) Z ⟨sr,trivial⟩ Tryz.call48 Z (nx 2 Z ?_);refine fB [5] h0 Z (λ c3 h0=>?_) λ c3 h0=>?_
 ·exact nx 6 Z (mQ (oi h0) Z (sr))
 refine nx 9 Z (fD [8] h0 Z (λ c4 h0=>?_) λ c4 h0=>?_)
 ·refine nx 5 Z (bd h0 λ r5 e6 h0=>?_);refine oK (tT _ H9.A' _ e6) Z ⟨sr,trivial⟩ Tryz.call49 Z (nx 3 Z ?_);exact mQ (oi h0) Z (sr)
 refine nx 4 Z (bd h0 λ Lw h1 h0=>?_);refine kN Lw (λ Ls=>⟨[(1,.ptr 1 0),(30,.p (eB Ls))],[(1,(ab.cs H9).map .p)]⟩) ?_ ?_
 ·refine nx 1 Z (fB [30] h0 Z (λ IA h0=>?_) λ IA h0=>?_)
  ·exact nx 6 Z (mQ (oi h0) Z (sr))
  refine nx 4 Z (bd h0 λ M0 h1 h0=>?_);refine kN M0 (λ Nu=>⟨[(39,.p (eB Nu))],[]⟩) ?_ ?_
  ·refine nx 1 Z (fB [39] h0 Z (λ Mz h0=>?_) λ Mz h0=>?_)
   ·exact nx 6 Z (mQ (oi h0) Z (sr))
   exact nx 7 Z (mQ (oi h0) Z (sr))
  refine nx 3 Z (oS Z Z ?_);refine nx 1 Z (fN [33,34] h1 Z (λ J' h1=>?_) λ J' h1=>?_)
  ·exact nx 6 Z (eX _ (oi h1).symm (gE Z Z))
  refine nx 2 Z (bd h1 λ Lf Nf h1=>?_);refine oK (vc _ H9.E' _ Nf) Z ⟨sr,trivial⟩ Tryz.call53 Z (nx 3 Z ?_);exact eX _ (oi h1).symm (gE Z Z)
 refine nx 3 Z (bd h1 λ r7 e8 h1=>?_);refine oK (mN H9.Ar _ e8) Z ⟨sr,trivial⟩ Tryz.call50 Z (nx 1 Z ?_);refine fB [14,15] h1 Z (λ c9 h1=>?_) λ c9 h1=>?_
 ·refine nx 2 Z (bd h1 λ Iu JM h1=>?_);refine oK (lP _ H9.AI _ JM) Z ⟨sr,trivial⟩ Tryz.call51 Z (nx 2 Z ?_);refine fB [19,20] h1 Z (λ KP h1=>?_) λ KP h1=>?_
  ·exact nx 11 Z (eX _ (oi h1).symm (gE Z Z))
  refine nx 4 Z (fN [23,24] h1 Z (λ JN h1=>?_) λ JN h1=>?_)
  ·exact nx 7 Z (eX _ (oi h1).symm (gE Z Z))
  refine nx 2 Z (bd h1 λ Lb Ms h1=>?_);refine oK (nj H9.AI _ Ms) Z ⟨sr,trivial⟩ Tryz.call52 Z (nx 4 Z ?_);exact eX _ (oi h1).symm (gE Z Z)
 exact nx 16 Z (eX _ (oi h1).symm (gE Z Z))
def cT (JB:ab->Int->Int->Option (Int×Int))(H9:ab)(H5:Int):Nat->Int->Int->Int->Option (Int×Int)
 | 0,_,_,_=>none
 | m+1,k17,n18,i19 =>
 (
   if i19 < (H9.By.length:Int) then
    some (decide (k17=0))
   else
    some false
  : Option Bool).bind λ t21 =>
 if t21=true then
  ck ((0:Int)<=i19/\i19 < (H9.By.length:Int)) <|
  ck (inR (H5+1)) <|
  (JB (lat H9.By i19) (H5+1) n18).bind λ Jm =>
  ck (inR (i19+1)) <|
  cT JB H9 H5 m Jm.1 Jm.2 (i19+1)
 else
  some (k17,n18)
def d9:Nat->ab->Int->Int->Option (Int×Int)
 | 0,_,_,_=>none
 | n+1,H9,H5,Ii =>
 if 32 < H5 then
  some (4,0)
 else
  if 4096<=Ii then
   some (14,0)
  else
   (mC n H9).bind λ r3 =>
   ck (inR (Ii+1)) <|
   (cT (d9 n) H9 H5 n r3 (Ii+1) 0).bind λ q33 =>
   some (q33.1,q33.2)
theorem tu (n:Nat):∀ (H9:ab) (H5:Int) (Ii:Int) (r:Int×Int),d9 n H9 H5 Ii=some r->aB Tryz.prog 22 [.agg (ab.cs H9),eI H5,eI Ii] (·=.tuple [.p (eI r.1),.p (eI r.2)]):=by
 induction n with
 | zero=>intro H9 H5 Ii r h0; cases h0
 | succ n ih =>
 have JQ:=ih;intro H9 H5 Ii r h0;rw [d9] at h0;refine bm good Tryz.func22 Z Z Z λ w0=>mP (λ v:Int×Int=>.tuple [.p (eI v.1),.p (eI v.2)]) ?_;refine nx 12 Z (fD [12] h0 Z (λ c1 h0=>?_) λ c1 h0=>?_)
 ·exact nx 7 Z (mQ (oi h0) Z (ax ⟨sr,sr,trivial⟩))
 refine nx 8 Z (fD [14] h0 Z (λ c2 h0=>?_) λ c2 h0=>?_)
 ·exact nx 7 Z (mQ (oi h0) Z (ax ⟨sr,sr,trivial⟩))
 refine nx 5 Z (bd h0 λ r3 e4 h0=>?_);refine oK (u0 _ H9 _ e4) Z ⟨sr,trivial⟩ Tryz.call34 Z (nx 5 Z ?_);refine oA h0 Z Z λ Mk h0=>nx 8 Z (bd h0 λ LO h1 h0=>?_);refine kE 0 LO (λ MP=>⟨[(8,.p (eI MP.1)),(9,.p (eI MP.2))],[]⟩) ?_ ?_
 ·exact nx 9 Z (mQ (oi h0) Z (ax ⟨sr,sr,trivial⟩))
 refine lG (λ (MY:Int×Int×Int)=>⟨[(1,.p (eI H5)),(3,.ptr 3 0),(8,.p (eI MY.1)),(9,.p (eI MY.2.1)),(10,.p (eI MY.2.2))],[(3,(ab.cs H9).map .p)]⟩) (λ m (MY:Int×Int×Int)=>cT (d9 n) H9 H5 m MY.1 MY.2.1 MY.2.2) Y (r3,Ii+1,0) h1 (gE rfl rfl) ?_;rintro m ⟨k17,n18,i19⟩ h1;replace h1:cT (d9 n) H9 H5 (m+1) k17 n18 i19=some LO:=h1;rw [cT] at h1;refine nx 2 rfl (bd h1 λ Ns h2 h1=>?_);refine kN Ns (λ MO=>⟨[(1,.p (eI H5)),(3,.ptr 3 0),(8,.p (eI k17)),(9,.p (eI n18)),(10,.p (eI i19)),(27,.p (eB MO))],[(3,(ab.cs H9).map .p)]⟩) ?_ ?_
 ·refine nx 1 Z (fB [27] h1 Z (λ Mz h1=>?_) λ Mz h1=>?_)
  ·refine nx 8 Z (oE h1 ab.HU Z Z Y λ LA h1=>?_);refine nx 2 Z (oA h1 Z Z λ Kz h1=>?_);refine nx 1 Z (bd h1 λ Jm Mp h1=>?_);refine oK (JQ (lat H9.By i19) (H5+1) n18 _ Mp) Z ⟨sr,sr,sr,trivial⟩ Tryz.call22 Z (nx 8 Z ?_);exact oA h1 Z Z λ Lk h1=>nx 2 Z (eX (Jm.1,Jm.2,i19+1) h1 (gE Z Z))
  exact nx 2 Z (eXi _ (oi h1).symm (gE Z Z))
 refine nx 4 Z (oLl (f:=ai) Z Z ?_);refine nx 2 Z (fD [23,24] h2 Z (λ c20 h2=>?_) λ c20 h2=>?_)
 ·exact nx 4 Z (eX _ (oi h2).symm (gE Z Z))
 exact nx 4 Z (eX _ (oi h2).symm (gE Z Z))
def lw (n:Nat)(H9:ab):Option Int :=
 (d9 n H9 1 0).bind λ r1 =>
 some r1.1
theorem tG (n:Nat)(H9:ab)(r:Int)(h0:lw n H9=some r):aB Tryz.prog 11 [.agg (ab.cs H9)] (·=.p (eI r)):=by
 unfold lw at h0;refine bm good Tryz.func11 Z Z Z λ w0=>mP (λ v:Int=>.p (eI v)) ?_;refine nx 8 Z (bd h0 λ r1 e2 h0=>?_);refine oK (tu _ H9 1 0 _ e2) Z ⟨sr,sr,sr,trivial⟩ Tryz.call22 Z (nx 12 Z ?_);exact mQ (oi h0) Z (sr)
def tF (JC:ab->Option Int)(H9:ab):Nat->Int->Int->Option Int
 | 0,_,_=>none
 | m+1,n9,i10 =>
 if i10 < (H9.By.length:Int) then
  ck ((0:Int)<=i10/\i10 < (H9.By.length:Int)) <|
  (JC (lat H9.By i10)).bind λ KE =>
  ck (inR (n9+KE)) <|
  ck (inR (i10+1)) <|
  tF JC H9 m (n9+KE) (i10+1)
 else
  some n9
def ei (JO:ab->Int->Int->Option Int)(H9:ab)(levels_2:Int):Nat->Int->Int->Option Int
 | 0,_,_=>none
 | m+1,nodes13,i14 =>
 (
   if i14 < (H9.By.length:Int) then
    some (decide (0<=nodes13))
   else
    some false
  : Option Bool).bind λ I5 =>
 if I5=true then
  ck ((0:Int)<=i14/\i14 < (H9.By.length:Int)) <|
  ck (inR (levels_2 - 1)) <|
  (JO (lat H9.By i14) nodes13 (levels_2 - 1)).bind λ Jq =>
  ck (inR (i14+1)) <|
  ei JO H9 levels_2 m Jq (i14+1)
 else
  some nodes13
def fY:Nat->ab->Int->Int->Option Int
 | 0,_,_,_=>none
 | n+1,H9,nodes_1,levels_2 =>
 if levels_2<=0 then
  some (-1)
 else
  ck (inR (nodes_1 - 1)) <|
  (ei (fY n) H9 levels_2 n (nodes_1 - 1) 0).bind λ nodes25 =>
  some nodes25
theorem u4 (n:Nat):∀ (H9:ab) (nodes_1:Int) (levels_2:Int) (r:Int),fY n H9 nodes_1 levels_2=some r->aB Tryz.prog 21 [.agg (ab.cs H9),eI nodes_1,eI levels_2] (·=.p (eI r)):=by
 induction n with
 | zero=>intro H9 nodes_1 levels_2 r h0; cases h0
 | succ n ih =>
 have JY:=ih;intro H9 nodes_1 levels_2 r h0;rw [fY] at h0;refine bm good Tryz.func21 Z Z Z λ w0=>mP (λ v:Int=>.p (eI v)) ?_;refine nx 11 Z (fD [9] h0 Z (λ c1 h0=>?_) λ c1 h0=>?_)
 ·exact nx 6 Z (mQ (oi h0) Z (sr))
 refine nx 5 Z (oA h0 Z Z λ Ke h0=>?_);refine nx 8 Z (bd h0 λ o28 h1 h0=>?_);refine kE 0 o28 (λ v29=>⟨[(1,.p (eI v29))],[]⟩) ?_ ?_
 ·exact nx 7 Z (mQ (oi h0) Z (sr))
 refine lG (λ (OB:Int×Int)=>⟨[(1,.p (eI OB.1)),(2,.p (eI levels_2)),(3,.ptr 3 0),(7,.p (eI OB.2))],[(3,(ab.cs H9).map .p)]⟩) (λ m (OB:Int×Int)=>ei (fY n) H9 levels_2 m OB.1 OB.2) Y (nodes_1 - 1,0) h1 (gE rfl rfl) ?_;rintro m ⟨nodes13,i14⟩ h1;replace h1:ei (fY n) H9 levels_2 (m+1) nodes13 i14=some o28:=h1;rw [ei] at h1;refine nx 2 rfl (bd h1 λ OH h2 h1=>?_);refine kN OH (λ Om=>⟨[(1,.p (eI nodes13)),(2,.p (eI levels_2)),(3,.ptr 3 0),(7,.p (eI i14)),(20,.p (eB Om))],[(3,(ab.cs H9).map .p)]⟩) ?_ ?_
 ·refine nx 1 Z (fB [20] h1 Z (λ IA h1=>?_) λ IA h1=>?_)
  ·refine nx 8 Z (oE h1 ab.HU Z Z Y λ KI h1=>?_);refine nx 3 Z (oA h1 Z Z λ J7 h1=>?_);refine bd h1 λ Jq Ll h1=>oK (JY (lat H9.By i14) nodes13 (levels_2 - 1) _ Ll) Z ⟨sr,sr,sr,trivial⟩ Tryz.call21 Z (nx 4 Z ?_);exact oA h1 Z Z λ Kl h1=>nx 2 Z (eX (Jq,i14+1) h1 (gE Z Z))
  exact nx 2 Z (eXi _ (oi h1).symm (gE Z Z))
 refine nx 4 Z (oLl (f:=ai) Z Z ?_);refine nx 2 Z (fD [16,17] h2 Z (λ KN h2=>?_) λ KN h2=>?_)
 ·exact nx 4 Z (eX _ (oi h2).symm (gE Z Z))
 exact nx 4 Z (eX _ (oi h2).symm (gE Z Z))
def kY (n:Nat)(H9:ab)(nodes_1:Int):Option Bool :=
 (fY n H9 nodes_1 40).bind λ r1 =>
 some (decide (0<=r1))
theorem uF (n:Nat)(H9:ab)(nodes_1:Int)(r:Bool)(h0:kY n H9 nodes_1=some r):aB Tryz.prog 10 [.agg (ab.cs H9),eI nodes_1] (·=.p (eB r)):=by
 unfold kY at h0;refine bm good Tryz.func10 Z Z Z λ w0=>mP (λ v:Bool=>.p (eB v)) ?_;refine nx 9 Z (bd h0 λ r1 e2 h0=>?_);refine oK (u4 _ H9 nodes_1 40 _ e2) Z ⟨sr,sr,sr,trivial⟩ Tryz.call21 Z (nx 4 Z ?_);exact mQ (oi h0) Z (sr)
end Go.Ab.R06
end
