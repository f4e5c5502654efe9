/- Texts of the proof, one behind the other. No statement is proved here. -/
import Derived.WalkKit
import Derived.Lib.AppendZeros
import Derived.Laws.Externs
import Derived.Shelf.Spec.SlicesInsert
import Derived.Shelf.RegionOpenPlain
import Derived.Lib.MapLaws
import Derived.Lib.ValidLaws
import Derived.Lib.ParseIntB
import Derived.Test.YtapfhipodpbflaaGreatDoorZ46Na
import Derived.Test.YtapfhipodpbflaaGreatDoorZ46Nb
import Derived.Test.YtapfhipodpbflaaGreatDoorZ46Nc
set_option maxHeartbeats 4000000
section
namespace Go.Ab
open Go.Proofs Go.RowKit Go
theorem ly:Tryz.prog.follows .mixedOrders=true:=by kernel_rfl
theorem gP (c:Array Value)(o:Nat)(l:List Value)(h:o+l.length<=c.size)(j:Nat):((c.toList.take o++l++c.toList.drop (o+l.length)).toArray)[j]? = if o<=j/\j<o+l.length then l[j-o]? else c[j]?:=by
 have:=ia c.toList l o (by simpa using h) j;simpa using this
theorem dx (c:Array Value)(o:Nat)(l:List Value)(h:o+l.length<=c.size):(c.toList.take o++l++c.toList.drop (o+l.length)).toArray.size=c.size:=by
 simp; omega
theorem pG:(Tryz.prog.info? 104).map (λ i=>(i.zero,i.size,i.bytes))=some (some (.agg #[.int .i64 0,.slice none 0 0,.slice none 0 0]),3,56):=by kernel_rfl
set_option maxRecDepth 100000 in
theorem sM (w:World)(b n cap vb voff m vc:Nat)(c:Array Value)(e0:TypeId)(news:List Value)(hb:w.heap[b]? = some (.cells c e0 (0,0)))(Fc:c.size=cap*3)(hm0:0<m)(hroom:n+m<=cap)
  (hnl:news.length=m*3) (hn:∀ j v,news[j]? = some v->w.cell? ⟨vb,voff+j,none⟩=some v) (h1:∀ v∈news,v.oneCell'=true) (c':Array Value) (hc':c'=(c.toList.take (n*3)++news++c.toList.drop (n*3+news.length)).toArray) :
  Calls Tryz.prog 95 #[.slice (some ⟨b,0,none⟩) n cap,.int .i64 n,.slice (some ⟨vb,voff,none⟩) m vc] w λ ed w'=>
   ed=.returned (.slice (some ⟨b,0,none⟩) (n+m) cap)/\w'=w.setRow b c':=by
 have mixed:=ly;obtain ⟨i0,hi0,hz⟩:=n8.1 pG;have hzs:i0.size=3:=congrArg (λ x=>x.2.1) hz;have hz1:¬ ((m:Int)=0):=by omega
 have hsrc:Src Tryz.prog i0.size 102 (.slice (some ⟨vb,voff,none⟩) m vc) m news w:=by
  rw [hzs];exact Src.ofSlice w Tryz.underlying102 ⟨vb,voff,none⟩ m vc news O (λ j u hj=>by rw [Addr.add_lit]; exact hn j u hj) h1
 have hstc:=run_storeCells_at Tryz.prog b (n*3) e0 news 0 c w hb (by simp only [Nat.add_zero]; omega) h1;simp only [Nat.add_zero] at hstc;rw [<- hc'] at hstc
 have hrun:∀ ty,(Builtin.append_ #[102,102] ty #[.slice (some ⟨b,0,none⟩) n cap,.slice (some ⟨vb,voff,none⟩) m vc]).run Tryz.prog w=.ok (.slice (some ⟨b,0,none⟩) (n+m) cap) _:=λ ty=>
  gm _ _ ty _ i0 Tryz.underlying102 hi0 b n cap _ m news hsrc hroom (by rw [hzs]; first|exact hstc|(rw [Nat.mul_one]; exact hstc))
 clear hc' hstc hsrc hnl hn h1 hb Fc
 go_enter Tryz.func95,Tryz.ntmps95
 go_wp2_with (at_builtin; refine Lib.wpList_append_run _ Z _ _ _ _ Z _ _ Z Z _ _ (hrun _) ?_)
 go_ret
 exact ⟨Z,Z⟩
set_option maxRecDepth 100000 in
theorem xj (w:World)(b n cap i vb voff m vc:Nat)(c:Array Value)(e0:TypeId)(news mid:List Value)(cA:Array Value)(tA:TypeId)(fA:Nat×Nat)(hb:w.heap[b]? = some (.cells c e0 (0,0)))(Fc:c.size=cap*3)(hi:i<n)(hm0:0<m)(hroom:n+m<=cap)(hn63:n+m<=9223372036854775807)(hvb:vb≠b)
  (hnl:news.length=m*3) (hn:∀ j v,news[j]? = some v->w.cell? ⟨vb,voff+j,none⟩=some v) (h1:∀ v∈news,v.oneCell'=true) (hml:mid.length=(n-i)*3) (hm:∀ (j:Nat) (v:Value),mid[j]? = some v->c[i*3+j]? = some v) (hm1:∀ v∈mid,v.oneCell'=true)
  (hA:w.heap[vb]? = some (.cells cA tA fA)) (hA0:cA.size≠0)
  (c1 c2:Array Value) (hc1:c1=(c.toList.take ((i+m)*3)++mid++c.toList.drop ((i+m)*3+mid.length)).toArray) (hc2:c2=(c1.toList.take (i*3)++news++c1.toList.drop (i*3+news.length)).toArray) :
  Calls Tryz.prog 95 #[.slice (some ⟨b,0,none⟩) n cap,.int .i64 i,.slice (some ⟨vb,voff,none⟩) m vc] w λ ed w'=>
   ed=.returned (.slice (some ⟨b,0,none⟩) (n+m) cap)/\w'=w.drew.setRow b c2:=by
 have mixed:=ly;have hinf:(Tryz.prog.info? 104).map (·.size)=some 3:=by kernel_rfl
 have hz1:¬ ((m:Int)=0):=by omega
 have hz2:¬ ((i:Int)=(n:Int)):=by omega
 have hfit:(i+m)*3+mid.length<=c.size:=by omega
 have hs1:c1.size=c.size:=by rw [hc1]; exact dx c _ mid hfit
 have hov:∀ lb cb,(callFunc 124 #[.slice (some ⟨vb,voff,none⟩) m vc,.slice (some ⟨b,(i+m)*3,none⟩) lb cb]).run Tryz.prog w=.ok (.value (.bool false)) w:=λ lb cb=>by
  rw [run_callFunc_extern Tryz.func124 (by kernel_rfl) (by kernel_rfl) (by kernel_rfl) (e:=Extern.SlicesOverlaps.overlaps #[102,102] #[4]) (by kernel_rfl),
   lg w 102 4 104 Tryz.underlying102 3 (λ w=>by kernel_rfl) ⟨vb,voff,none⟩ ⟨b,(i+m)*3,none⟩ m vc lb cb hvb hA hb hA0]
  rfl
 have hcp1:∀ ty dc sc,(Builtin.copy_ #[102,102] ty #[.slice (some ⟨b,(i+m)*3,none⟩) (n+m-(i+m)) dc,.slice (some ⟨b,i*3,none⟩) (n+m-i) sc]).run Tryz.prog w.drew=.ok (goInt (Nat.min (n+m-i) (n+m-(i+m)))) (w.drew.setRow b c1):=λ ty dc sc=>by
  rw [hc1]
  exact fw w.drew _ _ ty _ b ((i+m)*3) (n+m-(i+m)) dc ⟨b,i*3,none⟩ (n+m-i) sc 3 c e0 mid Tryz.underlying102 hinf hb (by rw [hml]; simp only [Nat.min_def]; split <;> omega)
   (λ j v hj=>by rw [Addr.add_lit]; rw [World.cell?_drew]; simp only [World.cell?,hb]; exact hm j v hj) hfit hm1
 have hcp2:∀ (W:World),W.heap=(w.drew.setRow b c1).heap->∀ ty dc,(Builtin.copy_ #[102,102] ty #[.slice (some ⟨b,i*3,none⟩) (n+m-i) dc,.slice (some ⟨vb,voff,none⟩) m vc]).run Tryz.prog W=.ok (goInt (Nat.min m (n+m-i))) (W.setRow b c2):=λ W hW ty dc=>by
  have hWb:W.heap[b]? = some (.cells c1 e0 (0,0)):=by rw [hW]; exact setRow_heap w.drew b c c1 e0 (0,0) hb
  rw [hc2]
  exact fw W _ _ ty _ b (i*3) (n+m-i) dc ⟨vb,voff,none⟩ m vc 3 c1 e0 news Tryz.underlying102 hinf hWb (by rw [hnl]; simp only [Nat.min_def]; split <;> omega)
   (λ j v hj=>by
    rw [Addr.add_lit];have:=hn j v hj;simp only [World.cell?] at this ⊢;rw [hW,setRow_other w.drew b vb c1 hvb]
    exact this) O h1
 have hw1:IntKind.i64.wrap ((i:Int)+(m:Int))=(i:Int)+(m:Int):=by rw [IntKind.wrap_i64]; omega
 have hb1:(0:Int)<=(i:Int)+(m:Int):=by omega
 have hin:i<=n:=by omega
 have htn:((i:Int)+(m:Int)).toNat=i+m:=by omega
 have hb2:¬ (cap=i+m):=by omega
 have hb3:(i:Int)<=(n:Int)+(m:Int):=by omega
 have hb4:¬ (cap=i):=by omega
 clear Fc hfit hs1 hml hm hm1 hnl hn h1 hc1 hc2 hinf hA hA0 hb
 go_enter Tryz.func95,Tryz.ntmps95
 go_wp2_with (simp only [hov])
 go_region_law_o (refine step_copy_runI Z _ _ 102 102 Z _ _ (by simp [Act.eval,Act.put]) (by simp [Act.eval,Act.put]) (hcp1 _ _ _) ?_)
 go_wp2_with (at_builtin; refine wpList_copy_runI _ Z _ _ 102 102 Z _ _ Z Z (hcp2 _ Z _ _) ?_)
 go_ret
 exact ⟨Z,by rw [setRow_setRow]⟩
set_option maxRecDepth 100000 in
theorem sR (w:World)(base:Option Addr)(n cap vb voff m vc:Nat)(olds news:List Value)(hm0:0<m)(hnc:n<=cap)(hroom:cap<n+m)(hbig:(n+m)*56<=140737488355328)(hold:(Builtin.firstCells 3 n (.slice base n cap)).run Tryz.prog w.drew=.ok olds.toArray w.drew)
  (hnil:base=none->n=0) (hnl:news.length=m*3) (hn:∀ j v,news[j]? = some v->w.cell? ⟨vb,voff+j,none⟩=some v) (h1:∀ v∈news,v.oneCell'=true) :
  Calls Tryz.prog 95 #[.slice base n cap,.int .i64 n,.slice (some ⟨vb,voff,none⟩) m vc] w λ ed w'=>
   ed=.returned (.slice (some ⟨w.heap.size,0,none⟩) (n+m) (grownCap w (n+m) cap 104))/\w'=w.drew.alloc (.cells ((olds++news).toArray++Builtin.zeroCells (.agg #[.int .i64 0,.slice none 0 0,.slice none 0 0]:Value).cells (grownCap w (n+m) cap 104-(n+m))) 104):=by
 have mixed:=ly;obtain ⟨i0,hi0,hz⟩:=n8.1 pG;have hzz:i0.zero=some (.agg #[.int .i64 0,.slice none 0 0,.slice none 0 0]):=congrArg Prod.fst hz;have hzs:i0.size=3:=congrArg (λ x=>x.2.1) hz;have hzb:i0.bytes=56:=congrArg (λ x=>x.2.2) hz;have hz1:¬ ((m:Int)=0):=by omega
 have hsrc:Src Tryz.prog i0.size 102 (.slice (some ⟨vb,voff,none⟩) m vc) m news w:=by
  rw [hzs];exact Src.ofSlice w Tryz.underlying102 ⟨vb,voff,none⟩ m vc news O (λ j u hj=>by rw [Addr.add_lit]; exact hn j u hj) h1
 have hrun:∀ ty,(Builtin.append_ #[102,102] ty #[.slice base n cap,.slice (some ⟨vb,voff,none⟩) m vc]).run Tryz.prog w=_:=λ ty=>
  run_append_grow_src w 102 102 ty 104 i0 _ Tryz.underlying102 hi0 hzz base n cap olds (by rw [hzs]; exact hold) _ m news hsrc hroom O (by rw [hzb]; exact growslice_fits hroom hbig)
 clear hsrc hnl hn h1 hold hzz hzs hzb hz hi0 hbig
 go_enter Tryz.func95,Tryz.ntmps95
 cases base with
 | none=>
  have h0:=hnil rfl;subst h0
  go_wp2_with (at_builtin; refine Lib.wpList_append_run _ Z _ _ _ _ Z _ _ Z Z _ _ (hrun _) ?_)
  all_goals (go_ret; exact ⟨Z,Z⟩)
 | some a=>
  obtain ⟨ab,ao,asp⟩:=a
  go_wp2_with (at_builtin; refine Lib.wpList_append_run _ Z _ _ _ _ Z _ _ Z Z _ _ (hrun _) ?_)
  all_goals (go_ret; exact ⟨Z,Z⟩)
set_option maxRecDepth 100000 in
theorem zp (w:World)(b n cap i vb voff m vc:Nat)(c:Array Value)(e0:TypeId)(pre news mid:List Value)(hb:w.heap[b]? = some (.cells c e0 (0,0)))(hvw:vb<w.heap.size)(hi:i<n)(hm0:0<m)(hnc:n<=cap)(hroom:cap<n+m)(hbig:(n+m)*56<=140737488355328)
  (hnl:news.length=m*3) (hn:∀ j v,news[j]? = some v->w.cell? ⟨vb,voff+j,none⟩=some v) (h1:∀ v∈news,v.oneCell'=true) (hpl:pre.length=i*3) (hp:∀ (j:Nat) (v:Value),pre[j]? = some v->c[j]? = some v)
  (hml:mid.length=(n-i)*3) (hm:∀ (j:Nat) (v:Value),mid[j]? = some v->c[i*3+j]? = some v) (hm1:∀ v∈mid,v.oneCell'=true) (G0z:Nat) (hG:G0z=grownCap w (n+m) cap 104) (ROW c1 c2:Array Value)
  (hROW:ROW=pre.toArray++Builtin.zeroCells (.agg #[.int .i64 0,.slice none 0 0,.slice none 0 0]:Value).cells (n+m-i)++Builtin.zeroCells (.agg #[.int .i64 0,.slice none 0 0,.slice none 0 0]:Value).cells (G0z-(n+m))) (hRl:ROW.size=G0z*3)
  (hc1:c1=(ROW.toList.take (i*3)++news++ROW.toList.drop (i*3+news.length)).toArray) (hc2:c2=(c1.toList.take ((i+m)*3)++mid++c1.toList.drop ((i+m)*3+mid.length)).toArray) :
  Calls Tryz.prog 95 #[.slice (some ⟨b,0,none⟩) n cap,.int .i64 i,.slice (some ⟨vb,voff,none⟩) m vc] w λ ed w'=>
   ed=.returned (.slice (some ⟨w.heap.size,0,none⟩) (n+m) G0z)/\w'=(((w.alloc (.cells ROW 104)).drew.setRow w.heap.size c1).drew).setRow w.heap.size c2:=by
 have mixed:=ly;obtain ⟨i0,hi0,hz⟩:=n8.1 pG;have hzz:i0.zero=some (.agg #[.int .i64 0,.slice none 0 0,.slice none 0 0]):=congrArg Prod.fst hz;have hzs:i0.size=3:=congrArg (λ x=>x.2.1) hz;have hzb:i0.bytes=56:=congrArg (λ x=>x.2.2) hz;have hinf:(Tryz.prog.info? 104).map (·.size)=some 3:=by kernel_rfl
 have hz1:¬ ((m:Int)=0):=by omega
 have hz2:¬ ((i:Int)=(n:Int)):=by omega
 have hz3:(cap:Int)<(n:Int)+(m:Int):=by omega
 have hbw:b<w.heap.size:=(Array.getElem?_eq_some_iff.1 hb).1;have hkk:(n:Int)+(m:Int)-(i:Int)=((n+m-i:Nat):Int):=by omega
 have Fj:i+(n+m-i)=n+m:=by omega
 have hold:(Builtin.firstCells i0.size i (.slice (some ⟨b,0,none⟩) i cap)).run Tryz.prog w.drew=.ok pre.toArray w.drew:=by
  rw [hzs]
  exact run_firstCells_some w.drew 3 i ⟨b,0,none⟩ i cap pre O (λ j v hj=>by
   rw [Addr.add_lit,qr,World.cell?_drew]; simp only [World.cell?,hb]; exact hp j v hj)
 have hrz:∀ ty,(Builtin.append_ #[102,3] ty #[.slice (some ⟨b,0,none⟩) i cap,.int .i64 ((n:Int)+(m:Int)-(i:Int))]).run Tryz.prog w =
   .ok (.slice (some ⟨w.heap.size,0,none⟩) (n+m) G0z) (w.drew.alloc (.cells ROW 104)):=λ ty=>by
  have h:=Lib.run_append_grow_zeros w 102 3 ty 104 i0 _ .i64 .i64 Tryz.underlying102 Tryz.underlying3 hi0 hzz (some ⟨b,0,none⟩) i cap pre hold (n+m-i) O O O O  (by rw [hzb]; omega) (by rw [hzb,Fj]; exact growslice_fits hroom hbig);rw [Fj,<- hG,<- hROW] at h;rw [hkk];exact h
 have hGn:n+m<=G0z:=by rw [hG]; exact grownCap_ge w _ _ _
 have hG63:G0z<=9223372036854775807:=by
  have:=grownCap_le_maxLen w (n+m) cap 104 (by unfold maxLen; omega);rw [<- hG] at this;unfold maxLen at this;omega
 have hfit1:i*3+news.length<=ROW.size:=by rw [hRl,hnl]; omega
 have hs1:c1.size=ROW.size:=by rw [hc1]; exact dx ROW _ news hfit1
 have hcpA:∀ (W:World),W.heap=(w.drew.alloc (.cells ROW 104)).heap->∀ ty dc,(Builtin.copy_ #[102,102] ty #[.slice (some ⟨w.heap.size,i*3,none⟩) (n+m-i) dc,.slice (some ⟨vb,voff,none⟩) m vc]).run Tryz.prog W=.ok (goInt (Nat.min m (n+m-i))) (W.setRow w.heap.size c1):=λ W hW ty dc=>by
  have hWb:W.heap[w.heap.size]? = some (.cells ROW 104 (0,0)):=by rw [hW]; exact bZ (w:=w.drew)
  rw [hc1]
  exact fw W _ _ ty _ w.heap.size (i*3) (n+m-i) dc ⟨vb,voff,none⟩ m vc 3 ROW 104 news Tryz.underlying102 hinf hWb (by rw [hnl]; simp only [Nat.min_def]; split <;> omega)
   (λ j v hj=>by
    rw [Addr.add_lit];have:=hn j v hj;simp only [World.cell?] at this ⊢;rw [hW,Lib.alloc_old w.drew _ vb hvw]
    exact this) hfit1 h1
 have hcpB:∀ (W:World),W.heap=((w.drew.alloc (.cells ROW 104)).setRow w.heap.size c1).heap->∀ ty dc sc,(Builtin.copy_ #[102,102] ty #[.slice (some ⟨w.heap.size,(i+m)*3,none⟩) (n+m-(i+m)) dc,.slice (some ⟨b,i*3,none⟩) (n-i) sc]).run Tryz.prog W=.ok (goInt (Nat.min (n-i) (n+m-(i+m)))) (W.setRow w.heap.size c2):=λ W hW ty dc sc=>by
  have hWb:W.heap[w.heap.size]? = some (.cells c1 104 (0,0)):=by rw [hW]; exact setRow_heap _ _ ROW c1 104 (0,0) (bZ (w:=w.drew))
  rw [hc2]
  exact fw W _ _ ty _ w.heap.size ((i+m)*3) (n+m-(i+m)) dc ⟨b,i*3,none⟩ (n-i) sc 3 c1 104 mid Tryz.underlying102 hinf hWb (by rw [hml]; simp only [Nat.min_def]; split <;> omega)
   (λ j v hj=>by
    rw [Addr.add_lit];simp only [World.cell?];rw [hW,setRow_other _ _ b c1 O,Lib.alloc_old w.drew _ b hbw];have:w.drew.heap[b]? = some (.cells c e0 (0,0)):=hb;rw [this]
    exact hm j v hj) (by rw [hs1,hRl,hml]; omega) hm1
 have hGi:¬ (G0z=i):=by omega
 have hGim:¬ (G0z=i+m):=by omega
 have hci:¬ (cap=i):=by omega
 have hw1:IntKind.i64.wrap ((i:Int)+(m:Int))=(i:Int)+(m:Int):=by rw [IntKind.wrap_i64]; omega
 have hb1:(0:Int)<=(i:Int)+(m:Int):=by omega
 have hin:i<=n:=by omega
 have htn:((i:Int)+(m:Int)).toNat=i+m:=by omega
 have hb3:(i:Int)<=(n:Int):=by omega
 have hE1:((w.alloc (.cells ROW 104)).drew).heap=(w.drew.alloc (.cells ROW 104)).heap:=rfl;have hF1:(((w.alloc (.cells ROW 104)).drew.setRow w.heap.size c1).drew).heap=((w.drew.alloc (.cells ROW 104)).setRow w.heap.size c1).heap:=rfl
 clear hkk Fj hold hROW hG hRl hc1 hc2 hfit1 hs1 hml hm hm1 hnl hn h1 hpl hp hb hinf hzz hzs hzb hz hi0 hbig
 go_enter Tryz.func95,Tryz.ntmps95
 go_wp2_with (first
  | (at_builtin; refine Lib.wpList_append_run _ Z _ _ _ _ Z _ _ Z Z _ _ (hrz _) ?_)
  | (at_builtin; refine wpList_copy_runI _ Z _ _ 102 102 Z _ _ Z Z (hcpA _ hE1 _ _) ?_)
  | (at_builtin; refine wpList_copy_runI _ Z _ _ 102 102 Z _ _ Z Z (hcpB _ Z _ _ _) ?_))
 go_region_law_o (refine step_copy_runI Z _ _ 102 102 Z (.slice (some ⟨w.heap.size,(i+m)*3,none⟩) (n+m-(i+m)) (G0z-(i+m))) (.slice (some ⟨b,i*3,none⟩) (n-i) (cap-i)) (by simp [Act.eval,Act.put]) (by simp [Act.eval,Act.put]) (hcpB _ hF1 3 (G0z-(i+m)) (cap-i)) ?_)
 go_wp2
 go_ret
 exact ⟨Z,Z⟩
theorem AY:wu Tryz.prog 95 104 3 56 where
 room:=by
  intro w b n cap i vb voff vc c e0 news cA tA fA hb Fc hi hroom hn63 hvb hnl hn h1 Ff hA;rcases Nat.lt_or_ge i n with hlt|hge
  ·have hA0:cA.size≠0:=by
    have:0<news.length:=by omega
    have:=hn 0 _ (List.getElem?_eq_getElem this);simp only [World.cell?,hA] at this;intro h0;rw [Array.getElem?_eq_none O] at this
    cases this
   obtain ⟨mid,hmid⟩:∃ mid,mid=(c.toList.drop (i*3)).take ((n-i)*3):=⟨_,rfl⟩
   have hml:mid.length=(n-i)*3:=by
    rw [hmid,List.length_take,List.length_drop,Array.length_toList]; omega
   have hm:∀ (j:Nat) (v:Value),mid[j]? = some v->c[i*3+j]? = some v:=by
    intro j v hj;have hjl:j<(n-i)*3:=by have:=(List.getElem?_eq_some_iff.1 hj).1; omega
    rw [hmid,List.getElem?_take,if_pos hjl,List.getElem?_drop] at hj;simpa using hj
   have hm1:∀ v∈mid,v.oneCell'=true:=by
    intro v hv;obtain ⟨j,hj⟩:=List.mem_iff_getElem?.1 hv;have hjl:j<(n-i)*3:=by have:=(List.getElem?_eq_some_iff.1 hj).1; omega
    exact Ff (i*3+j) v O (hm j v hj)
   refine (xj w b n cap i vb voff 1 vc c e0 news mid cA tA fA hb Fc hlt (by decide) hroom O hvb O hn h1 hml hm hm1 hA hA0 _ _ rfl rfl).mono ?_;rintro ed w' ⟨rfl,rfl⟩;have hfit:(i+1)*3+mid.length<=c.size:=by omega
   have hs1:=dx c ((i+1)*3) mid hfit;have hfit2:=Nat.le_of_eq hs1.symm;refine ⟨Z,_,tj hb _,setRow_size _ _ _,(dx _ (i*3) news O).trans hs1,?_⟩;refine ri (s:=3) (mid:=mid) O hnl O hm (λ j=>?_) (λ j=>gP _ _ news O j);have:=gP c ((i+1)*3) mid hfit j;rw [show (i+1)*3=i*3+3 by omega] at this ⊢;exact this
  ·obtain rfl:i=n:=by omega
   refine (sM w b i cap vb voff 1 vc c e0 news hb Fc (by decide) hroom O hn h1 _ rfl).mono ?_;rintro ed w' ⟨rfl,rfl⟩;refine ⟨rfl,_,uT hb _,setRow_size _ _ _,dx c _ news O,?_⟩;exact vY (λ j=>gP c _ news O j)
 grow:=by
  intro w base n cap i vb voff vc c news hbase hi hncap hroom hbig hnl hn h1 Ff
  have hvw:vb<w.heap.size:=by
   have:0<news.length:=by omega
   exact block_lt_of_cell (hn 0 _ (List.getElem?_eq_getElem this))
  have hgn:=grownCap_ge w (n+1) cap 104;rcases Nat.lt_or_ge i n with hlt|hge
  ·obtain ⟨b,e0,rfl,hb,Fc⟩:∃ b e0,base=some ⟨b,0,none⟩/\w.heap[b]? = some (.cells c e0 (0,0))/\c.size=cap*3:=by
    rcases hbase with h|h
    ·omega
    ·exact h
   obtain ⟨mid,hmid⟩:∃ mid,mid=(c.toList.drop (i*3)).take ((n-i)*3):=⟨_,rfl⟩
   have hml:mid.length=(n-i)*3:=by
    rw [hmid,List.length_take,List.length_drop,Array.length_toList]; omega
   have hm:∀ (j:Nat) (v:Value),mid[j]? = some v->c[i*3+j]? = some v:=by
    intro j v hj;have hjl:j<(n-i)*3:=by have:=(List.getElem?_eq_some_iff.1 hj).1; omega
    rw [hmid,List.getElem?_take,if_pos hjl,List.getElem?_drop] at hj;simpa using hj
   have hm1:∀ v∈mid,v.oneCell'=true:=by
    intro v hv;obtain ⟨j,hj⟩:=List.mem_iff_getElem?.1 hv;have hjl:j<(n-i)*3:=by have:=(List.getElem?_eq_some_iff.1 hj).1; omega
    exact Ff (i*3+j) v O (hm j v hj)
   obtain ⟨pre,hpre⟩:∃ pre,pre=c.toList.take (i*3):=⟨_,rfl⟩
   have hpl:pre.length=i*3:=by
    rw [hpre,List.length_take,Array.length_toList]; omega
   have hp:∀ (j:Nat) (v:Value),pre[j]? = some v->c[j]? = some v:=by
    intro j v hj;have hjl:j<i*3:=by have:=(List.getElem?_eq_some_iff.1 hj).1; omega
    rw [hpre,List.getElem?_take,if_pos hjl] at hj;simpa using hj
   obtain ⟨G0z,hG⟩:∃ G0z,G0z=grownCap w (n+1) cap 104:=⟨_,rfl⟩
   rw [<- hG] at hgn;obtain ⟨ROW,hROW⟩:∃ ROW:Array Value,ROW=pre.toArray++Builtin.zeroCells (.agg #[.int .i64 0,.slice none 0 0,.slice none 0 0]:Value).cells (n+1-i)++Builtin.zeroCells (.agg #[.int .i64 0,.slice none 0 0,.slice none 0 0]:Value).cells (G0z-(n+1)):=⟨_,rfl⟩
   have hzc:(.agg #[.int .i64 0,.slice none 0 0,.slice none 0 0]:Value).cells.size=3:=by kernel_rfl
   have hRl:ROW.size=G0z*3:=by
    rw [hROW];simp only [Array.size_append,List.size_toArray,hpl,size_zeroCells,hzc];omega
   refine (zp w b n cap i vb voff 1 vc c e0 pre news mid hb hvw hlt (by decide) hncap hroom hbig O hn h1 hpl hp hml hm hm1 G0z hG ROW _ _ hROW hRl rfl rfl).mono ?_;rintro ed w' ⟨rfl,rfl⟩;have hfit1:i*3+news.length<=ROW.size:=by omega
   have hs1:=dx ROW (i*3) news hfit1;have hfit2:(i+1)*3+mid.length<=ROW.size:=by omega
   refine ⟨G0z,_,Z,qt w ROW 104 _ _,hgn,((dx _ ((i+1)*3) mid O).trans hs1).trans hRl,?_⟩;refine tK (s:=3) (mid:=mid) (ROW:=ROW) O hnl O hm (λ j hj=>?_) (λ j=>gP ROW _ news hfit1 j) (λ j=>?_)
   ·have hj':j<pre.length:=by omega
    rw [hROW,Array.append_assoc,Array.getElem?_append,if_pos (by simpa using hj'),List.getElem?_toArray,List.getElem?_eq_getElem hj',hp j _ (List.getElem?_eq_getElem hj')]
   ·have:=gP (ROW.toList.take (i*3)++news++ROW.toList.drop (i*3+news.length)).toArray ((i+1)*3) mid (by rw [hs1]; exact hfit2) j;rw [show (i+1)*3=i*3+3 by omega] at this ⊢;exact this
  ·obtain rfl:i=n:=by omega
   obtain ⟨olds,hol,hold,hoc⟩:∃ olds:List Value,olds.length=i*3/\(Builtin.firstCells 3 i (.slice base i cap)).run Tryz.prog w.drew=.ok olds.toArray w.drew/\(∀ j,j<i*3->olds[j]? = c[j]?):=by
    rcases hbase with ⟨rfl,rfl⟩|⟨b,e0,rfl,hb,Fc⟩
    ·refine ⟨[],Z,?_,λ j hj=>by omega⟩
     cases base with
     | none=>exact run_firstCells_none w.drew 3 0 0 0
     | some a=>exact run_firstCells_some w.drew 3 0 a 0 0 [] Z (λ j v hj=>by simp at hj)
    ·have hl:(c.toList.take (i*3)).length=i*3:=by rw [List.length_take,Array.length_toList]; omega
     refine ⟨c.toList.take (i*3),hl,run_firstCells_some w.drew 3 i ⟨b,0,none⟩ i cap _ O (λ j v hj=>?_),λ j hj=>by rw [List.getElem?_take,if_pos hj]; simp⟩;have hjl:j<i*3:=by have:=(List.getElem?_eq_some_iff.1 hj).1; omega
     rw [List.getElem?_take,if_pos hjl] at hj;rw [Addr.add_lit,qr,World.cell?_drew]; simp only [World.cell?,hb]; simpa using hj
   have hnil:base=none->i=0:=by
    rintro rfl;rcases hbase with ⟨h,_⟩|⟨b,e0,h,_⟩
    ·exact h
    ·cases h
   refine (sR w base i cap vb voff 1 vc olds news (by decide) hncap hroom hbig hold hnil O hn h1).mono ?_;rintro ed w' ⟨rfl,rfl⟩;obtain ⟨G0z,hG⟩:∃ G0z,G0z=grownCap w (i+1) cap 104:=⟨_,rfl⟩
   rw [<- hG] at hgn ⊢;have hzc:(.agg #[.int .i64 0,.slice none 0 0,.slice none 0 0]:Value).cells.size=3:=by kernel_rfl
   refine ⟨G0z,_,Z,qi w _ 104,hgn,?_,?_,?_,λ j h3 h4=>by omega⟩
   ·simp only [Array.size_append,List.size_toArray,aq,hol,hnl,size_zeroCells,hzc]; omega
   ·intro j hj;rw [Array.getElem?_append,if_pos (by simp only [List.size_toArray,aq]; omega),List.getElem?_toArray,List.getElem?_append,if_pos O];exact hoc j hj
   ·intro j hj;rw [Array.getElem?_append,if_pos (by simp only [List.size_toArray,aq]; omega),List.getElem?_toArray,List.getElem?_append,if_neg O];congr 1; omega
def cY (E5:List ag)(Fa:Int)(v_2:List ag):Option (List ag) :=ck ((0:Int)<=Fa/\Fa<=(E5.length:Int))<|ck (v_2.length=1)<|ck ((E5.length+1)*56<=140737488355328)<|some (ls E5 Fa.toNat (v_2.headD default))
theorem jd (E5:List ag)(Fa:Int)(v_2:List ag)(r:List ag)(h0:cY E5 Fa v_2=some r):cq Tryz.prog 95 [.stk 900000 3 (E5.map aD),.p (eI Fa),.p (eL aD v_2)] [] (λ x y=>x=.stk 2000000 3 (r.map aD)/\y=[]):=by
 unfold cY at h0;obtain ⟨Hw,h1⟩:=gX h0;obtain ⟨GX,h2⟩:=gX h1;obtain ⟨Hg,h3⟩:=gX h2
 cases h3
 obtain ⟨z,rfl⟩:∃ z,v_2=[z]:=by
  match v_2,GX with
  | [z],_=>exact ⟨z,Z⟩
 obtain ⟨i,rfl⟩:∃ i:Nat,Fa=i:=⟨Fa.toNat,by omega⟩
 have hi:i<=(E5.map aD).length:=by rw [cl]; omega
 have h:=rR AY (by decide) (E5.map aD) i (aD z) hi (by rw [cl]; omega) (by rw [cl]; omega) ((congrArg List.length (ag.Eh z)).trans (by cases z with|mk=>rfl));rw [vu] at h;exact h
theorem pV:(Tryz.prog.info? 9).map (λ i=>(i.zero,i.size,i.bytes))=some (some (.string ⟨#[]⟩),1,16):=by kernel_rfl
set_option maxRecDepth 100000 in
theorem sH (w:World)(b n cap vb voff m vc:Nat)(c:Array Value)(e0:TypeId)(news:List Value)(hb:w.heap[b]? = some (.cells c e0 (0,0)))(Fc:c.size=cap)(hm0:0<m)(hroom:n+m<=cap)
  (hnl:news.length=m) (hn:∀ j v,news[j]? = some v->w.cell? ⟨vb,voff+j,none⟩=some v) (h1:∀ v∈news,v.oneCell'=true) (c':Array Value) (hc':c'=(c.toList.take (n)++news++c.toList.drop (n+news.length)).toArray) :
  Calls Tryz.prog 94 #[.slice (some ⟨b,0,none⟩) n cap,.int .i64 n,.slice (some ⟨vb,voff,none⟩) m vc] w λ ed w'=>
   ed=.returned (.slice (some ⟨b,0,none⟩) (n+m) cap)/\w'=w.setRow b c':=by
 have mixed:=ly;obtain ⟨i0,hi0,hz⟩:=n8.1 pV;have hzs:i0.size=1:=congrArg (λ x=>x.2.1) hz;have hz1:¬ ((m:Int)=0):=by omega
 have hsrc:Src Tryz.prog i0.size 29 (.slice (some ⟨vb,voff,none⟩) m vc) m news w:=by
  rw [hzs];exact Src.ofSlice w Tryz.underlying29 ⟨vb,voff,none⟩ m vc news O (λ j u hj=>by rw [Addr.add_lit]; exact hn j u hj) h1
 have hstc:=run_storeCells_at Tryz.prog b (n) e0 news 0 c w hb (by simp only [Nat.add_zero]; omega) h1;simp only [Nat.add_zero] at hstc;rw [<- hc'] at hstc
 have hrun:∀ ty,(Builtin.append_ #[29,29] ty #[.slice (some ⟨b,0,none⟩) n cap,.slice (some ⟨vb,voff,none⟩) m vc]).run Tryz.prog w=.ok (.slice (some ⟨b,0,none⟩) (n+m) cap) _:=λ ty=>
  gm _ _ ty _ i0 Tryz.underlying29 hi0 b n cap _ m news hsrc hroom (by rw [hzs]; first|exact hstc|(rw [Nat.mul_one]; exact hstc))
 clear hc' hstc hsrc hnl hn h1 hb Fc
 go_enter Tryz.func94,Tryz.ntmps94
 go_wp2_with (at_builtin; refine Lib.wpList_append_run _ Z _ _ _ _ Z _ _ Z Z _ _ (hrun _) ?_)
 go_ret
 exact ⟨Z,Z⟩
set_option maxRecDepth 100000 in
theorem wq (w:World)(b n cap i vb voff m vc:Nat)(c:Array Value)(e0:TypeId)(news mid:List Value)(cA:Array Value)(tA:TypeId)(fA:Nat×Nat)(hb:w.heap[b]? = some (.cells c e0 (0,0)))(Fc:c.size=cap)(hi:i<n)(hm0:0<m)(hroom:n+m<=cap)(hn63:n+m<=9223372036854775807)(hvb:vb≠b)
  (hnl:news.length=m) (hn:∀ j v,news[j]? = some v->w.cell? ⟨vb,voff+j,none⟩=some v) (h1:∀ v∈news,v.oneCell'=true) (hml:mid.length=(n-i)) (hm:∀ (j:Nat) (v:Value),mid[j]? = some v->c[i+j]? = some v) (hm1:∀ v∈mid,v.oneCell'=true)
  (hA:w.heap[vb]? = some (.cells cA tA fA)) (hA0:cA.size≠0)
  (c1 c2:Array Value) (hc1:c1=(c.toList.take ((i+m))++mid++c.toList.drop ((i+m)+mid.length)).toArray) (hc2:c2=(c1.toList.take (i)++news++c1.toList.drop (i+news.length)).toArray) :
  Calls Tryz.prog 94 #[.slice (some ⟨b,0,none⟩) n cap,.int .i64 i,.slice (some ⟨vb,voff,none⟩) m vc] w λ ed w'=>
   ed=.returned (.slice (some ⟨b,0,none⟩) (n+m) cap)/\w'=w.drew.setRow b c2:=by
 have mixed:=ly;have hinf:(Tryz.prog.info? 9).map (·.size)=some 1:=by kernel_rfl
 have hz1:¬ ((m:Int)=0):=by omega
 have hz2:¬ ((i:Int)=(n:Int)):=by omega
 have hfit:(i+m)+mid.length<=c.size:=by omega
 have hs1:c1.size=c.size:=by rw [hc1]; exact dx c _ mid hfit
 have hov:∀ lb cb,(callFunc 122 #[.slice (some ⟨vb,voff,none⟩) m vc,.slice (some ⟨b,(i+m),none⟩) lb cb]).run Tryz.prog w=.ok (.value (.bool false)) w:=λ lb cb=>by
  rw [run_callFunc_extern Tryz.func122 (by kernel_rfl) (by kernel_rfl) (by kernel_rfl) (e:=Extern.SlicesOverlaps.overlaps #[29,29] #[4]) (by kernel_rfl),
   lg w 29 4 9 Tryz.underlying29 1 (λ w=>by kernel_rfl) ⟨vb,voff,none⟩ ⟨b,(i+m),none⟩ m vc lb cb hvb hA hb hA0]
  rfl
 have hcp1:∀ ty dc sc,(Builtin.copy_ #[29,29] ty #[.slice (some ⟨b,(i+m),none⟩) (n+m-(i+m)) dc,.slice (some ⟨b,i,none⟩) (n+m-i) sc]).run Tryz.prog w.drew=.ok (goInt (Nat.min (n+m-i) (n+m-(i+m)))) (w.drew.setRow b c1):=λ ty dc sc=>by
  rw [hc1]
  exact fw w.drew _ _ ty _ b ((i+m)) (n+m-(i+m)) dc ⟨b,i,none⟩ (n+m-i) sc 1 c e0 mid Tryz.underlying29 hinf hb (by rw [hml]; simp only [Nat.min_def]; split <;> omega)
   (λ j v hj=>by rw [Addr.add_lit]; rw [World.cell?_drew]; simp only [World.cell?,hb]; exact hm j v hj) hfit hm1
 have hcp2:∀ (W:World),W.heap=(w.drew.setRow b c1).heap->∀ ty dc,(Builtin.copy_ #[29,29] ty #[.slice (some ⟨b,i,none⟩) (n+m-i) dc,.slice (some ⟨vb,voff,none⟩) m vc]).run Tryz.prog W=.ok (goInt (Nat.min m (n+m-i))) (W.setRow b c2):=λ W hW ty dc=>by
  have hWb:W.heap[b]? = some (.cells c1 e0 (0,0)):=by rw [hW]; exact setRow_heap w.drew b c c1 e0 (0,0) hb
  rw [hc2]
  exact fw W _ _ ty _ b (i) (n+m-i) dc ⟨vb,voff,none⟩ m vc 1 c1 e0 news Tryz.underlying29 hinf hWb (by rw [hnl]; simp only [Nat.min_def]; split <;> omega)
   (λ j v hj=>by
    rw [Addr.add_lit];have:=hn j v hj;simp only [World.cell?] at this ⊢;rw [hW,setRow_other w.drew b vb c1 hvb]
    exact this) O h1
 have hw1:IntKind.i64.wrap ((i:Int)+(m:Int))=(i:Int)+(m:Int):=by rw [IntKind.wrap_i64]; omega
 have hb1:(0:Int)<=(i:Int)+(m:Int):=by omega
 have hin:i<=n:=by omega
 have htn:((i:Int)+(m:Int)).toNat=i+m:=by omega
 have hb2:¬ (cap=i+m):=by omega
 have hb3:(i:Int)<=(n:Int)+(m:Int):=by omega
 have hb4:¬ (cap=i):=by omega
 clear Fc hfit hs1 hml hm hm1 hnl hn h1 hc1 hc2 hinf hA hA0 hb
 go_enter Tryz.func94,Tryz.ntmps94
 go_wp2_with (simp only [hov])
 go_region_law_o (refine step_copy_runI Z _ _ 29 29 Z _ _ (by simp [Act.eval,Act.put]) (by simp [Act.eval,Act.put]) (hcp1 _ _ _) ?_)
 go_wp2_with (at_builtin; refine wpList_copy_runI _ Z _ _ 29 29 Z _ _ Z Z (hcp2 _ Z _ _) ?_)
 go_ret
 exact ⟨Z,by rw [setRow_setRow]⟩
set_option maxRecDepth 100000 in
theorem sL (w:World)(base:Option Addr)(n cap vb voff m vc:Nat)(olds news:List Value)(hm0:0<m)(hnc:n<=cap)(hroom:cap<n+m)(hbig:(n+m)*16<=140737488355328)(hold:(Builtin.firstCells 1 n (.slice base n cap)).run Tryz.prog w.drew=.ok olds.toArray w.drew)
  (hnil:base=none->n=0) (hnl:news.length=m) (hn:∀ j v,news[j]? = some v->w.cell? ⟨vb,voff+j,none⟩=some v) (h1:∀ v∈news,v.oneCell'=true) :
  Calls Tryz.prog 94 #[.slice base n cap,.int .i64 n,.slice (some ⟨vb,voff,none⟩) m vc] w λ ed w'=>
   ed=.returned (.slice (some ⟨w.heap.size,0,none⟩) (n+m) (grownCap w (n+m) cap 9))/\w'=w.drew.alloc (.cells ((olds++news).toArray++Builtin.zeroCells (.string ⟨#[]⟩:Value).cells (grownCap w (n+m) cap 9-(n+m))) 9):=by
 have mixed:=ly;obtain ⟨i0,hi0,hz⟩:=n8.1 pV;have hzz:i0.zero=some (.string ⟨#[]⟩):=congrArg Prod.fst hz;have hzs:i0.size=1:=congrArg (λ x=>x.2.1) hz;have hzb:i0.bytes=16:=congrArg (λ x=>x.2.2) hz;have hz1:¬ ((m:Int)=0):=by omega
 have hsrc:Src Tryz.prog i0.size 29 (.slice (some ⟨vb,voff,none⟩) m vc) m news w:=by
  rw [hzs];exact Src.ofSlice w Tryz.underlying29 ⟨vb,voff,none⟩ m vc news O (λ j u hj=>by rw [Addr.add_lit]; exact hn j u hj) h1
 have hrun:∀ ty,(Builtin.append_ #[29,29] ty #[.slice base n cap,.slice (some ⟨vb,voff,none⟩) m vc]).run Tryz.prog w=_:=λ ty=>
  run_append_grow_src w 29 29 ty 9 i0 _ Tryz.underlying29 hi0 hzz base n cap olds (by rw [hzs]; exact hold) _ m news hsrc hroom O (by rw [hzb]; exact growslice_fits hroom hbig)
 clear hsrc hnl hn h1 hold hzz hzs hzb hz hi0 hbig
 go_enter Tryz.func94,Tryz.ntmps94
 cases base with
 | none=>
  have h0:=hnil rfl;subst h0
  go_wp2_with (at_builtin; refine Lib.wpList_append_run _ Z _ _ _ _ Z _ _ Z Z _ _ (hrun _) ?_)
  all_goals (go_ret; exact ⟨Z,Z⟩)
 | some a=>
  obtain ⟨ab,ao,asp⟩:=a
  go_wp2_with (at_builtin; refine Lib.wpList_append_run _ Z _ _ _ _ Z _ _ Z Z _ _ (hrun _) ?_)
  all_goals (go_ret; exact ⟨Z,Z⟩)
set_option maxRecDepth 100000 in
theorem zm (w:World)(b n cap i vb voff m vc:Nat)(c:Array Value)(e0:TypeId)(pre news mid:List Value)(hb:w.heap[b]? = some (.cells c e0 (0,0)))(hvw:vb<w.heap.size)(hi:i<n)(hm0:0<m)(hnc:n<=cap)(hroom:cap<n+m)(hbig:(n+m)*16<=140737488355328)
  (hnl:news.length=m) (hn:∀ j v,news[j]? = some v->w.cell? ⟨vb,voff+j,none⟩=some v) (h1:∀ v∈news,v.oneCell'=true) (hpl:pre.length=i) (hp:∀ (j:Nat) (v:Value),pre[j]? = some v->c[j]? = some v)
  (hml:mid.length=(n-i)) (hm:∀ (j:Nat) (v:Value),mid[j]? = some v->c[i+j]? = some v) (hm1:∀ v∈mid,v.oneCell'=true) (G0z:Nat) (hG:G0z=grownCap w (n+m) cap 9) (ROW c1 c2:Array Value)
  (hROW:ROW=pre.toArray++Builtin.zeroCells (.string ⟨#[]⟩:Value).cells (n+m-i)++Builtin.zeroCells (.string ⟨#[]⟩:Value).cells (G0z-(n+m))) (hRl:ROW.size=G0z)
  (hc1:c1=(ROW.toList.take (i)++news++ROW.toList.drop (i+news.length)).toArray) (hc2:c2=(c1.toList.take ((i+m))++mid++c1.toList.drop ((i+m)+mid.length)).toArray) :
  Calls Tryz.prog 94 #[.slice (some ⟨b,0,none⟩) n cap,.int .i64 i,.slice (some ⟨vb,voff,none⟩) m vc] w λ ed w'=>
   ed=.returned (.slice (some ⟨w.heap.size,0,none⟩) (n+m) G0z)/\w'=(((w.alloc (.cells ROW 9)).drew.setRow w.heap.size c1).drew).setRow w.heap.size c2:=by
 have mixed:=ly;obtain ⟨i0,hi0,hz⟩:=n8.1 pV;have hzz:i0.zero=some (.string ⟨#[]⟩):=congrArg Prod.fst hz;have hzs:i0.size=1:=congrArg (λ x=>x.2.1) hz;have hzb:i0.bytes=16:=congrArg (λ x=>x.2.2) hz;have hinf:(Tryz.prog.info? 9).map (·.size)=some 1:=by kernel_rfl
 have hz1:¬ ((m:Int)=0):=by omega
 have hz2:¬ ((i:Int)=(n:Int)):=by omega
 have hz3:(cap:Int)<(n:Int)+(m:Int):=by omega
 have hbw:b<w.heap.size:=(Array.getElem?_eq_some_iff.1 hb).1;have hkk:(n:Int)+(m:Int)-(i:Int)=((n+m-i:Nat):Int):=by omega
 have Fj:i+(n+m-i)=n+m:=by omega
 have hold:(Builtin.firstCells i0.size i (.slice (some ⟨b,0,none⟩) i cap)).run Tryz.prog w.drew=.ok pre.toArray w.drew:=by
  rw [hzs]
  exact run_firstCells_some w.drew 1 i ⟨b,0,none⟩ i cap pre O (λ j v hj=>by
   rw [Addr.add_lit,qr,World.cell?_drew]; simp only [World.cell?,hb]; exact hp j v hj)
 have hrz:∀ ty,(Builtin.append_ #[29,3] ty #[.slice (some ⟨b,0,none⟩) i cap,.int .i64 ((n:Int)+(m:Int)-(i:Int))]).run Tryz.prog w =
   .ok (.slice (some ⟨w.heap.size,0,none⟩) (n+m) G0z) (w.drew.alloc (.cells ROW 9)):=λ ty=>by
  have h:=Lib.run_append_grow_zeros w 29 3 ty 9 i0 _ .i64 .i64 Tryz.underlying29 Tryz.underlying3 hi0 hzz (some ⟨b,0,none⟩) i cap pre hold (n+m-i) O O O O  (by rw [hzb]; omega) (by rw [hzb,Fj]; exact growslice_fits hroom hbig);rw [Fj,<- hG,<- hROW] at h;rw [hkk];exact h
 have hGn:n+m<=G0z:=by rw [hG]; exact grownCap_ge w _ _ _
 have hG63:G0z<=9223372036854775807:=by
  have:=grownCap_le_maxLen w (n+m) cap 9 (by unfold maxLen; omega);rw [<- hG] at this;unfold maxLen at this;omega
 have hfit1:i+news.length<=ROW.size:=by rw [hRl,hnl]; omega
 have hs1:c1.size=ROW.size:=by rw [hc1]; exact dx ROW _ news hfit1
 have hcpA:∀ (W:World),W.heap=(w.drew.alloc (.cells ROW 9)).heap->∀ ty dc,(Builtin.copy_ #[29,29] ty #[.slice (some ⟨w.heap.size,i,none⟩) (n+m-i) dc,.slice (some ⟨vb,voff,none⟩) m vc]).run Tryz.prog W=.ok (goInt (Nat.min m (n+m-i))) (W.setRow w.heap.size c1):=λ W hW ty dc=>by
  have hWb:W.heap[w.heap.size]? = some (.cells ROW 9 (0,0)):=by rw [hW]; exact bZ (w:=w.drew)
  rw [hc1]
  exact fw W _ _ ty _ w.heap.size (i) (n+m-i) dc ⟨vb,voff,none⟩ m vc 1 ROW 9 news Tryz.underlying29 hinf hWb (by rw [hnl]; simp only [Nat.min_def]; split <;> omega)
   (λ j v hj=>by
    rw [Addr.add_lit];have:=hn j v hj;simp only [World.cell?] at this ⊢;rw [hW,Lib.alloc_old w.drew _ vb hvw]
    exact this) hfit1 h1
 have hcpB:∀ (W:World),W.heap=((w.drew.alloc (.cells ROW 9)).setRow w.heap.size c1).heap->∀ ty dc sc,(Builtin.copy_ #[29,29] ty #[.slice (some ⟨w.heap.size,(i+m),none⟩) (n+m-(i+m)) dc,.slice (some ⟨b,i,none⟩) (n-i) sc]).run Tryz.prog W=.ok (goInt (Nat.min (n-i) (n+m-(i+m)))) (W.setRow w.heap.size c2):=λ W hW ty dc sc=>by
  have hWb:W.heap[w.heap.size]? = some (.cells c1 9 (0,0)):=by rw [hW]; exact setRow_heap _ _ ROW c1 9 (0,0) (bZ (w:=w.drew))
  rw [hc2]
  exact fw W _ _ ty _ w.heap.size ((i+m)) (n+m-(i+m)) dc ⟨b,i,none⟩ (n-i) sc 1 c1 9 mid Tryz.underlying29 hinf hWb (by rw [hml]; simp only [Nat.min_def]; split <;> omega)
   (λ j v hj=>by
    rw [Addr.add_lit];simp only [World.cell?];rw [hW,setRow_other _ _ b c1 O,Lib.alloc_old w.drew _ b hbw];have:w.drew.heap[b]? = some (.cells c e0 (0,0)):=hb;rw [this]
    exact hm j v hj) (by rw [hs1,hRl,hml]; omega) hm1
 have hGi:¬ (G0z=i):=by omega
 have hGim:¬ (G0z=i+m):=by omega
 have hci:¬ (cap=i):=by omega
 have hw1:IntKind.i64.wrap ((i:Int)+(m:Int))=(i:Int)+(m:Int):=by rw [IntKind.wrap_i64]; omega
 have hb1:(0:Int)<=(i:Int)+(m:Int):=by omega
 have hin:i<=n:=by omega
 have htn:((i:Int)+(m:Int)).toNat=i+m:=by omega
 have hb3:(i:Int)<=(n:Int):=by omega
 have hE1:((w.alloc (.cells ROW 9)).drew).heap=(w.drew.alloc (.cells ROW 9)).heap:=rfl;have hF1:(((w.alloc (.cells ROW 9)).drew.setRow w.heap.size c1).drew).heap=((w.drew.alloc (.cells ROW 9)).setRow w.heap.size c1).heap:=rfl
 clear hkk Fj hold hROW hG hRl hc1 hc2 hfit1 hs1 hml hm hm1 hnl hn h1 hpl hp hb hinf hzz hzs hzb hz hi0 hbig
 go_enter Tryz.func94,Tryz.ntmps94
 go_wp2_with (first
  | (at_builtin; refine Lib.wpList_append_run _ Z _ _ _ _ Z _ _ Z Z _ _ (hrz _) ?_)
  | (at_builtin; refine wpList_copy_runI _ Z _ _ 29 29 Z _ _ Z Z (hcpA _ hE1 _ _) ?_)
  | (at_builtin; refine wpList_copy_runI _ Z _ _ 29 29 Z _ _ Z Z (hcpB _ Z _ _ _) ?_))
 go_region_law_o (refine step_copy_runI Z _ _ 29 29 Z (.slice (some ⟨w.heap.size,(i+m),none⟩) (n+m-(i+m)) (G0z-(i+m))) (.slice (some ⟨b,i,none⟩) (n-i) (cap-i)) (by simp [Act.eval,Act.put]) (by simp [Act.eval,Act.put]) (hcpB _ hF1 3 (G0z-(i+m)) (cap-i)) ?_)
 go_wp2
 go_ret
 exact ⟨Z,Z⟩
theorem zQ:wu Tryz.prog 94 9 1 16 where
 room:=by
  intro w b n cap i vb voff vc c e0 news cA tA fA hb Fc hi hroom hn63 hvb hnl hn h1 Ff hA;simp only [Nat.mul_one] at *;rcases Nat.lt_or_ge i n with hlt|hge
  ·have hA0:cA.size≠0:=by
    have:0<news.length:=by omega
    have:=hn 0 _ (List.getElem?_eq_getElem this);simp only [World.cell?,hA] at this;intro h0;rw [Array.getElem?_eq_none O] at this
    cases this
   obtain ⟨mid,hmid⟩:∃ mid,mid=(c.toList.drop (i)).take ((n-i)):=⟨_,rfl⟩
   have hml:mid.length=(n-i):=by
    rw [hmid,List.length_take,List.length_drop,Array.length_toList]; omega
   have hm:∀ (j:Nat) (v:Value),mid[j]? = some v->c[i+j]? = some v:=by
    intro j v hj;have hjl:j<(n-i):=by have:=(List.getElem?_eq_some_iff.1 hj).1; omega
    rw [hmid,List.getElem?_take,if_pos hjl,List.getElem?_drop] at hj;simpa using hj
   have hm1:∀ v∈mid,v.oneCell'=true:=by
    intro v hv;obtain ⟨j,hj⟩:=List.mem_iff_getElem?.1 hv;have hjl:j<(n-i):=by have:=(List.getElem?_eq_some_iff.1 hj).1; omega
    exact Ff (i+j) v O (hm j v hj)
   refine (wq w b n cap i vb voff 1 vc c e0 news mid cA tA fA hb Fc hlt (by decide) hroom O hvb O hn h1 hml hm hm1 hA hA0 _ _ rfl rfl).mono ?_;rintro ed w' ⟨rfl,rfl⟩;have hfit:(i+1)+mid.length<=c.size:=by omega
   have hs1:=dx c ((i+1)) mid hfit;have hfit2:=Nat.le_of_eq hs1.symm;refine ⟨Z,_,tj hb _,setRow_size _ _ _,(dx _ (i) news O).trans hs1,?_⟩;refine ri (s:=1) (mid:=mid) O hnl O hm (λ j=>?_) (λ j=>gP _ _ news O j);have:=gP c ((i+1)) mid hfit j;exact this
  ·obtain rfl:i=n:=by omega
   refine (sH w b i cap vb voff 1 vc c e0 news hb Fc (by decide) hroom O hn h1 _ rfl).mono ?_;rintro ed w' ⟨rfl,rfl⟩;refine ⟨rfl,_,uT hb _,setRow_size _ _ _,dx c _ news O,?_⟩;exact vY (λ j=>gP c _ news O j)
 grow:=by
  intro w base n cap i vb voff vc c news hbase hi hncap hroom hbig hnl hn h1 Ff;simp only [Nat.mul_one] at *
  have hvw:vb<w.heap.size:=by
   have:0<news.length:=by omega
   exact block_lt_of_cell (hn 0 _ (List.getElem?_eq_getElem this))
  have hgn:=grownCap_ge w (n+1) cap 9;rcases Nat.lt_or_ge i n with hlt|hge
  ·obtain ⟨b,e0,rfl,hb,Fc⟩:∃ b e0,base=some ⟨b,0,none⟩/\w.heap[b]? = some (.cells c e0 (0,0))/\c.size=cap:=by
    rcases hbase with h|h
    ·omega
    ·exact h
   obtain ⟨mid,hmid⟩:∃ mid,mid=(c.toList.drop (i)).take ((n-i)):=⟨_,rfl⟩
   have hml:mid.length=(n-i):=by
    rw [hmid,List.length_take,List.length_drop,Array.length_toList]; omega
   have hm:∀ (j:Nat) (v:Value),mid[j]? = some v->c[i+j]? = some v:=by
    intro j v hj;have hjl:j<(n-i):=by have:=(List.getElem?_eq_some_iff.1 hj).1; omega
    rw [hmid,List.getElem?_take,if_pos hjl,List.getElem?_drop] at hj;simpa using hj
   have hm1:∀ v∈mid,v.oneCell'=true:=by
    intro v hv;obtain ⟨j,hj⟩:=List.mem_iff_getElem?.1 hv;have hjl:j<(n-i):=by have:=(List.getElem?_eq_some_iff.1 hj).1; omega
    exact Ff (i+j) v O (hm j v hj)
   obtain ⟨pre,hpre⟩:∃ pre,pre=c.toList.take (i):=⟨_,rfl⟩
   have hpl:pre.length=i:=by
    rw [hpre,List.length_take,Array.length_toList]; omega
   have hp:∀ (j:Nat) (v:Value),pre[j]? = some v->c[j]? = some v:=by
    intro j v hj;have hjl:j<i:=by have:=(List.getElem?_eq_some_iff.1 hj).1; omega
    rw [hpre,List.getElem?_take,if_pos hjl] at hj;simpa using hj
   obtain ⟨G0z,hG⟩:∃ G0z,G0z=grownCap w (n+1) cap 9:=⟨_,rfl⟩
   rw [<- hG] at hgn;obtain ⟨ROW,hROW⟩:∃ ROW:Array Value,ROW=pre.toArray++Builtin.zeroCells (.string ⟨#[]⟩:Value).cells (n+1-i)++Builtin.zeroCells (.string ⟨#[]⟩:Value).cells (G0z-(n+1)):=⟨_,rfl⟩
   have hzc:(.string ⟨#[]⟩:Value).cells.size=1:=by kernel_rfl
   have hRl:ROW.size=G0z:=by
    rw [hROW];simp only [Array.size_append,List.size_toArray,hpl,size_zeroCells,hzc];omega
   refine (zm w b n cap i vb voff 1 vc c e0 pre news mid hb hvw hlt (by decide) hncap hroom hbig O hn h1 hpl hp hml hm hm1 G0z hG ROW _ _ hROW hRl rfl rfl).mono ?_;rintro ed w' ⟨rfl,rfl⟩;have hfit1:i+news.length<=ROW.size:=by omega
   have hs1:=dx ROW (i) news hfit1;have hfit2:(i+1)+mid.length<=ROW.size:=by omega
   refine ⟨G0z,_,Z,qt w ROW 9 _ _,hgn,((dx _ ((i+1)) mid O).trans hs1).trans hRl,?_⟩;refine tK (s:=1) (mid:=mid) (ROW:=ROW) O hnl O hm (λ j hj=>?_) (λ j=>gP ROW _ news hfit1 j) (λ j=>?_)
   ·have hj':j<pre.length:=by omega
    rw [hROW,Array.append_assoc,Array.getElem?_append,if_pos (by simpa using hj'),List.getElem?_toArray,List.getElem?_eq_getElem hj',hp j _ (List.getElem?_eq_getElem hj')]
   ·have:=gP (ROW.toList.take (i)++news++ROW.toList.drop (i+news.length)).toArray ((i+1)) mid (by rw [hs1]; exact hfit2) j;exact this
  ·obtain rfl:i=n:=by omega
   obtain ⟨olds,hol,hold,hoc⟩:∃ olds:List Value,olds.length=i/\(Builtin.firstCells 1 i (.slice base i cap)).run Tryz.prog w.drew=.ok olds.toArray w.drew/\(∀ j,j<i->olds[j]? = c[j]?):=by
    rcases hbase with ⟨rfl,rfl⟩|⟨b,e0,rfl,hb,Fc⟩
    ·refine ⟨[],Z,?_,λ j hj=>by omega⟩
     cases base with
     | none=>exact run_firstCells_none w.drew 1 0 0 0
     | some a=>exact run_firstCells_some w.drew 1 0 a 0 0 [] Z (λ j v hj=>by simp at hj)
    ·have hl:(c.toList.take (i)).length=i:=by rw [List.length_take,Array.length_toList]; omega
     refine ⟨c.toList.take (i),hl,run_firstCells_some w.drew 1 i ⟨b,0,none⟩ i cap _ O (λ j v hj=>?_),λ j hj=>by rw [List.getElem?_take,if_pos hj]; simp⟩;have hjl:j<i:=by have:=(List.getElem?_eq_some_iff.1 hj).1; omega
     rw [List.getElem?_take,if_pos hjl] at hj;rw [Addr.add_lit,qr,World.cell?_drew]; simp only [World.cell?,hb]; simpa using hj
   have hnil:base=none->i=0:=by
    rintro rfl;rcases hbase with ⟨h,_⟩|⟨b,e0,h,_⟩
    ·exact h
    ·cases h
   refine (sL w base i cap vb voff 1 vc olds news (by decide) hncap hroom hbig hold hnil O hn h1).mono ?_;rintro ed w' ⟨rfl,rfl⟩;obtain ⟨G0z,hG⟩:∃ G0z,G0z=grownCap w (i+1) cap 9:=⟨_,rfl⟩
   rw [<- hG] at hgn ⊢;have hzc:(.string ⟨#[]⟩:Value).cells.size=1:=by kernel_rfl
   refine ⟨G0z,_,Z,qi w _ 9,hgn,?_,?_,?_,λ j h3 h4=>by omega⟩
   ·simp only [Array.size_append,List.size_toArray,aq,hol,hnl,size_zeroCells,hzc]; omega
   ·intro j hj;rw [Array.getElem?_append,if_pos (by simp only [List.size_toArray,aq]; omega),List.getElem?_toArray,List.getElem?_append,if_pos O];exact hoc j hj
   ·intro j hj;rw [Array.getElem?_append,if_pos (by simp only [List.size_toArray,aq]; omega),List.getElem?_toArray,List.getElem?_append,if_neg O];congr 1; omega
def dU (E5:List Az)(Fa:Int)(v_2:List Az):Option (List Az) :=ck ((0:Int)<=Fa/\Fa<=(E5.length:Int))<|ck (v_2.length=1)<|ck ((E5.length+1)*16<=140737488355328)<|some (ls E5 Fa.toNat (v_2.headD default))
theorem jV (E5:List Az)(Fa:Int)(v_2:List Az)(r:List Az)(h0:dU E5 Fa v_2=some r):cq Tryz.prog 94 [.stk 900000 1 (E5.map eS),.p (eI Fa),.p (eL eS v_2)] [] (λ x y=>x=.stk 2000000 1 (r.map eS)/\y=[]):=by
 unfold dU at h0;obtain ⟨Hw,h1⟩:=gX h0;obtain ⟨GX,h2⟩:=gX h1;obtain ⟨Hg,h3⟩:=gX h2
 cases h3
 obtain ⟨z,rfl⟩:∃ z,v_2=[z]:=by
  match v_2,GX with
  | [z],_=>exact ⟨z,Z⟩
 obtain ⟨i,rfl⟩:∃ i:Nat,Fa=i:=⟨Fa.toNat,by omega⟩
 have hi:i<=(E5.map eS).length:=by rw [cl]; omega
 have h:=rR zQ (by decide) (E5.map eS) i (eS z) hi (by rw [cl]; omega) (by rw [cl]; omega) (rfl);rw [vu] at h;exact h
end Go.Ab
end
section
namespace Go.Ab.R06
open Go.Proofs Go.Ab Go.Ab.RB
attribute [local irreducible] awp jc bG aB cq AV.sub M dO
def et (E5:Az):Nat->Int->(List UInt8)->Option (List UInt8)|0,_,_=>none|m+1,t37,G6=>if t37<(E5.length:Int) then ck ((0:Int)<=t37/\t37<(E5.length:Int))<|(if byt E5 t37=10 then(aU (ay.mk G6) ([92,110]:Az)).bind λ r42=>some r42.2.2.El else if byt E5 t37=13 then(aU (ay.mk G6) ([92,114]:Az)).bind λ IV=>some IV.2.2.El else if byt E5 t37=9 then(aU (ay.mk G6) ([92,116]:Az)).bind λ r48=>some r48.2.2.El else(if byt E5 t37=34 then some true else some (decide (byt E5 t37=92)) : Option Bool).bind λ t51=>if t51=true then(bS (ay.mk G6) 92).bind λ r53=>(bS (ay.mk r53.2.El) (byt E5 t37)).bind λ Ix=>some Ix.2.El else(if byt E5 t37<32 then some true else some (decide (byt E5 t37=127)) : Option Bool).bind λ t58=>if t58=true then ck (inR (byt E5 t37))<|(g0 (byt E5 t37) 16).bind λ KB=>ck (([92,117,123]:Az).length+KB.length<=9223372036854775807)<|ck ((([92,117,123]:Az)++KB).length+([125]:Az).length<=9223372036854775807)<|(aU (ay.mk G6) ((([92,117,123]:Az)++KB)++([125]:Az))).bind λ r65=>some r65.2.2.El else(bS (ay.mk G6) (byt E5 t37)).bind λ r67=>some r67.2.El : Option (List UInt8)).bind λ f69=>ck (inR (t37+1))<|et E5 m (t37+1) f69 else some G6
def gz (n:Nat)(E5:Az):Option Az :=(bS (ay.mk []) 34).bind λ r1=>(et E5 n 0 r1.2.El).bind λ f73=>(bS (ay.mk f73) 34).bind λ r74=>(dl (ay.mk r74.2.El)).bind λ r76=>some r76.1
theorem kx (n:Nat)(E5:Az)(r:Az)(h0:gz n E5=some r):aB Tryz.prog 140 [eS E5] (·=.p (eS r)):=by
 unfold gz at h0;refine aZ good Tryz.func140 Z Z Z λ w0=>mP (λ v:Az=>.p (eS v)) ?_;refine nx 6 Z (mO Z (pN Z Z Z Z Z Z Z ?_));refine nx 3 Z (bd h0 λ r1 e2 h0=>?_);refine mO Z (bh [3] [890000] 101000 101001 (cN (ay.mk []) 34 _ e2) Z Z Z Z Z ⟨sr,sr,trivial⟩ Z Z ⟨⟨_,Z,⟨sr,AV.sub_nilvec _ _ _,trivial⟩⟩,trivial⟩ Z Z Z Z Z Z Z Z Tryz.call170 Z Z ?_);refine nx 5 Z (oLs Z ?_);refine nx 3 Z (bd h0 λ o82 h1 h0=>?_);refine kE 0 o82 (λ v83=>⟨[(3,.ptr 3 0)],[(3,[.bptr 140 2 3,.vec 108000 1 (5+1) (v83.map eU)])]⟩) ?_ ?_
 ·refine nx 3 Z (bd h0 λ r74 e75 h0=>?_);refine mO Z (bh [3] [108000] 116000 116001 (cN (ay.mk o82) 34 _ e75) Z Z Z Z Z ⟨sr,sr,trivial⟩ Z Z ⟨⟨_,Z,⟨sr,sr,trivial⟩⟩,trivial⟩ Z Z Z Z Z Z Z Z Tryz.call170 Z Z ?_);refine nx 3 Z (bd h0 λ r76 e77 h0=>?_);refine mO Z (bh [3] [116000] 117000 117000 (fK (ay.mk r74.2.El) _ e77) Z Z Z Z Z ⟨sr,trivial⟩ Z Z ⟨⟨_,Z,⟨sr,sr,trivial⟩⟩,trivial⟩ Z Z Z Z Z Z Z Z Tryz.call78 Z Z ?_);exact nx 3 Z (mQ (oi h0) Z (sr))
 refine lG (λ (KG:Int×(List UInt8))=>⟨[(0,.p (eS E5)),(3,.ptr 3 0),(8,.p (eI (E5.length:Int))),(9,.p (eI KG.1))],[(3,[.bptr 140 2 3,.vec 108000 1 (5+1) (KG.2.map eU)])]⟩) (λ m (KG:Int×(List UInt8))=>et E5 m KG.1 KG.2) Y (0,r1.2.El) h1 (aT (bu 101000 108000 rfl rfl rfl rfl rfl) (gE rfl rfl)) ?_;rintro m ⟨t37,G6⟩ h1;replace h1:et E5 (m+1) t37 G6=some o82:=h1;rw [et] at h1;refine nx 5 rfl (fD [10] h1 rfl (λ c39 h1=>?_) λ c39 h1=>?_)
 ·refine nx 13 Z (oI h1 Z λ IL h1=>?_);refine nx 2 Z (bd h1 λ o85 h2 h1=>?_);refine kN o85 (λ v86=>⟨[(0,.p (eS E5)),(3,.ptr 3 0),(8,.p (eI (E5.length:Int))),(9,.p (eI t37))],[(3,[.bptr 140 2 3,.vec 115000 1 (5+1) (v86.map eU)])]⟩) ?_ ?_
  ·refine nx 2 Z (oA h1 Z Z λ Lm h1=>?_);exact nx 2 Z (eX (t37+1,o85) h1 (aT (bu 115000 108000 Z Z Z Z Z) (gE Z Z)))
  refine nx 7 Z (fD [17,19] h2 Z (λ c41 h2=>?_) λ c41 h2=>?_)
  ·refine nx 2 Z (bd h2 λ r42 e43 h2=>?_);refine mO Z (bh [3] [108000] 109000 109001 (bE (ay.mk G6) ([92,110]:Az) _ e43) Z Z Z Z Z ⟨sr,sr,trivial⟩ Z Z ⟨⟨_,Z,⟨sr,sr,trivial⟩⟩,trivial⟩ Z Z Z Z Z Z Z Z Tryz.call77 Z Z ?_);exact nx 1 Z (eX _ (oi h2).symm (aT (bu 109000 115000 Z Z Z Z Z) (gE Z Z)))
  refine nx 7 Z (fD [21,23] h2 Z (λ c44 h2=>?_) λ c44 h2=>?_)
  ·refine nx 2 Z (bd h2 λ IV e46 h2=>?_);refine mO Z (bh [3] [108000] 110000 110001 (bE (ay.mk G6) ([92,114]:Az) _ e46) Z Z Z Z Z ⟨sr,sr,trivial⟩ Z Z ⟨⟨_,Z,⟨sr,sr,trivial⟩⟩,trivial⟩ Z Z Z Z Z Z Z Z Tryz.call77 Z Z ?_);exact nx 1 Z (eX _ (oi h2).symm (aT (bu 110000 115000 Z Z Z Z Z) (gE Z Z)))
  refine nx 7 Z (fD [25,27] h2 Z (λ Ka h2=>?_) λ Ka h2=>?_)
  ·refine nx 2 Z (bd h2 λ r48 e49 h2=>?_);refine mO Z (bh [3] [108000] 111000 111001 (bE (ay.mk G6) ([92,116]:Az) _ e49) Z Z Z Z Z ⟨sr,sr,trivial⟩ Z Z ⟨⟨_,Z,⟨sr,sr,trivial⟩⟩,trivial⟩ Z Z Z Z Z Z Z Z Tryz.call77 Z Z ?_);exact nx 1 Z (eX _ (oi h2).symm (aT (bu 111000 115000 Z Z Z Z Z) (gE Z Z)))
  refine nx 2 Z (bd h2 λ KU h3 h2=>?_);refine kN KU (λ v88=>⟨[(0,.p (eS E5)),(3,.ptr 3 0),(5,.p (eK .u8 (byt E5 t37))),(8,.p (eI (E5.length:Int))),(9,.p (eI t37)),(29,.p (eB v88))],[(3,[.bptr 140 2 3,.vec 108000 1 (5+1) (G6.map eU)])]⟩) ?_ ?_
  ·refine nx 1 Z (fB [29] h2 Z (λ J' h2=>?_) λ J' h2=>?_)
   ·refine nx 3 Z (bd h2 λ r53 e54 h2=>?_);refine mO Z (bh [3] [108000] 112000 112001 (cN (ay.mk G6) 92 _ e54) Z Z Z Z Z ⟨sr,sr,trivial⟩ Z Z ⟨⟨_,Z,⟨sr,sr,trivial⟩⟩,trivial⟩ Z Z Z Z Z Z Z Z Tryz.call170 Z Z ?_);refine nx 3 Z (bd h2 λ Ix Kq h2=>?_);refine mO Z (bh [3] [112000] 113000 113001 (cN (ay.mk r53.2.El) (byt E5 t37) _ Kq) Z Z Z Z Z ⟨sr,sr,trivial⟩ Z Z ⟨⟨_,Z,⟨sr,sr,trivial⟩⟩,trivial⟩ Z Z Z Z Z Z Z Z Tryz.call170 Z Z ?_);exact nx 1 Z (eX _ (oi h2).symm (aT (bu 113000 115000 Z Z Z Z Z) (gE Z Z)))
   refine nx 2 Z (bd h2 λ o89 h3 h2=>?_);refine kN o89 (λ v90=>⟨[(0,.p (eS E5)),(3,.ptr 3 0),(5,.p (eK .u8 (byt E5 t37))),(8,.p (eI (E5.length:Int))),(9,.p (eI t37)),(39,.p (eB v90))],[(3,[.bptr 140 2 3,.vec 108000 1 (5+1) (G6.map eU)])]⟩) ?_ ?_
   ·refine nx 1 Z (fB [39] h2 Z (λ c59 h2=>?_) λ c59 h2=>?_)
    ·refine nx 3 Z (cc' h2 λ Ls h2=>?_);refine mO Z (fh Z Z Z Z Z Z Z Z (iQ Ls) ?_);refine bd h2 λ KB e62 h2=>oK (nE (byt E5 t37) 16 _ e62) Z ⟨sr,sr,trivial⟩ Tryz.call171 Z (oC h2 Z λ Lr h2=>?_);refine oC h2 Z λ Lq h2=>bd h2 λ r65 e66 h2=>mO Z (bh [3] [108000] 114000 114001 (bE (ay.mk G6) ((([92,117,123]:Az)++KB)++([125]:Az)) _ e66) Z Z Z Z Z ⟨sr,sr,trivial⟩ Z Z ⟨⟨_,Z,⟨sr,sr,trivial⟩⟩,trivial⟩ Z Z Z Z Z Z Z Z Tryz.call77 Z Z ?_);exact nx 1 Z (eX _ (oi h2).symm (aT (bu 114000 115000 Z Z Z Z Z) (gE Z Z)))
    refine nx 3 Z (bd h2 λ r67 e68 h2=>?_);refine mO Z (bh [3] [108000] 115000 115001 (cN (ay.mk G6) (byt E5 t37) _ e68) Z Z Z Z Z ⟨sr,sr,trivial⟩ Z Z ⟨⟨_,Z,⟨sr,sr,trivial⟩⟩,trivial⟩ Z Z Z Z Z Z Z Z Tryz.call170 Z Z ?_);exact nx 1 Z (eX _ (oi h2).symm (gE Z Z))
   refine nx 4 Z (fD [41,42] h3 Z (λ c57 h3=>?_) λ c57 h3=>?_)
   ·exact nx 5 Z (eX _ (oi h3).symm (gE Z Z))
   exact nx 5 Z (eX _ (oi h3).symm (gE Z Z))
  refine nx 4 Z (fD [31,32] h3 Z (λ c50 h3=>?_) λ c50 h3=>?_)
  ·exact nx 5 Z (eX _ (oi h3).symm (gE Z Z))
  exact nx 5 Z (eX _ (oi h3).symm (gE Z Z))
 exact nx 2 Z (eXi _ (oi h1).symm (gE Z Z))
def j9 (G1:Int):Option Az :=(strconv_Itoa G1).bind λ r1=>some r1
theorem pS (G1:Int)(r:Az)(h0:j9 G1=some r):aB Tryz.prog 155 [eI G1] (·=.p (eS r)):=by
 unfold j9 at h0;refine aZ good Tryz.func155 Z Z Z λ w0=>mP (λ v:Az=>.p (eS v)) ?_;refine nx 7 Z (bd h0 λ r1 e2 h0=>?_);refine oK (gH G1 _ e2) Z ⟨sr,trivial⟩ Tryz.call47 Z (nx 3 Z ?_);exact mQ (oi h0) Z (sr)
def cw (E5:Az):Nat->Int->Int->Option (Int×Int)|0,_,_=>none|m+1,n11,i12=>(if i12<(E5.length:Int) then some (decide (i12<6))else some false : Option Bool).bind λ GY=>if GY=true then ck ((0:Int)<=i12/\i12<(E5.length:Int))<|(strings_IndexByte ([48,49,50,51,52,53,54,55,56,57,97,98,99,100,101,102]:Az) (byt E5 i12)).bind λ Hd=>if Hd<0 then some (n11,i12)else ck (inR (i12+1))<|cw E5 m (IntKind.wrap .i32 ((IntKind.wrap .i32 (16*n11))+(IntKind.wrap .i32 (Hd)))) (i12+1)else some (n11,i12)
def eJ (n:Nat)(E5:Az):Option (Int×Int×Int) :=(cw E5 n 0 0).bind λ GP=>if GP.2=(E5.length:Int) then some (0,0,40)else(ck ((0:Int)<=GP.2/\GP.2<(E5.length:Int))<|if byt E5 GP.2=125 then if GP.2=0 then some true else if 1<GP.2 then ck ((0:Int)<=0/\0<(E5.length:Int))<|if byt E5 0=48 then some true else(dm GP.1).bind λ r32=>some (!r32)else(dm GP.1).bind λ IW=>some (!IW)else some true : Option Bool).bind λ t36=>if t36=true then some (0,0,2)else ck (inR (GP.2+1))<|some (GP.1,GP.2+1,0)
theorem mF (n:Nat)(E5:Az)(r:Int×Int×Int)(h0:eJ n E5=some r):aB Tryz.prog 190 [eS E5] (·=.tuple [.p (eK .i32 r.1),.p (eI r.2.1),.p (eI r.2.2)]):=by
 unfold eJ at h0;refine aZ good Tryz.func190 Z Z Z λ w0=>mP (λ v:Int×Int×Int=>.tuple [.p (eK .i32 v.1),.p (eI v.2.1),.p (eI v.2.2)]) ?_;refine nx 13 Z (bd h0 λ Js h1 h0=>?_);refine kE 0 Js (λ v43=>⟨[(0,.p (eS E5)),(5,.p (eK .i32 v43.1)),(6,.p (eI v43.2))],[]⟩) ?_ ?_
 ·refine nx 6 Z (oLs Z ?_);refine nx 2 Z (fD [32] h0 Z (λ G8 h0=>?_) λ G8 h0=>?_)
  ·exact nx 8 Z (mQ (oi h0) Z (bj ⟨sr,sr,sr,trivial⟩))
  refine nx 4 Z (bd h0 λ o44 h1 h0=>?_);refine kN o44 (λ Kv=>⟨[(5,.p (eK .i32 Js.1)),(6,.p (eI Js.2)),(54,.p (eB Kv))],[]⟩) ?_ ?_
  ·refine nx 1 Z (fB [54] h0 Z (λ c37 h0=>?_) λ c37 h0=>?_)
   ·exact nx 8 Z (mQ (oi h0) Z (bj ⟨sr,sr,sr,trivial⟩))
   refine nx 6 Z (oA h0 Z Z λ Jd h0=>?_);exact nx 5 Z (mQ (oi h0) Z (bj ⟨sr,sr,sr,trivial⟩))
  refine nx 3 Z (oI h1 Z λ Gr h1=>?_);refine nx 2 Z (fN [36,37] h1 Z (λ If h1=>?_) λ If h1=>?_)
  ·refine nx 4 Z (fD [39,40,41] h1 Z (λ Ie h1=>?_) λ Ie h1=>?_)
   ·exact nx 14 Z (eX _ (oi h1).symm (gE Z Z))
   refine nx 3 Z (fD [43,44] h1 Z (λ Jk h1=>?_) λ Jk h1=>?_)
   ·refine nx 1 Z (oI h1 Z λ H3 h1=>?_);refine nx 4 Z (fD [47,48,49,50] h1 Z (λ Jj h1=>?_) λ Jj h1=>?_)
    ·exact nx 5 Z (eX _ (oi h1).symm (gE Z Z))
    refine nx 1 Z (bd h1 λ r32 e33 h1=>?_);refine oK (iD Js.1 _ e33) Z ⟨sr,trivial⟩ Tryz.call186 Z (nx 3 Z ?_);exact eX _ (oi h1).symm (gE Z Z)
   refine nx 7 Z (bd h1 λ IW LD h1=>?_);refine oK (iD Js.1 _ LD) Z ⟨sr,trivial⟩ Tryz.call186 Z (nx 3 Z ?_);exact eX _ (oi h1).symm (gE Z Z)
  exact nx 18 Z (eX _ (oi h1).symm (gE Z Z))
 refine lG (λ (I7:Int×Int)=>⟨[(0,.p (eS E5)),(5,.p (eK .i32 I7.1)),(6,.p (eI I7.2))],[]⟩) (λ m (I7:Int×Int)=>cw E5 m I7.1 I7.2) Y (0,0) h1 (gE rfl rfl) ?_;rintro m ⟨n11,i12⟩ h1;replace h1:cw E5 (m+1) n11 i12=some Js:=h1;rw [cw] at h1;refine nx 2 rfl (bd h1 λ JM h2 h1=>?_);refine kN JM (λ Ku=>⟨[(0,.p (eS E5)),(5,.p (eK .i32 n11)),(6,.p (eI i12)),(15,.p (eB Ku))],[]⟩) ?_ ?_
 ·refine nx 1 Z (fB [15] h1 Z (λ IS h1=>?_) λ IS h1=>?_)
  ·refine nx 8 Z (oI h1 Z λ Gk h1=>?_);refine bd h1 λ Hd J7 h1=>oK (kh ([48,49,50,51,52,53,54,55,56,57,97,98,99,100,101,102]:Az) (byt E5 i12) _ J7) Z ⟨sr,sr,trivial⟩ Tryz.call141 Z (nx 8 Z ?_);refine fD [23] h1 Z (λ GI h1=>?_) λ GI h1=>?_
   ·exact nx 2 Z (eXi _ (oi h1).symm (gE Z Z))
   refine nx 12 Z (oA h1 Z Z λ FI h1=>?_);exact nx 2 Z (eX (IntKind.wrap .i32 ((IntKind.wrap .i32 (16*n11))+(IntKind.wrap .i32 (Hd))),i12+1) h1 (gE Z Z))
  exact nx 2 Z (eXi _ (oi h1).symm (gE Z Z))
 refine nx 3 Z (oLs Z ?_);refine nx 2 Z (fD [11,12] h2 Z (λ GA h2=>?_) λ GA h2=>?_)
 ·exact nx 4 Z (eX _ (oi h2).symm (gE Z Z))
 exact nx 4 Z (eX _ (oi h2).symm (gE Z Z))
def iO (n:Nat)(E5:Az):Option (Int×Int×Int) :=if E5=([]:Az) then some (0,0,40)else ck ((0:Int)<=0/\0<(E5.length:Int))<|if byt E5 0=110 then some (10,1,0)else if byt E5 0=114 then some (13,1,0)else if byt E5 0=116 then some (9,1,0)else(if byt E5 0=34 then some true else some (decide (byt E5 0=92)) : Option Bool).bind λ t7=>if t7=true then ck ((0:Int)<=0/\0<(E5.length:Int))<|some (IntKind.wrap .i32 (byt E5 0),1,0)else if byt E5 0=117 then if (E5.length:Int)=1 then some (0,0,40)else ck ((0:Int)<=1/\1<(E5.length:Int))<|if byt E5 1=123 then ck ((0:Int)<=2/\2<=(E5.length:Int)/\(E5.length:Int)<=(E5.length:Int))<|(eJ n (sub E5 2 (E5.length:Int))).bind λ GZ=>ck (inR (GZ.2.1+2))<|some (GZ.1,GZ.2.1+2,GZ.2.2)else some (0,0,2)else some (0,0,2)
theorem p8 (n:Nat)(E5:Az)(r:Int×Int×Int)(h0:iO n E5=some r):aB Tryz.prog 167 [eS E5] (·=.tuple [.p (eK .i32 r.1),.p (eI r.2.1),.p (eI r.2.2)]):=by
 unfold iO at h0;refine aZ good Tryz.func167 Z Z Z λ w0=>mP (λ v:Int×Int×Int=>.tuple [.p (eK .i32 v.1),.p (eI v.2.1),.p (eI v.2.2)]) ?_;refine nx 10 Z (oS Z Z ?_);refine nx 1 Z (fD [9] h0 Z (λ c1 h0=>?_) λ c1 h0=>?_)
 ·exact nx 8 Z (mQ (oi h0) Z (bj ⟨sr,sr,sr,trivial⟩))
 refine nx 6 Z (oI h0 Z λ GX h0=>?_);refine nx 7 Z (fD [12,13] h0 Z (λ c3 h0=>?_) λ c3 h0=>?_)
 ·exact nx 8 Z (mQ (oi h0) Z (bj ⟨sr,sr,sr,trivial⟩))
 refine nx 6 Z (fD [14,15] h0 Z (λ c4 h0=>?_) λ c4 h0=>?_)
 ·exact nx 8 Z (mQ (oi h0) Z (bj ⟨sr,sr,sr,trivial⟩))
 refine nx 6 Z (fD [16,17] h0 Z (λ c5 h0=>?_) λ c5 h0=>?_)
 ·exact nx 8 Z (mQ (oi h0) Z (bj ⟨sr,sr,sr,trivial⟩))
 refine nx 2 Z (bd h0 λ o19 h1 h0=>?_);refine kN o19 (λ v20=>⟨[(0,.p (eS E5)),(11,.p (eK .u8 (byt E5 0))),(18,.p (eB v20))],[]⟩) ?_ ?_
 ·refine nx 1 Z (fB [18] h0 Z (λ c8 h0=>?_) λ c8 h0=>?_)
  ·refine nx 4 Z (oI h0 Z λ hk9 h0=>?_);exact nx 6 Z (mQ (oi h0) Z (bj ⟨sr,sr,sr,trivial⟩))
  refine nx 6 Z (fD [24,25] h0 Z (λ GD h0=>?_) λ GD h0=>?_)
  ·refine nx 5 Z (oLs Z ?_);refine nx 2 Z (fD [28] h0 Z (λ GB h0=>?_) λ GB h0=>?_)
   ·exact nx 8 Z (mQ (oi h0) Z (bj ⟨sr,sr,sr,trivial⟩))
   refine nx 6 Z (oI h0 Z λ Gt h0=>?_);refine nx 2 Z (fN [31] h0 Z (λ GA h0=>?_) λ GA h0=>?_)
   ·refine nx 5 Z (oP h0 Z Z Z λ GG h0=>?_);refine bd h0 λ GZ J8 h0=>oK (mF _ (sub E5 2 (E5.length:Int)) _ J8) Z ⟨sr,trivial⟩ Tryz.call190 Z (nx 12 Z ?_);refine oA h0 Z Z λ IP h0=>nx 5 Z (mG (gE (t:=⟨[(2,.p (eK .i32 GZ.1)),(3,.p (eI (GZ.2.1+2))),(4,.p (eI GZ.2.2))],[]⟩) Z Z) ?_);exact nx 1 Z (mQ (oi h0) Z (bj ⟨sr,sr,sr,trivial⟩))
   exact nx 8 Z (mQ (oi h0) Z (bj ⟨sr,sr,sr,trivial⟩))
  exact nx 9 Z (mQ (oi h0) Z (bj ⟨sr,sr,sr,trivial⟩))
 refine nx 5 Z (fD [18,19] h1 Z (λ c6 h1=>?_) λ c6 h1=>?_)
 ·exact nx 2 Z (eX _ (oi h1).symm (gE Z Z))
 exact nx 5 Z (eX _ (oi h1).symm (gE Z Z))
def d8 (n:Nat)(E5:Az):Nat->Int->(List UInt8)->Option ((Int×(List UInt8))⊕(Az×Int×Int))|0,_,_=>none|m+1,at31,FF=>(if at31<(E5.length:Int) then ck ((0:Int)<=at31/\at31<(E5.length:Int))<|some (!decide (byt E5 at31=34))else some false : Option Bool).bind λ KA=>if KA=true then ck ((0:Int)<=at31/\at31<=(E5.length:Int)/\(E5.length:Int)<=(E5.length:Int))<|(cZ (sub E5 at31 (E5.length:Int))).bind λ Ik=>jn (if Ik.1=92 then ck (inR (at31+1))<|ck ((0:Int)<=at31+1/\at31+1<=(E5.length:Int)/\(E5.length:Int)<=(E5.length:Int))<|(iO n (sub E5 (at31+1) (E5.length:Int))).bind λ G'=>if G'.2.2=0 then ck (inR (G'.2.1+1))<|some (.inl (G'.1,G'.2.1+1))else some (.inr (.inr (([]:Az),0,G'.2.2)))else(if Ik.1=65533 then if Ik.2=1 then some true else if Ik.1<32 then some true else some (decide (Ik.1=127))else if Ik.1<32 then some true else some (decide (Ik.1=127)) : Option Bool).bind λ t51=>if t51=true then some (.inr (.inr (([]:Az),0,2)))else some (.inl (Ik.1,Ik.2)) : Option ((Int×Int)⊕((Int×(List UInt8))⊕(Az×Int×Int)))) λ HE=>(dp (ay.mk FF) HE.1).bind λ Ix=>ck (inR (at31+HE.2))<|d8 n E5 m (at31+HE.2) Ix.2.2.El else some (.inl (at31,FF))
def ik (n:Nat)(E5:Az):Option (Az×Int×Int) :=if E5=([]:Az) then some (([]:Az),0,40)else ck ((0:Int)<=0/\0<(E5.length:Int))<|if byt E5 0=34 then jn (d8 n E5 n 1 []) λ q69=>if q69.1=(E5.length:Int) then some (([]:Az),0,40)else(iF (ay.mk q69.2)).bind λ r63=>if 4096<r63.1 then some (([]:Az),0,3)else(dl (ay.mk r63.2.El)).bind λ r66=>ck (inR (q69.1+1))<|some (r66.1,q69.1+1,0)else some (([]:Az),0,2)
theorem pm (n:Nat)(E5:Az)(r:Az×Int×Int)(h0:ik n E5=some r):aB Tryz.prog 139 [eS E5] (·=.tuple [.p (eS r.1),.p (eI r.2.1),.p (eI r.2.2)]):=by
 unfold ik at h0;refine aZ good Tryz.func139 Z Z Z λ w0=>mP (λ v:Az×Int×Int=>.tuple [.p (eS v.1),.p (eI v.2.1),.p (eI v.2.2)]) ?_;refine nx 10 Z (oS Z Z ?_);refine nx 1 Z (fD [13] h0 Z (λ c1 h0=>?_) λ c1 h0=>?_)
 ·exact nx 8 Z (mQ (oi h0) Z (bj ⟨sr,sr,sr,trivial⟩))
 refine nx 6 Z (oI h0 Z λ GX h0=>?_);refine nx 2 Z (fN [16] h0 Z (λ c3 h0=>?_) λ c3 h0=>?_)
 ·refine nx 4 rfl (mO rfl (pN Z Z Z Z Z Z Z ?_));refine nx 7 rfl ?_;obtain ⟨o73,h1,FE,hR0⟩:=ew h0;refine kEx 0 (λ Ke:Int×(List UInt8)=>o73=.inl Ke) (λ Ke=>⟨[(0,.p (eS E5)),(5,.ptr 5 0),(6,.p (eI Ke.1))],[(5,[.bptr 140 2 5,.vec 101000 1 (5+1) (Ke.2.map eU)])]⟩) (λ Ke hv=>?_) ?_
  ·have h0:=FE _ hv;refine nx 6 Z (oLs Z ?_);refine nx 2 Z (fD [73] h0 Z (λ c62 h0=>?_) λ c62 h0=>?_)
   ·exact nx 8 Z (mQ (oi h0) Z (bj ⟨sr,sr,sr,trivial⟩))
   refine nx 5 Z (bd h0 λ r63 e64 h0=>?_);refine mO Z (bh [5] [101000] 103000 103001 (l8 (ay.mk Ke.2) _ e64) Z Z Z Z Z ⟨sr,trivial⟩ Z Z ⟨⟨_,Z,⟨sr,sr,trivial⟩⟩,trivial⟩ Z Z Z Z Z Z Z Z Tryz.call169 Z Z ?_);refine nx 2 Z (fD [75] h0 Z (λ c65 h0=>?_) λ c65 h0=>?_)
   ·exact nx 8 Z (mQ (oi h0) Z (bj ⟨sr,sr,sr,trivial⟩))
   refine nx 4 Z (bd h0 λ r66 e67 h0=>?_);refine mO Z (bh [5] [103000] 104000 104000 (fK (ay.mk r63.2.El) _ e67) Z Z Z Z Z ⟨sr,trivial⟩ Z Z ⟨⟨_,Z,⟨sr,sr,trivial⟩⟩,trivial⟩ Z Z Z Z Z Z Z Z Tryz.call78 Z Z ?_);refine nx 1 Z (oA h0 Z Z λ Lp h0=>?_);exact nx 5 Z (mQ (oi h0) Z (bj ⟨sr,sr,sr,trivial⟩))
  refine lG (λ (KH:Int×(List UInt8))=>⟨[(0,.p (eS E5)),(5,.ptr 5 0),(6,.p (eI KH.1))],[(5,[.bptr 140 2 5,.vec 101000 1 (5+1) (KH.2.map eU)])]⟩) (λ m (KH:Int×(List UInt8))=>d8 n E5 m KH.1 KH.2) Y (1,[]) h1 (cF (iB ⟨er rfl,er rfl,er rfl,trivial⟩ ⟨⟨_,rfl,⟨sr,AV.sub_nilvec _ _ _,trivial⟩⟩,trivial⟩)) ?_;rintro m ⟨at31,FF⟩ h1;replace h1:d8 n E5 (m+1) at31 FF=some o73:=h1;rw [d8] at h1;refine nx 2 rfl (bd h1 λ o76 h2 h1=>?_);refine kN o76 (λ v77=>⟨[(0,.p (eS E5)),(5,.ptr 5 0),(6,.p (eI at31)),(26,.p (eB v77))],[(5,[.bptr 140 2 5,.vec 101000 1 (5+1) (FF.map eU)])]⟩) ?_ ?_
  ·refine nx 1 Z (fB [26] h1 Z (λ Ji h1=>?_) λ Ji h1=>?_)
   ·refine nx 7 rfl (oP h1 Z Z Z λ IN h1=>?_);refine bd h1 λ Ik e39 h1=>oK (jf (sub E5 at31 (E5.length:Int)) _ e39) rfl ⟨sr,trivial⟩ Tryz.call166 rfl (nx 7 rfl ?_);obtain ⟨o78,h2,hL1,hR1⟩:=ew h1;refine kX (λ Jw:Int×Int=>o78=.inl Jw) (λ Jw=>⟨[(0,.p (eS E5)),(5,.ptr 5 0),(6,.p (eI at31)),(7,.p (eK .i32 Jw.1)),(8,.p (eI Jw.2))],[(5,[.bptr 140 2 5,.vec 101000 1 (5+1) (FF.map eU)])]⟩) (λ Jw hv=>?_) ?_
    ·have h1:=hL1 _ hv;refine nx 4 Z (bd h1 λ Ix Kq h1=>?_);refine mO Z (bh [5] [101000] 102000 102001 (ky (ay.mk FF) Jw.1 _ Kq) Z Z Z Z Z ⟨sr,sr,trivial⟩ Z Z ⟨⟨_,Z,⟨sr,sr,trivial⟩⟩,trivial⟩ Z Z Z Z Z Z Z Z Tryz.call168 Z Z ?_);refine nx 4 Z (oA h1 Z Z λ JZ h1=>?_);exact nx 2 Z (eX (at31+Jw.2,Ix.2.2.El) h1 (aT (bu 102000 101000 Z Z Z Z Z) (gE Z Z)))
    refine nx 5 Z (fD [35] h2 Z (λ c40 h2=>?_) λ c40 h2=>?_)
    ·refine nx 5 Z (oA h2 Z Z λ IK h2=>?_);refine oP h2 Z Z Z λ HV h2=>bd h2 λ G' LB h2=>oK (p8 _ (sub E5 (at31+1) (E5.length:Int)) _ LB) Z ⟨sr,trivial⟩ Tryz.call167 Z (nx 14 Z ?_);refine fN [46] h2 Z (λ c45 h2=>?_) λ c45 h2=>?_
     ·refine nx 5 Z (oA h2 Z Z λ Ja h2=>?_);exact nx 3 Z (eX _ (oi h2).symm (gE Z Z))
     refine nx 8 Z (mG (gE (t:=⟨[(2,.p (eS ([]:Az))),(3,.p (eI 0)),(4,.p (eI G'.2.2))],[]⟩) Z Z) ?_);exact nx 1 Z (mQ (hR0 _ (hR1 _ (oi h2).symm).symm) Z (bj ⟨sr,sr,sr,trivial⟩))
    refine nx 2 Z (bd h2 λ o80 h3 h2=>?_);refine kN o80 (λ v81=>⟨[(0,.p (eS E5)),(5,.ptr 5 0),(6,.p (eI at31)),(7,.p (eK .i32 Ik.1)),(8,.p (eI Ik.2)),(64,.p (eB v81))],[(5,[.bptr 140 2 5,.vec 101000 1 (5+1) (FF.map eU)])]⟩) ?_ ?_
    ·refine nx 1 Z (fB [64] h2 Z (λ J' h2=>?_) λ J' h2=>?_)
     ·exact nx 8 Z (mQ (hR0 _ (hR1 _ (oi h2).symm).symm) Z (bj ⟨sr,sr,sr,trivial⟩))
     exact nx 2 Z (eX _ (oi h2).symm (gE Z Z))
    refine nx 4 Z (fD [52,53] h3 Z (λ Ka h3=>?_) λ Ka h3=>?_)
    ·refine nx 4 Z (fD [55,56,57] h3 Z (λ LI h3=>?_) λ LI h3=>?_)
     ·exact nx 8 Z (eX _ (oi h3).symm (gE Z Z))
     refine nx 4 Z (fD [59,60,61] h3 Z (λ c49 h3=>?_) λ c49 h3=>?_)
     ·exact nx 4 Z (eX _ (oi h3).symm (gE Z Z))
     exact nx 4 Z (eX _ (oi h3).symm (gE Z Z))
    refine nx 8 Z (fD [59,60,61] h3 Z (λ c50 h3=>?_) λ c50 h3=>?_)
    ·exact nx 4 Z (eX _ (oi h3).symm (gE Z Z))
    exact nx 4 Z (eX _ (oi h3).symm (gE Z Z))
   exact nx 2 Z (eXi _ (oi h1).symm (gE Z Z))
  refine nx 3 Z (oLs Z ?_);refine nx 2 Z (fD [20,21] h2 Z (λ LJ h2=>?_) λ LJ h2=>?_)
  ·refine nx 2 Z (oI h2 Z λ HY h2=>?_);exact nx 3 Z (eX _ (oi h2).symm (gE Z Z))
  exact nx 6 Z (eX _ (oi h2).symm (gE Z Z))
 exact nx 8 Z (mQ (oi h0) Z (bj ⟨sr,sr,sr,trivial⟩))
def cz (s7:Az):Nat->Int->Option (Unit⊕Bool)|0,_=>none|m+1,Hi=>if Hi<(s7.length:Int) then(ck ((0:Int)<=Hi/\Hi<(s7.length:Int))<|if byt s7 Hi<48 then some true else ck ((0:Int)<=Hi/\Hi<(s7.length:Int))<|some (decide (57<byt s7 Hi)) : Option Bool).bind λ t21=>if t21=true then some (.inr false)else ck (inR (Hi+1))<|cz s7 m (Hi+1)else some (.inl ())
def gq (n:Nat)(E5:Az):Option Bool :=jn ((if 0<(E5.length:Int) then ck ((0:Int)<=0/\0<(E5.length:Int))<|some (decide (byt E5 0=45))else some false : Option Bool).bind λ t3=>if t3=true then ck ((0:Int)<=1/\1<=(E5.length:Int)/\(E5.length:Int)<=(E5.length:Int))<|if sub E5 1 (E5.length:Int)=([48]:Az) then some (.inr false)else some (.inl (sub E5 1 (E5.length:Int)))else some (.inl E5) : Option (Az⊕Bool)) λ s7=>jn (cz s7 n 0) λ _JD=>(if s7=([]:Az) then some false else ck ((0:Int)<=0/\0<(s7.length:Int))<|if byt s7 0=48 then some (decide ((s7.length:Int)=1))else some true : Option Bool).bind λ FQ=>some FQ
theorem nS (n:Nat)(E5:Az)(r:Bool)(h0:gq n E5=some r):aB Tryz.prog 173 [eS E5] (·=.p (eB r)):=by
 unfold gq at h0;refine aZ good Tryz.func173 Z Z Z λ w0=>mP (λ v:Bool=>.p (eB v)) ?_;refine nx 5 rfl ?_;obtain ⟨Jt,h1,FE,hR0⟩:=ew h0;refine kX (λ GO:Az=>Jt=.inl GO) (λ GO=>⟨[(0,.p (eS GO))],[]⟩) (λ GO hv=>?_) ?_
 ·have h0:=FE _ hv;refine nx 5 rfl (oLs rfl ?_);refine nx 3 rfl ?_;obtain ⟨Hv,h1,FE,hR0⟩:=ew h0;refine kEx 0 (λ v37:Unit=>Hv=.inl v37) (λ v37=>⟨[(0,.p (eS GO))],[]⟩) (λ v37 hv=>?_) ?_
  ·have h0:=FE _ hv;refine nx 2 Z (bd h0 λ IZ h1 h0=>?_);refine kN IZ (λ Is=>⟨[(2,.p (eB Is))],[]⟩) ?_ ?_
   ·exact nx 2 Z (mQ (oi h0) Z (sr))
   refine nx 2 Z (oS Z Z ?_);refine nx 1 Z (fN [33,34] h1 Z (λ G8 h1=>?_) λ G8 h1=>?_)
   ·exact nx 11 Z (eX _ (oi h1).symm (gE Z Z))
   refine nx 1 Z (oI h1 Z λ Gr h1=>?_);refine nx 2 Z (fN [37,38] h1 Z (λ If h1=>?_) λ If h1=>?_)
   ·refine nx 1 Z (oLs Z ?_);exact nx 5 Z (eX _ (oi h1).symm (gE Z Z))
   exact nx 7 Z (eX _ (oi h1).symm (gE Z Z))
  refine lG (λ (HG:Int)=>⟨[(0,.p (eS GO)),(17,.p (eI (GO.length:Int))),(18,.p (eI HG))],[]⟩) (λ m (HG:Int)=>cz GO m HG) Y 0 h1 (gE rfl rfl) ?_;rintro m Hi h1;replace h1:cz GO (m+1) Hi=some Hv:=h1;rw [cz] at h1;refine nx 5 rfl (fD [19] h1 rfl (λ G9 h1=>?_) λ G9 h1=>?_)
  ·refine nx 10 Z (bd h1 λ KX h2 h1=>?_);refine kN KX (λ Hs=>⟨[(0,.p (eS GO)),(17,.p (eI (GO.length:Int))),(18,.p (eI Hi)),(30,.p (eB Hs))],[]⟩) ?_ ?_
   ·refine nx 1 Z (fB [30] h1 Z (λ Kd h1=>?_) λ Kd h1=>?_)
    ·exact nx 6 Z (mQ (hR0 _ (oi h1).symm) Z (sr))
    refine nx 3 Z (oA h1 Z Z λ G3 h1=>?_);exact nx 2 Z (eX (Hi+1) h1 (gE Z Z))
   refine nx 3 Z (oI h2 Z λ GT h2=>?_);refine nx 2 Z (fD [24,25] h2 Z (λ GI h2=>?_) λ GI h2=>?_)
   ·exact nx 6 Z (eX _ (oi h2).symm (gE Z Z))
   refine nx 2 Z (oI h2 Z λ FI h2=>?_);exact nx 3 Z (eX _ (oi h2).symm (gE Z Z))
  exact nx 2 Z (eXi _ (oi h1).symm (gE Z Z))
 refine nx 1 Z (bd h1 λ IF h2 h1=>?_);refine kN IF (λ I2=>⟨[(0,.p (eS E5)),(11,.p (eB I2))],[]⟩) ?_ ?_
 ·refine nx 1 Z (fB [11] h1 Z (λ c4 h1=>?_) λ c4 h1=>?_)
  ·refine nx 4 Z (oP h1 Z Z Z λ J0 h1=>?_);refine nx 5 Z (oS Z Z ?_);refine nx 1 Z (fD [15] h1 Z (λ c6 h1=>?_) λ c6 h1=>?_)
   ·exact nx 6 Z (mQ (hR0 _ (oi h1).symm) Z (sr))
   exact nx 2 Z (eX _ (oi h1).symm (gE Z Z))
  exact nx 2 Z (eX _ (oi h1).symm (gE Z Z))
 refine nx 2 Z (oLs Z ?_);refine nx 2 Z (fD [6,7] h2 Z (λ c1 h2=>?_) λ c1 h2=>?_)
 ·refine nx 1 Z (oI h2 Z λ GX h2=>?_);exact nx 3 Z (eX _ (oi h2).symm (gE Z Z))
 exact nx 5 Z (eX _ (oi h2).symm (gE Z Z))
def jL (G1:Int):Option Bool :=(if (-9007199254740992)<=G1 then some (decide (G1<=9007199254740992))else some false : Option Bool).bind λ t2=>some t2
theorem qB (G1:Int)(r:Bool)(h0:jL G1=some r):aB Tryz.prog 175 [eI G1] (·=.p (eB r)):=by
 unfold jL at h0;refine aZ good Tryz.func175 Z Z Z λ w0=>mP (λ v:Bool=>.p (eB v)) ?_;refine nx 5 Z (bd h0 λ o4 h1 h0=>?_);refine kN o4 (λ v5=>⟨[(2,.p (eB v5))],[]⟩) ?_ ?_
 ·exact nx 2 Z (mQ (oi h0) Z (sr))
 refine nx 4 Z (fD [4,5] h1 Z (λ c1 h1=>?_) λ c1 h1=>?_)
 ·exact nx 5 Z (eX _ (oi h1).symm (gE Z Z))
 exact nx 5 Z (eX _ (oi h1).symm (gE Z Z))
def jJ (n:Nat)(E5:Az):Option (Int×Int) :=(gq n E5).bind λ r1=>if (!r1)=true then some (0,2)else(ix E5 10 64).bind λ r4=>(if r4.2=true then some true else(jL r4.1).bind λ r7=>some (!r7) : Option Bool).bind λ t9=>if t9=true then some (0,5)else some (r4.1,0)
theorem qJ (n:Nat)(E5:Az)(r:Int×Int)(h0:jJ n E5=some r):aB Tryz.prog 142 [eS E5] (·=.tuple [.p (eI r.1),.p (eI r.2)]):=by
 unfold jJ at h0;refine aZ good Tryz.func142 Z Z Z λ w0=>mP (λ v:Int×Int=>.tuple [.p (eI v.1),.p (eI v.2)]) ?_;refine nx 9 Z (bd h0 λ r1 e2 h0=>?_);refine oK (nS _ E5 _ e2) Z ⟨sr,trivial⟩ Tryz.call173 Z (nx 2 Z ?_);refine fB [8] h0 Z (λ c3 h0=>?_) λ c3 h0=>?_
 ·exact nx 7 Z (mQ (oi h0) Z (bj ⟨sr,sr,trivial⟩))
 refine nx 5 Z (bd h0 λ r4 e5 h0=>?_);refine oK (nT E5 10 64 _ e5) Z ⟨sr,sr,sr,trivial⟩ Tryz.call174 (yU (p9 Z (p9 (Dp _) wP))) (nx 8 Z ?_);refine bd h0 λ o12 h1 h0=>kN o12 (λ v13=>⟨[(4,.p (eI r4.1)),(20,.p (eB v13))],[]⟩) ?_ ?_
 ·refine nx 1 Z (fB [20] h0 Z (λ GD h0=>?_) λ GD h0=>?_)
  ·exact nx 7 Z (mQ (oi h0) Z (bj ⟨sr,sr,trivial⟩))
  exact nx 9 Z (mQ (oi h0) Z (bj ⟨sr,sr,trivial⟩))
 refine nx 2 Z (mO Z (DD Z Z Z Z Z Z (.inr ⟨Z,Z⟩) ?_));refine nx 1 Z (fB [15,16] h1 Z (λ c6 h1=>?_) λ c6 h1=>?_)
 ·exact nx 5 Z (eX _ (oi h1).symm (gE Z Z))
 refine nx 1 Z (bd h1 λ r7 e8 h1=>?_);refine oK (qB r4.1 _ e8) Z ⟨sr,trivial⟩ Tryz.call175 Z (nx 3 Z ?_);exact eX _ (oi h1).symm (gE Z Z)
end Go.Ab.R06
end
section
namespace Go.Ab.R06
open Go.Ab Go.Ab.RB
section
variable {α β:Type} {P:α->Prop}
theorem av {g:Nat->Nat->Option β}{k:Nat->Nat->β->Option α}(x:β)(h:Ev2 g (·=x))(hk:Ev2 (λ n m=>k n m x) P):Ev2 (λ n m=>(g n m).bind (k n m)) P :=
 aI (·=x) h λ y hy=>by subst hy; exact hk
end
def wB (b:UInt8):Bool:=(decide (97<=b.toNat)&&decide (b.toNat<=122))||(decide (65<=b.toNat)&&decide (b.toNat<=90))||decide (b.toNat=95)
def nF (b:UInt8):Bool:=decide (48<=b.toNat)&&decide (b.toNat<=57)
def idB (b:UInt8):Bool:=wB b||nF b
def nc:Az->Bool|[]=>false|b::r=>decide ((b::r).length<=64)&&wB b&&r.all idB
def vl (s:Az)(i:Nat):Bool:=wB (s.getD i 0)||(decide (i≠0)&&nF (s.getD i 0))
def kq (p:Nat->Bool):Nat->Nat->Bool|_,0=>true|i,k+1=>p i&&kq p (i+1) k
theorem se (p:Nat->Bool):∀ (k i:Nat),kq p i k=true↔∀ j,i<=j->j<i+k->p j=true
 | 0,i=>by simp [kq]; intro j h1 h2; omega
 | k+1,i=>by
  rw [kq,th,se p k (i+1)];constructor
  ·rintro ⟨h1,h2⟩ j h3 h4;by_cases e:j=i
   ·rw [e]; exact h1
   ·exact h2 j O O
  ·intro h;exact ⟨h i O O,λ j h1 h2=>h j O O⟩
theorem or32:(List.range 256).all (λ n=>(decide ((97:Int)<=iOr .u8 (n:Int) 32)&&decide (iOr .u8 (n:Int) 32<=122))==((decide (97<=n)&&decide (n<=122))||(decide (65<=n)&&decide (n<=90))))=true:=by kernel_rfl
theorem Dl (b:UInt8):(97<=iOr .u8 ((b.toNat:Nat):Int) 32/\iOr .u8 ((b.toNat:Nat):Int) 32<=122)↔((97<=b.toNat/\b.toNat<=122)\/(65<=b.toNat/\b.toNat<=90)):=by
 have h:=ur.1 or32 b.toNat (List.mem_range.2 b.toNat_lt);have h:=eq_of_beq h;rw [Bool.eq_iff_iff] at h;simpa using h
theorem vo (b:UInt8):wB b=true↔(97<=b.toNat/\b.toNat<=122)\/(65<=b.toNat/\b.toNat<=90)\/b.toNat=95:=by
 simp [wB,or_assoc]
theorem rK (b:UInt8):nF b=true↔48<=b.toNat/\b.toNat<=57:=by simp [nF]
theorem eqB {a b:Bool}(h:a=true↔b=true):a=b:=Bool.eq_iff_iff.2 h
theorem pb (s:Az)(i:Nat):vl s i=true↔wB (s.getD i 0)=true\/(i≠0/\nF (s.getD i 0)=true):=by simp [vl]
theorem w7 (s:Az):nc s=true↔s≠[]/\s.length<=64/\kq (vl s) 0 s.length=true:=by
 rw [se]
 cases s with
 | nil=>simp [nc]
 | cons b r=>
  simp only [nc,th,decide_eq_true_eq,ur];constructor
  ·rintro ⟨⟨h1,h2⟩,h3⟩;refine ⟨by simp,h1,λ j _ hj=>?_⟩;rw [pb]
   cases j with
   | zero=>exact .inl h2
   | succ j=>
    have hm:r.getD j 0∈r:=by
     rw [List.getD_eq_getElem?_getD,List.getElem?_eq_getElem (by simp at hj; omega)];exact List.getElem_mem _
    have:=h3 _ hm;simp only [idB,Bool.or_eq_true] at this;rcases this with h|h
    ·exact .inl h
    ·exact .inr ⟨by omega,h⟩
  ·rintro ⟨_,h1,h2⟩;refine ⟨⟨h1,?_⟩,λ x hx=>?_⟩
   ·have:=(pb _ _).1 (h2 0 O G);simpa using this
   ·obtain ⟨j,hj,rfl⟩:=List.getElem_of_mem hx;have:=(pb _ _).1 (h2 (j+1) O (by simp; omega));rw [show (b::r).getD (j+1) 0=r[j] by simp [hj]] at this;simp only [idB,Bool.or_eq_true];rcases this with h|h
    ·exact .inl h
    ·exact .inr h.2
end Go.Ab.R06
namespace Go.Ab.R06
open Go.Ab Go.Ab.RB Go.Lib
def lW (acc:Nat)(l:Az):Nat:=l.foldl (λ a b=>a*10+(b.toNat-48)) acc
theorem vQ (a:Nat):lW a []=a:=rfl
theorem tb (a:Nat)(b:UInt8)(l:Az):lW a (b::l)=lW (a*10+(b.toNat-48)) l:=by simp only [lW,List.foldl_cons]
theorem yj:∀ (l:Az) (a:Nat),a<=lW a l
 | [],a=>Nat.le_of_eq (vQ a).symm
 | b::r,a=>by
  rw [tb];have:=yj r (a*10+(b.toNat-48));generalize lW (a*10+(b.toNat-48)) r=v at this ⊢;omega
theorem xI {l:Az}(h:l.all nF=true){b:UInt8}(hb:b∈l):48<=b.toNat/\b.toNat<=57:=(rK b).1 (ur.1 h b hb)
theorem zC:∀ (l:Az) (acc:Nat),l.all nF=true->(lW acc l<=18446744073709551615->parseUintM 18446744073709551615 acc l=.ok (lW acc l))/\(18446744073709551615<lW acc l->acc<=18446744073709551615->parseUintM 18446744073709551615 acc l=.range)
 | [],acc,_=>by
  rw [vQ];exact ⟨λ _=>rfl,λ h h'=>by omega⟩
 | b::r,acc,h=>by
  have hb:=xI h List.mem_cons_self;have hr:r.all nF=true:=by simp only [List.all_cons,th] at h; exact h.2
  rw [parseUintM,if_pos hb,tb];have hg:=yj r (acc*10+(b.toNat-48));have ih:=zC r (acc*10+(b.toNat-48)) hr;generalize lW (acc*10+(b.toNat-48)) r=v at hg ih ⊢;by_cases h1:1844674407370955162<=acc
  ·rw [if_pos h1];exact ⟨λ h2=>by omega,λ _ _=>rfl⟩
  ·rw [if_neg h1];by_cases h2:18446744073709551615<acc*10+(b.toNat-48)
   ·rw [if_pos h2];exact ⟨λ h3=>by omega,λ _ _=>rfl⟩
   ·rw [if_neg h2];exact ⟨ih.1,λ h3 _=>ih.2 h3 O⟩
theorem CY (l:Az)(Fo:l≠[])(h:l.all nF=true):parseUintB 64 l=if lW 0 l<=18446744073709551615 then .ok (lW 0 l) else .range:=by
 rw [parseUintB,if_neg Fo];show parseUintM (2^64-1) 0 l=_;rw [show (2^64-1:Nat)=18446744073709551615 from rfl];have:=zC l 0 h;generalize lW 0 l=v at this ⊢;by_cases q:v<=18446744073709551615
 ·rw [if_pos q]; exact this.1 q
 ·rw [if_neg q]; exact this.2 O O
def xg (l:Az):Bool:=!l.isEmpty&&l.all nF&&(decide (l.getD 0 0≠48)||decide (l.length=1))
theorem vg (l:Az):xg l=true↔l≠[]/\l.all nF=true/\(l.getD 0 0≠48\/l.length=1):=by
 simp [xg,and_assoc]
def pz (s:Az):Bool:=decide (0<s.length)&&decide (s.getD 0 0=45)
def digits (s:Az):Az:=if pz s=true then s.drop 1 else s
def rG (s:Az):Bool:=!(pz s&&decide (s.drop 1=[48]))&&xg (digits s)
def pO (s:Az):Int:=if pz s=true then -(lW 0 (digits s):Int) else (lW 0 (digits s):Int)
def kM:Int:=9007199254740992
def va (s:Az):Int×Int:=if rG s=true then (if -kM<=pO s/\pO s<=kM then (pO s,0) else (0,5)) else (0,2)
theorem Bh (s:Az)(hs:s.length<=1000000000):∀ (k i:Nat),i+k=s.length->Ev2 (λ _ m=>cz s m (i:Int)) (·=if kq (λ j=>nF (s.getD j 0)) i k then .inl () else .inr false):=by
 intro k
 induction k with
 | zero=>
  intro i hi;refine bO ?_;simp only [cz];refine aM O (ac rfl)
 | succ k ih=>
  intro i hi;refine bO ?_;simp only [cz];refine aO O ?_;have hb:byt s i=((s.getD i 0).toNat:Int):=iA s i;rw [hb];refine av (!nF (s.getD i 0)) ?_ ?_
  ·have h:=rK (s.getD i 0);generalize s.getD i 0=b at h ⊢;refine am O (al (λ h1=>ac ?_) (λ h1=>am O (ac ?_)))
   ·have:nF b=false:=by rw [<- Bool.not_eq_true,h]; omega
    simp [this]
   ·refine eqB ?_;rw [decide_eq_true_eq,Bool.not_eq_true',<- Bool.not_eq_true,h];omega
  ·cases hk:nF (s.getD i 0) with
   | false=>exact aO Z (ac (by simp only [kq,hk,Bool.false_and]; rfl))
   | true=>
    refine aM G (am (aN O O) ?_);have:=ih (i+1) O;rw [Int.natCast_add,Int.natCast_one] at this;simp only [kq,hk,Bool.true_and];exact this
theorem AB (s:Az)(p:UInt8->Bool):kq (λ j=>p (s.getD j 0)) 0 s.length=s.all p:=by
 refine eqB ?_;rw [se,ur];constructor
 ·intro h x hx;obtain ⟨j,hj,rfl⟩:=List.getElem_of_mem hx;have:=h j O O;simpa [hj] using this
 ·intro h j _ hj;have hj:j<s.length:=by omega
  have:=h s[j] (List.getElem_mem hj);simpa [hj] using this
theorem uK (s:Az)(hs:s.length<=1000000000):Ev2 (λ n _=>gq n s) (·=rG s):=by
 simp only [gq];have hb:byt s 0=((s.getD 0 0).toNat:Int):=iA s 0;have hneg:pz s=true↔0<s.length/\s.getD 0 0=45:=by simp [pz]
 have h45:(s.getD 0 0).toNat=45↔s.getD 0 0=45:=⟨λ h=>UInt8.toNat_inj.1 h,λ h=>by rw [h]; rfl⟩
 have body:∀ t:Az,t.length<=1000000000->Ev2 (λ n m=>jn (cz t n 0) λ JD=>
   ((if t=([]:Az) then some false else ck ((0:Int)<=0/\0<(t.length:Int))<|if byt t 0=48 then some (decide ((t.length:Int)=1)) else some true):Option Bool).bind λ FQ=>some FQ) (·=xg t):=by
  intro t ht;have l:=Bh t ht t.length 0 O;rw [AB] at l;have hc:=vg t;have hb':byt t 0=((t.getD 0 0).toNat:Int):=iA t 0;have h48:(t.getD 0 0).toNat=48↔t.getD 0 0=48:=⟨λ h=>UInt8.toNat_inj.1 h,λ h=>by rw [h]; rfl⟩
  cases ha:t.all nF with
  | false=>
   rw [ha] at l hc;refine pQ false (bw l) (eqB ?_);rw [hc]; simp
  | true=>
   rw [ha] at l hc;refine pw () (bw l) (aI (·=xg t) ?_ (λ x hx=>ac hx));refine al (λ h=>ac (eqB ?_)) (λ h=>am ?_ ?_)
   ·rw [hc]; simp [h]
   ·have:=List.length_pos_iff.2 h; omega
   ·rw [hb'];refine al (λ h1=>ac (eqB ?_)) (λ h1=>ac (eqB ?_))
    ·have h2:=h48.1 O;rw [hc,decide_eq_true_eq];constructor
     ·intro q; exact ⟨h,by simp,.inr O⟩
     ·rintro ⟨_,_,q|q⟩
      ·exact absurd h2 q
      ·omega
    ·rw [hc]; simp only [true_iff];exact ⟨h,by simp,.inl λ q=>h1 (by have:=h48.2 q; omega)⟩
 refine jw (av (pz s) ?_ ?_)
 ·refine al (λ h=>am O (ac (eqB ?_))) (λ h=>ac (eqB ?_))
  ·rw [hneg,hb,decide_eq_true_eq];constructor
   ·intro q; exact ⟨by omega,h45.1 O⟩
   ·rintro ⟨_,q⟩; have:=h45.2 q; omega
  ·rw [hneg];constructor
   ·intro q; cases q
   ·rintro ⟨q,_⟩; omega
 ·rw [ko];show Ev2 (λ n m=>if pz s=true then ck _ (if s.drop 1=[48] then some (Sum.inr false) else some (Sum.inl (s.drop 1))) else some (Sum.inl s)) _;refine al (λ h=>am ?_ (al (λ h1=>ac ?_) (λ h1=>ac ?_))) (λ h=>ac ?_)
  ·have:=hneg.1 h; omega
  ·simp [rG,h,h1]
  ·have e:rG s=xg (s.drop 1):=by unfold rG digits; rw [if_pos h,decide_eq_false h1]; simp
   rw [e];exact body _ (by simp; omega)
  ·have e:rG s=xg s:=by simp [rG,h,digits]
   rw [e];exact body _ hs
theorem De (v:Int):jL v=some (decide (-kM<=v/\v<=kM)):=by
 simp only [jL];by_cases h:(-9007199254740992:Int)<=v
 ·rw [if_pos h];by_cases h2:v<=9007199254740992
  ·simp [h2,kM,h]
  ·simp [h2,kM]
 ·rw [if_neg h,Option.bind_some];refine congrArg some (eqB ?_);rw [decide_eq_true_eq]; unfold kM;constructor
  ·intro q; cases q
  ·intro q; exact absurd q.1 h
theorem u6 {s:Az}(h:rG s=true):digits s≠[]/\(digits s).all nF=true:=by
 simp only [rG,th] at h;have:=(vg _).1 h.2;exact ⟨this.1,this.2.1⟩
theorem Dc (s:Az)(h:rG s=true):parseIntB 64 s=if (if pz s=true then 9223372036854775808<lW 0 (digits s) else 9223372036854775808<=lW 0 (digits s)) then .range else .ok (pO s):=by
 obtain ⟨h1,h2⟩:=u6 h
 cases s with
 | nil=>exact absurd (by simp [digits,pz]) h1
 | cons c r=>
  have LA:c.toNat=45↔c=45:=⟨λ h=>UInt8.toNat_inj.1 h,λ h=>by rw [h]; rfl⟩
  have hneg:pz (c::r)=decide (c=45):=by simp [pz]
  have hd:(if c.toNat=43\/c.toNat=45 then r else c::r)=digits (c::r):=by
   unfold digits;rw [hneg];by_cases q:c=45
   ·rw [if_pos (.inr (LA.2 q)),if_pos (by simp [q])]; rfl
   ·have e:digits (c::r)=c::r:=by unfold digits; rw [hneg,if_neg (by simp [q])]
    have e2:(if decide (c=45)=true then List.drop 1 (c::r) else c::r)=c::r:=if_neg (by simp [q]);rw [e2,if_neg];rintro (k|k)
    ·rw [e] at h2;have:=xI h2 List.mem_cons_self;omega
    ·exact q (LA.1 k)
  have hp:=CY _ h1 h2;unfold parseIntB;simp only [hd,hp];rw [hneg];unfold pO;rw [hneg];generalize lW 0 (digits (c::r))=v;by_cases q:c=45
  ·subst q;by_cases hv:v<=18446744073709551615
   ·simp only [hv,if_true];by_cases hw:9223372036854775808<v
    ·simp [hw]
    ·simp [hw]
   ·simp only [hv,if_false];rw [if_pos]; simp; omega
  ·have q':¬ c.toNat=45:=λ k=>q (LA.1 k);by_cases hv:v<=18446744073709551615
   ·simp only [hv,if_true];by_cases hw:9223372036854775808<=v
    ·simp [q,q',hw]
    ·simp [q,q',hw]
   ·simp only [hv,if_false];rw [if_pos]; simp [q]; omega
theorem vT (s:Az)(hs:s.length<=1000000000):Ev2 (λ n _=>jJ n s) (·=va s):=by
 simp only [jJ];refine av _ (uK s hs) ?_
 cases hc:rG s with
 | false=>exact aO Z (ac (by simp [va,hc]))
 | true=>
  refine aM G ?_
  have hp:ix s 10 64=some (match parseIntB 64 s with|.ok v=>(v,false)|.range=>(intSat 64 s,true)|_=>(0,true)):=by
   unfold ix;exact bY ⟨Z,Z,by omega⟩
  rw [Dc s hc] at hp;have e:va s=(if -kM<=pO s/\pO s<=kM then (pO s,0) else (0,5)):=by simp [va,hc]
  rw [e];by_cases hr:(if pz s=true then 9223372036854775808<lW 0 (digits s) else 9223372036854775808<=lW 0 (digits s))
  ·rw [if_pos hr] at hp;refine av _ (bs hp rfl) ?_;refine av true (aO rfl (ac rfl)) (aO rfl (ac ?_));rw [if_neg];unfold pO kM
   cases hn:pz s with
   | true=>rw [hn,if_pos rfl] at hr; rw [if_pos rfl]; omega
   | false=>rw [hn,if_neg G] at hr; rw [if_neg G]; omega
  ·rw [if_neg hr] at hp;refine av _ (bs hp rfl) ?_;refine av (!decide (-kM<=pO s/\pO s<=kM)) ?_ ?_
   ·exact aM G (av _ (bs (De _) Z) (ac Z))
   ·by_cases q:-kM<=pO s/\pO s<=kM
    ·rw [if_pos q];exact aM (by simp [q]) (ac rfl)
    ·rw [if_neg q];exact aO (by simp only [q,decide_false,Bool.not_false]) (ac rfl)
end Go.Ab.R06
namespace Go.Ab.R06
open Go.Ab Go.Ab.RB Go.Lib
theorem vn (x:Int):IntKind.wrap .u8 x=x%256:=by simp [IntKind.wrap,IntKind.bits,IntKind.signed]
theorem wrap32 (x:Int):IntKind.wrap .u32 x=x%4294967296:=by simp [IntKind.wrap,IntKind.bits,IntKind.signed]
theorem shr6 (x:Int):fj .i32 x 6=x / 64:=by
 show x.fdiv (2^6)=x / 64;rw [Int.fdiv_eq_ediv_of_nonneg _ (by decide)]; rfl
theorem D2 (x:Int):fj .i32 x 12=x / 4096:=by
 show x.fdiv (2^12)=x / 4096;rw [Int.fdiv_eq_ediv_of_nonneg _ (by decide)]; rfl
theorem D6 (x:Int):fj .i32 x 18=x / 262144:=by
 show x.fdiv (2^18)=x / 262144;rw [Int.fdiv_eq_ediv_of_nonneg _ (by decide)]; rfl
theorem t63:(List.range 256).all (λ n=>cE .u8 (n:Int) 63==((n%64:Nat):Int))=true:=by kernel_rfl
theorem t128:(List.range 64).all (λ n=>iOr .u8 128 (n:Int)==((128+n:Nat):Int))=true:=by kernel_rfl
theorem t192:(List.range 32).all (λ n=>iOr .u8 192 (n:Int)==((192+n:Nat):Int))=true:=by kernel_rfl
theorem t224:(List.range 16).all (λ n=>iOr .u8 224 (n:Int)==((224+n:Nat):Int))=true:=by kernel_rfl
theorem t240:(List.range 8).all (λ n=>iOr .u8 240 (n:Int)==((240+n:Nat):Int))=true:=by kernel_rfl
theorem tab {f g:Nat->Int}{m:Nat}(h:(List.range m).all (λ n=>f n==g n)=true)(n:Nat)(hn:n<m):f n=g n:=eq_of_beq (ur.1 h n (List.mem_range.2 hn))
theorem zI (x:Int):cE .u8 (IntKind.wrap .u8 x) 63=x%64:=by
 rw [vn];obtain ⟨n,hn⟩:∃ n:Nat,x%256=n:=⟨(x%256).toNat,by omega⟩
 rw [hn,tab t63 n O]; omega
theorem Bb {x:Int}(h0:0<=x)(h1:x<64):iOr .u8 128 x=128+x:=by
 obtain ⟨n,rfl⟩:∃ n:Nat,x=n:=⟨x.toNat,by omega⟩
 rw [tab t128 n O]; omega
theorem Ee {x:Int}(h0:0<=x)(h1:x<32):iOr .u8 192 x=192+x:=by
 obtain ⟨n,rfl⟩:∃ n:Nat,x=n:=⟨x.toNat,by omega⟩
 rw [tab t192 n O]; omega
theorem D3 {x:Int}(h0:0<=x)(h1:x<16):iOr .u8 224 x=224+x:=by
 obtain ⟨n,rfl⟩:∃ n:Nat,x=n:=⟨x.toNat,by omega⟩
 rw [tab t224 n O]; omega
theorem D5 {x:Int}(h0:0<=x)(h1:x<8):iOr .u8 240 x=240+x:=by
 obtain ⟨n,rfl⟩:∃ n:Nat,x=n:=⟨x.toNat,by omega⟩
 rw [tab t240 n O]; omega
def gY (r:Int):Prop:=(0<=r/\r<55296)\/(57343<r/\r<=1114111)
theorem uP (p:Az)(r:Int)(h:gY r)(hp:p.length<=100000000000):dQ p r=some (p++encodeRune r):=by
 have h0:0<=r/\r<=1114111:=by unfold gY at h; omega
 have hw:IntKind.wrap .u32 r=r:=by rw [wrap32]; omega
 unfold dQ;rw [hw];by_cases h1:r<=127
 ·have hw8:IntKind.wrap .u8 r=r:=by rw [vn]; omega
  rw [if_pos h1,hw8,bY O,bY (by simp; omega)];simp only [encodeRune,encodeRuneZ,if_pos (show 0<=r/\r<=127 from ⟨h0.1,h1⟩),n6,ph,u8]
 rw [if_neg h1];unfold cX;rw [hw,zI,shr6,D2,D6,zI,zI];have o1:iOr .u8 128 (r%64)=128+r%64:=Bb O O;have o2:iOr .u8 128 (r / 64%64)=128+r / 64%64:=Bb O O;have o3:iOr .u8 128 (r / 4096%64)=128+r / 4096%64:=Bb O O;rw [o1,o2,o3];have n1:¬ (0<=r/\r<=127):=by omega
 by_cases h2:r<=2047
 ·have hw8:IntKind.wrap .u8 (r / 64)=r / 64:=by rw [vn]; omega
  rw [if_pos h2,hw8,Ee O O,bY O,bY O,bY O,bY (by simp; omega)];simp only [encodeRune,encodeRuneZ,if_neg n1,if_pos (show 128<=r/\r<=2047 by omega),n6,ph,u8,Option.bind_some]
 rw [if_neg h2];have n2:¬ (128<=r/\r<=2047):=by omega
 by_cases h3:r<55296\/(57343<r/\r<=65535)
 ·have hw8:IntKind.wrap .u8 (r / 4096)=r / 4096:=by rw [vn]; omega
  have e:((if r<55296 then some true else if 57343<r then some (decide (r<=65535)) else some false):Option Bool)=some true:=by
   rcases h3 with q|q
   ·rw [if_pos q]
   ·rw [if_neg O,if_pos q.1]; simp [q.2]
  rw [e,Option.bind_some,if_pos rfl,hw8,D3 O O,bY O,bY O,bY O,bY O,bY O,bY (by simp; omega)];simp only [encodeRune,encodeRuneZ,if_neg n1,if_neg n2,if_pos (show (2048<=r/\r<55296)\/(57343<r/\r<=65535) by omega),n6,ph,u8,Option.bind_some]
 ·have h4:65535<r:=by unfold gY at h; omega
  have hw8:IntKind.wrap .u8 (r / 262144)=r / 262144:=by rw [vn]; omega
  have e:((if r<55296 then some true else if 57343<r then some (decide (r<=65535)) else some false):Option Bool)=some false:=by
   rw [if_neg O,if_pos O]; simp; omega
  have e2:((if 65535<r then some (decide (r<=1114111)) else some false):Option Bool)=some true:=by rw [if_pos h4]; simp; omega
  rw [e,Option.bind_some,if_neg G,e2,Option.bind_some,if_pos rfl,hw8,D5 O O,bY O,bY O,bY O,bY O,bY O,bY O,bY O,bY (by simp; omega)];simp only [encodeRune,encodeRuneZ,if_neg n1,if_neg n2,if_neg (show ¬ ((2048<=r/\r<55296)\/(57343<r/\r<=65535)) by omega),if_pos (show 65536<=r/\r<=1114111 by omega),n6,ph,u8,Option.bind_some]
theorem ci (l:Az)(h:l≠[]):decodeGo (str l)=decodeL l:=by
 unfold decodeGo;rw [if_neg]
 ·rfl
 ·rw [iN]; intro q; exact h (List.length_eq_zero_iff.1 q)
theorem nQ (r:Int)(_h:gY r):1<=(encodeRune r).length/\(encodeRune r).length<=4:=by
 unfold encodeRune encodeRuneZ;rw [cl]
 repeat' split
 all_goals simp
theorem BS (r:Int)(h:gY r)(t:Az):decodeL (encodeRune r++t)=(r.toNat,(encodeRune r).length):=by
 have h0:0<=r/\r<=1114111:=by unfold gY at h; omega
 have hb:∀ x:Int,0<=x->x<256->(x.toNat.toUInt8).toNat=x.toNat:=λ x a b=>by
  show (UInt8.ofNat x.toNat).toNat=_;rw [UInt8.toNat_ofNat']; omega
 rw [decodeL_N];by_cases h1:r<=127
 ·have e:encodeRune r=[r.toNat.toUInt8]:=by simp only [encodeRune,encodeRuneZ,if_pos (show 0<=r/\r<=127 from ⟨h0.1,h1⟩),n6,ph]
  rw [e];have b0:=hb r O O;simp only [List.cons_append,List.getD_cons_zero,b0];unfold decodeN;rw [if_pos O]; rfl
 have n1:¬ (0<=r/\r<=127):=by omega
 by_cases h2:r<=2047
 ·have e:encodeRune r=[(192+r / 64).toNat.toUInt8,(128+r%64).toNat.toUInt8]:=by
   simp only [encodeRune,encodeRuneZ,if_neg n1,if_pos (show 128<=r/\r<=2047 by omega),n6,ph]
  rw [e];have b0:=hb (192+r / 64) O O;have b1:=hb (128+r%64) O O;simp only [List.cons_append,List.getD_cons_zero,List.getD_cons_succ,b0,b1,bt,List.nil_append];unfold decodeN;rw [if_neg O,if_pos O,if_pos O];refine Prod.ext ?_ rfl;show _=r.toNat;simp only; omega
 have n2:¬ (128<=r/\r<=2047):=by omega
 by_cases h3:r<55296\/(57343<r/\r<=65535)
 ·have e:encodeRune r=[(224+r / 4096).toNat.toUInt8,(128+r / 64%64).toNat.toUInt8,(128+r%64).toNat.toUInt8]:=by
   simp only [encodeRune,encodeRuneZ,if_neg n1,if_neg n2,if_pos (show (2048<=r/\r<55296)\/(57343<r/\r<=65535) by omega),n6,ph]
  rw [e];have b0:=hb (224+r / 4096) O O;have b1:=hb (128+r / 64%64) O O;have b2:=hb (128+r%64) O O;simp only [List.cons_append,List.getD_cons_zero,List.getD_cons_succ,b0,b1,b2,bt,List.nil_append];unfold decodeN;rw [if_neg O,if_neg O,if_pos O,if_pos O];refine Prod.ext ?_ rfl;show _=r.toNat;simp only; omega
 ·have h4:65535<r:=by unfold gY at h; omega
  have e:encodeRune r=[(240+r / 262144).toNat.toUInt8,(128+r / 4096%64).toNat.toUInt8,(128+r / 64%64).toNat.toUInt8,(128+r%64).toNat.toUInt8]:=by
   simp only [encodeRune,encodeRuneZ,if_neg n1,if_neg n2,if_neg (show ¬ ((2048<=r/\r<55296)\/(57343<r/\r<=65535)) by omega),if_pos (show 65536<=r/\r<=1114111 by omega),n6,ph]
  rw [e];have b0:=hb (240+r / 262144) O O;have b1:=hb (128+r / 4096%64) O O;have b2:=hb (128+r / 64%64) O O;have b3:=hb (128+r%64) O O;simp only [List.cons_append,List.getD_cons_zero,List.getD_cons_succ,b0,b1,b2,b3,bt,List.nil_append];unfold decodeN;rw [if_neg O,if_neg O,if_neg O,if_pos O,if_pos O];refine Prod.ext ?_ rfl;show _=r.toNat;simp only; omega
theorem ta (r:Int)(h:gY r)(t:Az):validD (encodeRune r++t)=validD t:=by
 have hl:=nQ r h
 have Fo:encodeRune r++t≠[]:=by
  intro q; rw [List.append_eq_nil_iff] at q; rw [q.1] at hl; simp at hl
 rw [validD_step _ Fo,BS r h t,if_neg]
 ·simp
 ·rintro ⟨a,b⟩;have hr:r=65533:=by omega
  subst hr;simp [encodeRune,encodeRuneZ] at b
theorem pR (l:Az)(h:l≠[]):1<=(decodeL l).2/\(decodeL l).2<=l.length/\(¬ ((decodeL l).1=65533/\(decodeL l).2=1)->gY ((decodeL l).1:Int)/\encodeRune ((decodeL l).1:Int)=l.take (decodeL l).2):=by
 have hl:0<l.length:=List.length_pos_iff.2 h;have hd:=decN l.length (l.getD 0 0).toNat (l.getD 1 0).toNat (l.getD 2 0).toNat (l.getD 3 0).toNat O (UInt8.toNat_lt _);rw [<- decodeL_N] at hd;refine ⟨hd.1,hd.2.1,λ q=>⟨?_,encode_decode l h q⟩⟩;have:=hd.2.2.2.2.2;unfold gY; omega
theorem wc (l:Az)(h:l≠[]):validD l=true↔¬ ((decodeL l).1=65533/\(decodeL l).2=1)/\validD (l.drop (decodeL l).2)=true:=by
 rw [validD_step l h];by_cases q:(decodeL l).1=65533/\(decodeL l).2=1
 ·simp [q]
 ·simp [q]
end Go.Ab.R06
namespace Go.Ab.R06
open Go.Ab Go.Ab.RB Go.Lib
theorem sF (f x:Az)(h:f.length+x.length<=100000000000):aU (ay.mk f) x=some ((x.length:Int),false,ay.mk (f++x)):=by
 unfold aU cp;rw [Option.bind_some,bY (by simp only; omega)]
theorem uS (f:Az)(b:UInt8)(h:f.length<=100000000000):bS (ay.mk f) (b.toNat:Int)=some (false,ay.mk (f++[b])):=by
 have:=b.toNat_lt;unfold bS cp;rw [Option.bind_some,bY O,bY (by simp; omega),CV]
theorem CE (f:Az)(r:Int)(hr:gY r)(h:f.length<=10000000000):dp (ay.mk f) r=some (((encodeRune r).length:Int),false,ay.mk (f++encodeRune r)):=by
 have hl:=nQ r hr;unfold dp cp;rw [Option.bind_some,uP f r hr O,Option.bind_some];have e:((f++encodeRune r).length:Int)-(f.length:Int)=(encodeRune r).length:=by rw [aq]; omega
 rw [e,bY (aN O O)]
theorem C8 (f:Az)(h:f.length<=1000000000000):dl (ay.mk f)=some (f,ay.mk f):=by
 unfold dl;rw [bY (by simp only; omega)]
def lD (b:UInt8):Az :=if b.toNat=10 then [92,110] else if b.toNat=13 then [92,114] else if b.toNat=9 then [92,116] else if b.toNat=34\/b.toNat=92 then [92,b] else if b.toNat<32\/b.toNat=127 then [92,117,123]++g6 b.toNat++[125] else [b]
def mR (s:Az):Az:=34::(s.flatMap lD++[34])
theorem D1 {b:UInt8}(h:b.toNat=10):lD b=[92,110]:=by unfold lD; rw [if_pos h]
theorem DL {b:UInt8}(h:b.toNat=13):lD b=[92,114]:=by unfold lD; rw [if_neg O,if_pos h]
theorem DW {b:UInt8}(h:b.toNat=9):lD b=[92,116]:=by unfold lD; rw [if_neg O,if_neg O,if_pos h]
theorem Ea {b:UInt8}(h:b.toNat=34\/b.toNat=92):lD b=[92,b]:=by unfold lD; rw [if_neg O,if_neg O,if_neg O,if_pos h]
theorem DN {b:UInt8}(h1:b.toNat≠10)(h2:b.toNat≠13)(h3:b.toNat≠9)(h:b.toNat<32\/b.toNat=127):lD b=[92,117,123]++g6 b.toNat++[125]:=by
 unfold lD; rw [if_neg h1,if_neg h2,if_neg h3,if_neg O,if_pos h]
theorem Ec {b:UInt8}(h1:b.toNat≠34)(h2:b.toNat≠92)(h:¬ (b.toNat<32\/b.toNat=127)):lD b=[b]:=by
 unfold lD; rw [if_neg O,if_neg O,if_neg O,if_neg O,if_neg h]
theorem qw (n:Nat):1<=(g6 n).length/\(g6 n).length<=2:=by
 unfold g6; split <;> simp
theorem vO (b:UInt8):1<=(lD b).length/\(lD b).length<=6:=by
 have:=qw b.toNat;unfold lD
 repeat' split
 all_goals (simp; try omega)
theorem uO (s:Az):s.length<=(s.flatMap lD).length/\(s.flatMap lD).length<=6*s.length:=by
 induction s with
 | nil=>simp
 | cons b r ih=>have:=vO b; simp only [List.flatMap_cons,aq,bt]; omega
theorem zZ (s:Az)(hs:s.length<=1000000000):∀ (k i:Nat) (f:Az),i+k=s.length->f.length<=6*i+1->Ev2 (λ _ m=>et s m (i:Int) f) (·=f++(s.drop i).flatMap lD):=by
 intro k
 induction k with
 | zero=>
  intro i f hi hf;refine bO ?_;simp only [et];refine aM O (ac ?_);rw [List.drop_of_length_le O]; simp
 | succ k ih=>
  intro i f hi hf;refine bO ?_;simp only [et];refine aO O (am O ?_);have hb:byt s i=((s.getD i 0).toNat:Int):=iA s i;rw [hb]
  have hd:s.drop i=s.getD i 0::s.drop (i+1):=by
   rw [List.getD_eq_getElem?_getD,List.getElem?_eq_getElem O,ro];exact List.drop_eq_getElem_cons O
  rw [hd,List.flatMap_cons];generalize s.getD i 0=b;have hbl:=b.toNat_lt;have he:=vO b;refine av (f++lD b) ?_ ?_
  ·refine al (λ h1=>?_) (λ h1=>al (λ h2=>?_) (λ h2=>al (λ h3=>?_) (λ h3=>?_)))
   ·rw [D1 O];exact av _ (bs (sF f [92,110] (by simp only [bt,d4]; omega)) rfl) (ac rfl)
   ·rw [DL O];exact av _ (bs (sF f [92,114] (by simp only [bt,d4]; omega)) rfl) (ac rfl)
   ·rw [DW O];exact av _ (bs (sF f [92,116] (by simp only [bt,d4]; omega)) rfl) (ac rfl)
   refine av (decide (b.toNat=34\/b.toNat=92)) ?_ ?_
   ·by_cases h:b.toNat=34
    ·exact aO O (ac (by simp [h]))
    ·exact aM O (ac (eqB (by rw [decide_eq_true_eq,decide_eq_true_eq]; omega)))
   by_cases h4:b.toNat=34\/b.toNat=92
   ·rw [Ea h4];refine aO (by simp [h4]) ?_;refine av _ (bs (uS f 92 O) rfl) (av _ (bs (uS (f++[92]) b (by simp only [aq,bt,d4]; omega)) rfl) (ac ?_));simp
   refine aM (by simp only [decide_eq_true_eq]; exact h4) ?_;refine av (decide (b.toNat<32\/b.toNat=127)) ?_ ?_
   ·by_cases h:b.toNat<32
    ·exact aO O (ac (by simp [h]))
    ·exact aM O (ac (eqB (by rw [decide_eq_true_eq,decide_eq_true_eq]; omega)))
   by_cases h5:b.toNat<32\/b.toNat=127
   ·rw [DN O O O h5];refine aO (by simp [h5]) (am (aN O O) ?_)
    have hx:g0 (b.toNat:Int) 16=some (g6 b.toNat):=by
     unfold g0;rw [bY ⟨Z,by omega,by omega⟩]; rfl
    have hxl:=qw b.toNat;refine av _ (bs hx Z) (am (by simp only [bt,d4]; omega) (am (by simp only [aq,bt,d4]; omega) ?_));exact av _ (bs (sF f _ (by simp only [aq,bt,d4]; omega)) Z) (ac G)
   ·rw [Ec O O  h5];refine aM (by simp only [decide_eq_true_eq]; exact h5) ?_;exact av _ (bs (uS f b O) rfl) (ac rfl)
  ·refine am (aN O O) ?_;have:=ih (i+1) (f++lD b) O (by rw [aq]; omega);rw [Int.natCast_add,Int.natCast_one] at this;simpa using this
theorem o0 (s:Az)(hs:s.length<=1000000000):Ev2 (λ n _=>gz n s) (·=mR s):=by
 simp only [gz];have hf:=uO s;refine av _ (bs (uS [] 34 G) rfl) ?_;have l:=zZ s hs s.length 0 [34] O G;rw [List.drop_zero] at l;refine av _ (bw l) ?_;refine av _ (bs (uS _ 34 (by simp only [aq,bt,d4]; omega)) rfl) (av _ (bs (C8 _ (by simp only [aq,bt,d4]; omega)) rfl) (ac ?_));simp [mR]
end Go.Ab.R06
namespace Go.Ab.R06
open Go.Ab Go.Ab.RB Go.Lib
def v7 (b:UInt8):Option Nat:=if 48<=b.toNat/\b.toNat<=57 then some (b.toNat-48) else if 97<=b.toNat/\b.toNat<=102 then some (b.toNat-87) else none
def C0:Az:=[48,49,50,51,52,53,54,55,56,57,97,98,99,100,101,102]
theorem hexT:(List.range 256).all (λ n=>indexByte C0 (UInt8.ofNat n)==(match v7 (UInt8.ofNat n) with|some d=>(d:Int)|none=>-1))=true:=by kernel_rfl
theorem yE (b:UInt8):indexByte C0 b=match v7 b with|some d=>(d:Int)|none=>-1:=by
 have:=eq_of_beq (ur.1 hexT b.toNat (List.mem_range.2 b.toNat_lt));simpa using this
theorem Bw {b:UInt8}{d:Nat}(h:v7 b=some d):d<16:=by
 unfold v7 at h;split at h
 ·cases h; omega
 ·split at h
  ·cases h; omega
  ·cases h
def jB:Nat->Az->Nat->Nat×Nat
 | 0,_,a=>(a,0)
 | _+1,[],a=>(a,0)
 | k+1,b::r,a=>match v7 b with
  | some d=>((jB k r (16*a+d)).1,(jB k r (16*a+d)).2+1)
  | none=>(a,0)
theorem pF:∀ (k:Nat) (l:Az) (a:Nat),(jB k l a).2<=k/\(jB k l a).2<=l.length
 | 0,_,_=>⟨mv _,Nat.zero_le _⟩
 | _+1,[],_=>⟨Nat.zero_le _,mv _⟩
 | k+1,b::r,a=>by
  unfold jB
  cases v7 b with
  | none=>exact ⟨Nat.zero_le _,Nat.zero_le _⟩
  | some d=>have:=pF k r (16*a+d); simp only [bt]; omega
theorem nP (n:Int)(h0:0<=n)(h1:n<2147483648):IntKind.wrap .i32 n=n:=by
 simp [IntKind.wrap,IntKind.bits,IntKind.signed];omega
theorem Dq (s:Az)(_hs:s.length<=1000000000):∀ (k i a:Nat),i+k=6->i<=s.length->a<16^i->Ev2 (λ _ m=>cw s m (a:Int) (i:Int))
  (·=(((jB k (s.drop i) a).1:Int),((i+(jB k (s.drop i) a).2:Nat):Int))):=by
 intro k
 induction k with
 | zero=>
  intro i a hi hl ha;refine bO ?_;simp only [cw];refine av false ?_ (aM G (ac (by simp [jB])));exact al (λ h=>ac (by simp; omega)) (λ h=>ac rfl)
 | succ k ih=>
  intro i a hi hl ha;refine bO ?_;simp only [cw];by_cases h:i<s.length
  ·refine av true (aO O (ac (by simp; omega))) (aO Z (am O ?_));have hb:byt s i=((s.getD i 0).toNat:Int):=iA s i;rw [hb]
   have hd:s.drop i=s.getD i 0::s.drop (i+1):=by
    rw [List.getD_eq_getElem?_getD,List.getElem?_eq_getElem h,ro];exact List.drop_eq_getElem_cons h
   rw [hd];generalize s.getD i 0=b
   have hx:strings_IndexByte ([48,49,50,51,52,53,54,55,56,57,97,98,99,100,101,102]:Az) (b.toNat:Int)=some (indexByte C0 b):=by
    unfold strings_IndexByte;have:((b.toNat:Int).toNat.toUInt8)=b:=by simp
    rw [this]; rfl
   refine av _ (bs hx Z) ?_;rw [yE];unfold jB
   cases hh:v7 b with
   | none=>exact aO (by decide) (ac G)
   | some d=>
    have hlt:=Bw hh;have hp:16^i<=16^5:=Nat.pow_le_pow_right (by decide) O;have hp5:(16:Nat)^5=1048576:=rfl;refine aM G (am (aN O O) ?_);have e1:IntKind.wrap .i32 (16*(a:Int))=16*(a:Int):=nP _ O O;have e2:IntKind.wrap .i32 (d:Int)=(d:Int):=nP _ O O
    have e3:IntKind.wrap .i32 (16*(a:Int)+(d:Int))=((16*a+d:Nat):Int):=by
     rw [nP _ O O]; omega
    rw [e1,e2,e3];have:=ih (i+1) (16*a+d) O O  (by rw [Nat.pow_succ]; omega);rw [show (((i+1:Nat)):Int)=(i:Int)+1 by omega] at this;refine fe this λ r hr=>?_;rw [hr];refine Prod.ext rfl ?_;show ((i+1+_:Nat):Int)=((i+(_+1):Nat):Int);omega
  ·refine av false (aM O (ac Z)) (aM G (ac ?_));rw [List.drop_of_length_le O];simp [jB]
def kK (s:Az):Int×Int×Int :=
 let h:=jB 6 s 0
 if h.2=s.length then (0,0,40)
 else if s.getD h.2 0≠125\/h.2=0\/(1<h.2/\s.getD 0 0=48)\/validRune (h.1:Int)=false then (0,0,2)
 else ((h.1:Int),((h.2+1:Nat):Int),0)
theorem x9 {b:UInt8}{n:Nat}(hn:n<256):b.toNat=n↔b=UInt8.ofNat n:=by
 constructor
 ·intro h; apply UInt8.toNat_inj.1; rw [h,UInt8.toNat_ofNat']; omega
 ·intro h; rw [h,UInt8.toNat_ofNat']; omega
theorem Bz {s:Az}{v c:Nat}(h:jB 6 s 0=(v,c)):kK s=if c=s.length then (0,0,40) else if s.getD c 0≠125\/c=0\/(1<c/\s.getD 0 0=48)\/validRune (v:Int)=false then (0,0,2) else ((v:Int),((c+1:Nat):Int),0):=by
 unfold kK; rw [h]
theorem BK (s:Az)(hs:s.length<=1000000000):Ev2 (λ n _=>eJ n s) (·=kK s):=by
 simp only [eJ];have l:=Dq s hs 6 0 0 rfl (Nat.zero_le _) (by decide);rw [List.drop_zero,qr] at l;have hle:=pF 6 s 0;refine av _ (bw l) ?_;obtain ⟨v,c,hh⟩:∃ v c,jB 6 s 0=(v,c):=⟨_,_,rfl⟩
 have hP:=Bz hh;rw [hh] at hle ⊢;simp only at hle ⊢;refine al (λ h=>ac ?_) (λ h=>?_)
 ·rw [hP,if_pos O]
 rw [if_neg (show ¬ c=s.length by omega)] at hP;have hb:byt s c=((s.getD c 0).toNat:Int):=iA s c;have hb0:byt s 0=((s.getD 0 0).toNat:Int):=iA s 0;have h125:(s.getD c 0).toNat=125↔s.getD c 0=125:=x9 (by decide);have h48:(s.getD 0 0).toNat=48↔s.getD 0 0=48:=x9 (by decide);have hv:dm (v:Int)=some (validRune (v:Int)):=rfl
 have key:Ev2 (λ _ _=>(ck ((0:Int)<=(c:Int)/\(c:Int)<(s.length:Int)) <|
  if byt s c=125 then
   if (c:Int)=0 then some true
   else
   if 1<(c:Int) then
    ck ((0:Int)<=0/\0<(s.length:Int)) <|
    if byt s 0=48 then some true
    else (dm (v:Int)).bind λ r32=>some (!r32)
   else (dm (v:Int)).bind λ IW=>some (!IW)
  else some true:Option Bool)) (·=decide (s.getD c 0≠125\/c=0\/(1<c/\s.getD 0 0=48)\/validRune (v:Int)=false)):=by
  refine am O ?_;rw [hb,hb0];refine al (λ h1=>al (λ h2=>ac ?_) (λ h2=>al (λ h3=>am O (al (λ h4=>ac ?_) (λ h4=>?_))) (λ h3=>?_))) (λ h1=>ac ?_)
  ·symm; rw [decide_eq_true_eq]; right; left; omega
  ·symm; rw [decide_eq_true_eq]; right; right; left; exact ⟨by omega,h48.1 O⟩
  ·have q1:¬ s.getD c 0≠125:=λ q=>q (h125.1 O);have q2:¬ (1<c/\s.getD 0 0=48):=λ q=>h4 (by have:=h48.2 q.2; omega);refine av _ (bs hv Z) (ac (eqB ?_));rw [decide_eq_true_eq];have:¬ c=0:=by omega
   simp only [q1,q2,false_or,this,Bool.not_eq_true']
  ·have q1:¬ s.getD c 0≠125:=λ q=>q (h125.1 O);refine av _ (bs hv Z) (ac (eqB ?_));rw [decide_eq_true_eq];have a1:¬ c=0:=by omega
   have a2:¬ 1<c:=by omega
   simp only [q1,a1,a2,false_or,false_and,Bool.not_eq_true']
  ·symm; rw [decide_eq_true_eq]; left; intro q; exact h1 (by have:=h125.2 q; omega)
 refine av _ key ?_;refine al (λ h1=>ac ?_) (λ h1=>am (aN O O) (ac ?_))
 ·rw [hP,if_pos (of_decide_eq_true h1)]
 ·rw [hP,if_neg (λ q=>h1 (decide_eq_true q))];refine Prod.ext rfl (Prod.ext ?_ rfl);show (c:Int)+1=((c+1:Nat):Int);omega
def kU (s:Az):Int×Int×Int:=match s with
 | []=>(0,0,40)
 | b::r=>if b.toNat=110 then (10,1,0) else if b.toNat=114 then (13,1,0) else if b.toNat=116 then (9,1,0)
  else if b.toNat=34\/b.toNat=92 then ((b.toNat:Int),1,0)
  else if b.toNat=117 then (match r with
   | []=>(0,0,40)
   | c::t=>if c.toNat=123 then ((kK t).1,(kK t).2.1+2,(kK t).2.2) else (0,0,2))
  else (0,0,2)
theorem yI (b:UInt8)(r:Az):kU (b::r)=if b.toNat=110 then (10,1,0) else if b.toNat=114 then (13,1,0) else if b.toNat=116 then (9,1,0)
  else if b.toNat=34\/b.toNat=92 then ((b.toNat:Int),1,0)
  else if b.toNat=117 then (match r with
   | []=>(0,0,40)
   | c::t=>if c.toNat=123 then ((kK t).1,(kK t).2.1+2,(kK t).2.2) else (0,0,2))
  else (0,0,2):=rfl
theorem xH (s:Az):0<=(kK s).2.1/\(kK s).2.1<=s.length/\((kK s).2.2=0->gY (kK s).1)/\0<=(kK s).2.2:=by
 have hle:=pF 6 s 0;unfold kK;generalize jB 6 s 0=h at hle ⊢;obtain ⟨v,c⟩:=h;simp only at hle ⊢;split
 ·simp <;> omega
 ·split
  ·simp <;> omega
  ·rename_i h1 h2;refine ⟨by simp only; omega,by simp only; omega,λ _=>?_,by simp⟩
   have:validRune (v:Int)=true:=by
    cases hv:validRune (v:Int) with
    | true=>rfl
    | false=>exact absurd (.inr (.inr (.inr hv))) h2
   simp only [validRune,decide_eq_true_eq] at this;unfold gY; simp only; omega
theorem xU (s:Az):0<=(kU s).2.1/\(kU s).2.1<=s.length+1/\((kU s).2.2=0->gY (kU s).1/\(kU s).2.1<=s.length)/\0<=(kU s).2.2:=by
 unfold kU;split
 ·simp
 ·rename_i b r;have hb:=b.toNat_lt;split
  ·simp [gY] <;> omega
  split
  ·simp [gY] <;> omega
  split
  ·simp [gY] <;> omega
  split
  ·simp [gY] <;> omega
  split
  ·split
   ·simp
   ·rename_i c t;have:=xH t;split
    ·refine ⟨by simp only; omega,by simp only [bt]; omega,λ q=>⟨this.2.2.1 q,by simp only [bt]; omega⟩,this.2.2.2⟩
    ·simp <;> omega
  ·simp <;> omega
theorem Cb (s:Az)(hs:s.length<=1000000000):Ev2 (λ n _=>iO n s) (·=kU s):=by
 simp only [iO]
 cases s with
 | nil=>exact aO Z (ac Z)
 | cons b r=>
  have hl:((b::r).length:Int)=(r.length:Int)+1:=by simp
  refine aM G (am O ?_);have hb:byt (b::r) 0=(b.toNat:Int):=rfl;have hbl:=b.toNat_lt;rw [hb];have hP:=yI b r;refine al (λ h=>ac (by rw [hP,if_pos O])) (λ h1=>?_);rw [if_neg (show ¬ b.toNat=110 by omega)] at hP;refine al (λ h=>ac (by rw [hP,if_pos O])) (λ h2=>?_);rw [if_neg (show ¬ b.toNat=114 by omega)] at hP;refine al (λ h=>ac (by rw [hP,if_pos O])) (λ h3=>?_);rw [if_neg (show ¬ b.toNat=116 by omega)] at hP;refine av (decide (b.toNat=34\/b.toNat=92)) ?_ ?_
  ·by_cases h:b.toNat=34
   ·exact aO O (ac (by simp [h]))
   ·exact aM O (ac (eqB (by rw [decide_eq_true_eq,decide_eq_true_eq]; omega)))
  by_cases h4:b.toNat=34\/b.toNat=92
  ·rw [if_pos h4] at hP;rw [hP];refine aO (by simp [h4]) (am O (ac ?_));rw [nP _ O O]
  rw [if_neg h4] at hP;refine aM (by simp only [decide_eq_true_eq]; exact h4) ?_;refine al (λ h5=>?_) (λ h5=>ac (by rw [hP,if_neg O]));rw [if_pos (show b.toNat=117 by omega)] at hP;rw [hP]
  cases r with
  | nil=>exact aO G (ac Z)
  | cons c t=>
   have hl2:((b::c::t).length:Int)=(t.length:Int)+2:=by simp <;> omega
   refine aM O (am O ?_);have hc:byt (b::c::t) 1=(c.toNat:Int):=rfl;rw [hc];refine al (λ h6=>am O ?_) (λ h6=>ac (by show _=if c.toNat=123 then _ else _; rw [if_neg O]));have e6:(if c.toNat=123 then ((kK t).1,(kK t).2.1+2,(kK t).2.2) else ((0,0,2):Int×Int×Int))=((kK t).1,(kK t).2.1+2,(kK t).2.2):=if_pos O;show Ev2 _ (·=if c.toNat=123 then ((kK t).1,(kK t).2.1+2,(kK t).2.2) else ((0,0,2):Int×Int×Int));rw [e6,ko];show Ev2 (λ n m=>(eJ n t).bind _) _;have hle:=xH t;have htl:t.length<=1000000000:=by simp at hs; omega
   exact av _ (BK t htl) (am (aN O O) (ac Z))
end Go.Ab.R06
namespace Go.Ab.R06
open Go.Ab Go.Ab.RB Go.Lib
def wT (c:Nat×Nat):Prop:=(c.1=65533/\c.2=1)\/c.1<32\/c.1=127
instance (c:Nat×Nat):Decidable (wT c):=inferInstanceAs (Decidable (_\/_))
def nG:Nat->Az->Nat->Az->(Int×Az)⊕(Az×Int×Int)|0,_,at',acc=>.inl ((at':Int),acc)|_+1,[],at',acc=>.inl ((at':Int),acc)|n+1,b::r,at',acc=>if b.toNat=34 then .inl ((at':Int),acc)else if (decodeL (b::r)).1=92 then(if (kU r).2.2=0 then nG n (r.drop (kU r).2.1.toNat) (at'+((kU r).2.1.toNat+1)) (acc++encodeRune (kU r).1) else .inr ([],0,(kU r).2.2))else if wT (decodeL (b::r)) then .inr ([],0,2)else nG n ((b::r).drop (decodeL (b::r)).2) (at'+(decodeL (b::r)).2) (acc++encodeRune ((decodeL (b::r)).1:Int))
theorem tf (n:Nat)(b:UInt8)(r:Az)(at':Nat)(acc:Az):nG (n+1) (b::r) at' acc=if b.toNat=34 then .inl ((at':Int),acc)
  else if (decodeL (b::r)).1=92 then
   (if (kU r).2.2=0 then nG n (r.drop (kU r).2.1.toNat) (at'+((kU r).2.1.toNat+1)) (acc++encodeRune (kU r).1) else .inr ([],0,(kU r).2.2))
  else if wT (decodeL (b::r)) then .inr ([],0,2)
  else nG n ((b::r).drop (decodeL (b::r)).2) (at'+(decodeL (b::r)).2) (acc++encodeRune ((decodeL (b::r)).1:Int)):=by rw [nG]
theorem CS (s:Az)(hs:s.length<=1000000000):∀ (k:Nat) (l:Az) (i:Nat) (f:Az),l.length<k->s.drop i=l->i+l.length=s.length->f.length<=4*i->Ev2 (λ n m=>d8 n s m (i:Int) f) (·=nG k l i f):=by
 intro k
 induction k with
 | zero=>intro l i f h; omega
 | succ k ih=>
  intro l i f hk hl hi hf;refine bO ?_;simp only [d8]
  cases l with
  | nil=>
   simp only [d4] at hi;refine av false (aM O (ac rfl)) (aM G (ac ?_));rw [nG]
  | cons b r=>
   have hil:i<s.length:=by simp only [bt] at hi; omega
   have hb:byt s i=(b.toNat:Int):=by
    rw [iA]
    have:s.getD i 0=b:=by
     have:=List.drop_eq_getElem_cons hil;rw [hl] at this;rw [List.getD_eq_getElem?_getD,List.getElem?_eq_getElem hil];exact (List.cons.inj this).1.symm
    rw [this]
   have hr:s.drop (i+1)=r:=by
    have:=List.drop_eq_getElem_cons hil;rw [hl] at this;exact (List.cons.inj this).2.symm
   have hlr:r.length+i+1=s.length:=by simp only [bt] at hi; omega
   have hU:=tf k b r i f;rw [hb];by_cases h34:b.toNat=34
   ·rw [if_pos h34] at hU;exact av false (aO O (am O (ac (by simp; omega)))) (aM G (ac hU.symm))
   rw [if_neg h34] at hU;refine av true (aO O (am O (ac (by simp; omega)))) (aO rfl (am O ?_));rw [ko,Int.toNat_natCast,hl]
   have hd:cZ (b::r)=some (((decodeL (b::r)).1:Int),((decodeL (b::r)).2:Int)):=by
    unfold cZ;rw [ci _ G]
   refine av _ (bs hd rfl) ?_;have hdf:=pR (b::r) G;generalize hD:decodeL (b::r)=D at hU hdf ⊢;obtain ⟨c,w⟩:=D;simp only at hU hdf ⊢;by_cases h92:c=92
   ·rw [if_pos h92] at hU;have hes:=xU r;have Fe:=Cb r O
    have sub1:sub s ((i:Int)+1) (s.length:Int)=r:=by
     rw [ko,show ((i:Int)+1).toNat=i+1 by omega,hr]
    generalize kU r=E at hU hes Fe;obtain ⟨x,y,z⟩:=E;simp only at hU hes Fe;by_cases hz:z=0
    ·rw [if_pos hz] at hU;refine jw (aO O (am (aN O O) (am O ?_)));rw [sub1];obtain ⟨e1,e2⟩:=hes.2.2.1 hz;obtain ⟨y',rfl⟩:∃ y':Nat,y=y':=⟨y.toNat,by omega⟩
     rw [Int.toNat_natCast] at hU;refine av _ Fe (aO hz (am (aN (by dsimp only; omega) (by dsimp only; omega)) (ac ?_)));refine av _ (bs (CE f x e1 O) rfl) (am (aN (by dsimp only; omega) (by dsimp only; omega)) ?_);have hle:=nQ x e1;have:=ih (r.drop y') (i+(y'+1)) (f++encodeRune x) (by rw [List.length_drop]; simp only [bt] at hk; omega) (by rw [<- hr,List.drop_drop]; congr 1; omega) (by rw [List.length_drop]; omega) (by rw [aq]; omega);rw [<- hU] at this;rw [show ((i+(y'+1):Nat):Int)=(i:Int)+((y':Int)+1) by omega] at this;exact this
    ·rw [if_neg hz] at hU;refine jw (aO O (am (aN O O) (am O ?_)));rw [sub1];refine av _ Fe (aM hz (ac ?_));exact hU.symm
   ·rw [if_neg h92] at hU
    have hbad:Ev2 (λ _ _=>(if (c:Int)=65533 then if (w:Int)=1 then some true else if (c:Int)<32 then some true else some (decide ((c:Int)=127)) else if (c:Int)<32 then some true else some (decide ((c:Int)=127)):Option Bool)) (·=decide (wT (c,w))):=by
     refine al (λ h1=>al (λ h2=>ac ?_) (λ h2=>al (λ h3=>ac ?_) (λ h3=>ac (eqB ?_)))) (λ h1=>al (λ h3=>ac ?_) (λ h3=>ac (eqB ?_)))
     ·symm; rw [decide_eq_true_eq]; left; simp only; omega
     ·symm; rw [decide_eq_true_eq]; right; left; simp only; omega
     ·rw [decide_eq_true_eq,decide_eq_true_eq]; unfold wT; simp only; omega
     ·symm; rw [decide_eq_true_eq]; right; left; simp only; omega
     ·rw [decide_eq_true_eq,decide_eq_true_eq]; unfold wT; simp only; omega
    by_cases hbd:wT (c,w)
    ·rw [if_pos hbd] at hU;refine jw (aM O (av _ hbad (aO (by simp only [decide_eq_true_eq]; exact hbd) (ac ?_))));exact hU.symm
    ·rw [if_neg hbd] at hU;refine jw (aM O (av _ hbad (aM (by simp only [decide_eq_true_eq]; exact hbd) (ac ?_))));have hgood:=hdf.2.2 (λ q=>hbd (.inl q));refine av _ (bs (CE f c hgood.1 O) rfl) (am (aN (by simp only [bt] at hdf; omega) (by simp only [bt] at hdf; omega)) ?_);have hle:=nQ c hgood.1;have hw:w<=r.length+1:=by simpa using hdf.2.1
     have hw1:=hdf.1;have:=ih ((b::r).drop w) (i+w) (f++encodeRune (c:Int)) (by rw [List.length_drop]; simp only [bt] at hk ⊢; omega) (by rw [<- hl,List.drop_drop]) (by rw [List.length_drop]; simp only [bt]; omega) (by rw [aq]; omega);rw [<- hU] at this;rw [show ((i+w:Nat):Int)=(i:Int)+(w:Int) by omega] at this;exact this
def oo:Az->Az×Int×Int
 | []=>([],0,40)
 | b::r=>if b.toNat=34 then (match nG (r.length+1) r 1 [] with
   | .inl q=>if q.1=((r.length+1:Nat):Int) then ([],0,40) else if 4096<q.2.length then ([],0,3) else (q.2,q.1+1,0)
   | .inr e=>e)
  else ([],0,2)
theorem tX (b:UInt8)(r:Az):oo (b::r)=if b.toNat=34 then (match nG (r.length+1) r 1 [] with
   | .inl q=>if q.1=((r.length+1:Nat):Int) then ([],0,40) else if 4096<q.2.length then ([],0,3) else (q.2,q.1+1,0)
   | .inr e=>e)
  else ([],0,2):=rfl
theorem ye:∀ (k:Nat) (l:Az) (i:Nat) (f:Az),(∀ a g,nG k l i f=.inl (a,g)->(i:Int)<=a/\a<=((i+l.length:Nat):Int)/\g.length<=f.length+4*l.length/\((∀ t,validD (f++t)=validD t)->∀ t,validD (g++t)=validD t))/\(∀ x,nG k l i f=.inr x->x.1=[]/\x.2.1=0/\x.2.2≠0):=by
 intro k
 induction k with
 | zero=>
  intro l i f;refine ⟨λ a g h=>?_,λ x h=>(by rw [nG] at h; cases h)⟩;rw [nG] at h; cases h;exact ⟨by omega,by omega,by omega,λ q=>q⟩
 | succ k ih=>
  intro l i f
  cases l with
  | nil=>
   refine ⟨λ a g h=>?_,λ x h=>(by rw [nG] at h; cases h)⟩;rw [nG] at h; cases h;exact ⟨by omega,by simp,by simp,λ q=>q⟩
  | cons b r=>
   rw [tf];have hdf:=pR (b::r) G;have hes:=xU r;split
   ·refine ⟨λ a g h=>?_,λ x h=>(by cases h)⟩
    cases h
    exact ⟨by omega,by simp only [bt]; omega,by omega,λ q=>q⟩
   split
   ·split
    ·rename_i hz;obtain ⟨e1,e2⟩:=hes.2.2.1 hz;have hle:=nQ _ e1;have hi:=ih (r.drop (kU r).2.1.toNat) (i+((kU r).2.1.toNat+1)) (f++encodeRune (kU r).1);refine ⟨λ a g h=>?_,hi.2⟩;have:=hi.1 a g h;rw [List.length_drop,aq] at this;refine ⟨by omega,by simp only [bt]; omega,by simp only [bt]; omega,λ q=>this.2.2.2 λ t=>?_⟩;rw [List.append_assoc,q,ta _ e1]
    ·rename_i hz;refine ⟨λ a g h=>(by cases h),λ x h=>?_⟩
     cases h
     exact ⟨Z,Z,hz⟩
   split
   ·refine ⟨λ a g h=>(by cases h),λ x h=>?_⟩
    cases h
    exact ⟨Z,Z,by decide⟩
   ·rename_i hbd;have hgood:=hdf.2.2 (λ q=>hbd (.inl q));have hle:=nQ _ hgood.1;have hi:=ih ((b::r).drop (decodeL (b::r)).2) (i+(decodeL (b::r)).2) (f++encodeRune ((decodeL (b::r)).1:Int));refine ⟨λ a g h=>?_,hi.2⟩;have:=hi.1 a g h;rw [List.length_drop,aq] at this;simp only [bt] at this hdf ⊢;refine ⟨by omega,by omega,by omega,λ q=>this.2.2.2 λ t=>?_⟩;rw [List.append_assoc,q,ta _ hgood.1]
theorem DG (s:Az)(hs:s.length<=1000000000):Ev2 (λ n _=>ik n s) (·=oo s):=by
 simp only [ik]
 cases s with
 | nil=>exact aO Z (ac Z)
 | cons b r=>
  have hl:((b::r).length:Int)=(r.length:Int)+1:=by simp
  have hln:(b::r).length=r.length+1:=by simp
  refine aM G (am O ?_);have hb:byt (b::r) 0=(b.toNat:Int):=rfl;rw [hb];rw [tX];refine al (λ h=>?_) (λ h=>ac (by rw [if_neg (show ¬ b.toNat=34 by omega)]));have l:=CS (b::r) hs (r.length+1) r 1 [] O rfl O G;have hle:=ye (r.length+1) r 1 [];have IQ:b.toNat=34:=by omega
  simp only [IQ,if_true];generalize nG (r.length+1) r 1 []=U at l hle ⊢
  cases U with
  | inr e=>exact pQ e (bw l) Z
  | inl q=>
   obtain ⟨a,g⟩:=q;have hq:=hle.1 a g rfl;simp only [d4,qr] at hq;refine pw (a,g) (bw l) ?_;refine al (λ h=>ac (by simp only at h ⊢; rw [if_pos O])) (λ h=>?_);simp only at h ⊢;rw [if_neg O];refine av _ (bs Z Z) (al (λ h1=>ac (by simp only at h1; rw [if_pos O])) (λ h1=>?_));simp only at h1;rw [if_neg O];refine av _ (bs (C8 g O) rfl) (am (aN O O) (ac rfl))
theorem BD (s:Az):0<=(oo s).2.1/\(oo s).2.1<=s.length/\((oo s).2.2≠0->(oo s).1=[]/\(oo s).2.1=0)/\(oo s).1.length<=4096:=by
 cases s with
 | nil=>exact ⟨Int.le_refl _,Int.le_refl _,λ _=>⟨Z,Z⟩,Nat.zero_le _⟩
 | cons b r=>
  rw [tX];split
  ·have hle:=ye (r.length+1) r 1 [];split
   ·rename_i q hq;obtain ⟨a,g⟩:=q;have hg:=hle.1 a g hq;simp only;split
    ·simp; omega
    ·split
     ·simp; omega
     ·rename_i h1 h2;simp only [bt] at *;exact ⟨by omega,by omega,λ q=>absurd rfl q,by omega⟩
   ·rename_i e he;have:=hle.2 _ he;rw [this.1,this.2.1];simp; omega
  ·simp; omega
theorem xW:∀ (k u:Nat),u<10^(k+1)->(decDigits u).length<=k+1:=by
 intro k
 induction k with
 | zero=>intro u h; rw [decDigits,dif_pos (by simpa using h)]; simp
 | succ k ih=>
  intro u h;rw [decDigits];split
  ·simp
  ·have:=ih (u / 10) (by rw [Nat.pow_succ] at h; omega);rw [aq]; simp; omega
end Go.Ab.R06
end
section
namespace Go.Ab.R06
open Go.Proofs Go.Ab Go.Ab.RB
attribute [local irreducible] awp jc bG aB cq AV.sub M dO
def d7 (E5:Az)(Fa:Int)(lo_2:Int)(hi_3:Int):Option Bool :=(if Fa<(E5.length:Int) then ck ((0:Int)<=Fa/\Fa<(E5.length:Int))<|if lo_2<=byt E5 Fa then ck ((0:Int)<=Fa/\Fa<(E5.length:Int))<|some (decide (byt E5 Fa<=hi_3))else some false else some false : Option Bool).bind λ t5=>some t5
theorem gK (E5:Az)(Fa:Int)(lo_2:Int)(hi_3:Int)(r:Bool)(h0:d7 E5 Fa lo_2 hi_3=some r):aB Tryz.prog 198 [eS E5,eI Fa,eK .u8 lo_2,eK .u8 hi_3] (·=.p (eB r)):=by
 unfold d7 at h0;refine aZ good Tryz.func198 Z Z Z λ w0=>mP (λ v:Bool=>.p (eB v)) ?_;refine nx 5 Z (bd h0 λ o7 h1 h0=>?_);refine kN o7 (λ v8=>⟨[(8,.p (eB v8))],[]⟩) ?_ ?_
 ·exact nx 2 Z (mQ (oi h0) Z (sr))
 refine nx 3 Z (oLs Z ?_);refine nx 2 Z (fD [12,13] h1 Z (λ c1 h1=>?_) λ c1 h1=>?_)
 ·refine nx 2 Z (oI h1 Z λ GX h1=>?_);refine nx 4 Z (fD [18,19,20] h1 Z (λ c3 h1=>?_) λ c3 h1=>?_)
  ·refine nx 2 Z (oI h1 Z λ IM h1=>?_);exact nx 5 Z (eX _ (oi h1).symm (gE Z Z))
  exact nx 8 Z (eX _ (oi h1).symm (gE Z Z))
 exact nx 15 Z (eX _ (oi h1).symm (gE Z Z))
def jD (E5:Az)(Fa:Int):Option (Int×Int) :=(if Fa<0 then some true else some (decide ((E5.length:Int)<=Fa)) : Option Bool).bind λ t2=>if t2=true then some (0,0)else ck ((0:Int)<=Fa/\Fa<(E5.length:Int))<|if byt E5 Fa<128 then ck (inR (byt E5 Fa))<|some (byt E5 Fa,1)else(if 194<=byt E5 Fa then if byt E5 Fa<=223 then ck (inR (Fa+1))<|(d7 E5 (Fa+1) 128 191).bind λ Gl=>some Gl else some false else some false : Option Bool).bind λ t12=>if t12=true then ck (inR (cE .u8 (byt E5 Fa) 31))<|ck ((0:Int)<=6)<|ck (inR (Fa+1))<|ck ((0:Int)<=Fa+1/\Fa+1<(E5.length:Int))<|ck (inR (cE .u8 (byt E5 (Fa+1)) 63))<|some (iOr .i64 (jt .i64 (cE .u8 (byt E5 Fa) 31) 6) (cE .u8 (byt E5 (Fa+1)) 63),2)else(if byt E5 Fa=224 then some 160 else some 128 : Option Int).bind λ lo20=>(if byt E5 Fa=237 then some 159 else some 191 : Option Int).bind λ hi22=>(if 224<=byt E5 Fa then if byt E5 Fa<=239 then ck (inR (Fa+1))<|(d7 E5 (Fa+1) lo20 hi22).bind λ Fw=>if Fw=true then ck (inR (Fa+2))<|(d7 E5 (Fa+2) 128 191).bind λ IX=>some IX else some false else some false else some false : Option Bool).bind λ t32=>if t32=true then ck (inR (cE .u8 (byt E5 Fa) 15))<|ck ((0:Int)<=12)<|ck (inR (Fa+1))<|ck ((0:Int)<=Fa+1/\Fa+1<(E5.length:Int))<|ck (inR (cE .u8 (byt E5 (Fa+1)) 63))<|ck ((0:Int)<=6)<|ck (inR (Fa+2))<|ck ((0:Int)<=Fa+2/\Fa+2<(E5.length:Int))<|ck (inR (cE .u8 (byt E5 (Fa+2)) 63))<|some (iOr .i64 (iOr .i64 (jt .i64 (cE .u8 (byt E5 Fa) 15) 12) (jt .i64 (cE .u8 (byt E5 (Fa+1)) 63) 6)) (cE .u8 (byt E5 (Fa+2)) 63),3)else(if byt E5 Fa=240 then some 144 else some 128 : Option Int).bind λ lo44=>(if byt E5 Fa=244 then some 143 else some 191 : Option Int).bind λ hi46=>(if 240<=byt E5 Fa then if byt E5 Fa<=244 then ck (inR (Fa+1))<|(d7 E5 (Fa+1) lo44 hi46).bind λ r50=>if r50=true then ck (inR (Fa+2))<|(d7 E5 (Fa+2) 128 191).bind λ r54=>if r54=true then ck (inR (Fa+3))<|(d7 E5 (Fa+3) 128 191).bind λ Fz=>some Fz else some false else some false else some false else some false : Option Bool).bind λ t60=>if t60=true then ck (inR (cE .u8 (byt E5 Fa) 7))<|ck ((0:Int)<=18)<|ck (inR (Fa+1))<|ck ((0:Int)<=Fa+1/\Fa+1<(E5.length:Int))<|ck (inR (cE .u8 (byt E5 (Fa+1)) 63))<|ck ((0:Int)<=12)<|ck (inR (Fa+2))<|ck ((0:Int)<=Fa+2/\Fa+2<(E5.length:Int))<|ck (inR (cE .u8 (byt E5 (Fa+2)) 63))<|ck ((0:Int)<=6)<|ck (inR (Fa+3))<|ck ((0:Int)<=Fa+3/\Fa+3<(E5.length:Int))<|ck (inR (cE .u8 (byt E5 (Fa+3)) 63))<|some (iOr .i64 (iOr .i64 (iOr .i64 (jt .i64 (cE .u8 (byt E5 Fa) 7) 18) (jt .i64 (cE .u8 (byt E5 (Fa+1)) 63) 12)) (jt .i64 (cE .u8 (byt E5 (Fa+2)) 63) 6)) (cE .u8 (byt E5 (Fa+3)) 63),4)else some (0,0)
theorem qH (E5:Az)(Fa:Int)(r:Int×Int)(h0:jD E5 Fa=some r):aB Tryz.prog 185 [eS E5,eI Fa] (·=.tuple [.p (eI r.1),.p (eI r.2)]):=by
 unfold jD at h0;refine aZ good Tryz.func185 Z Z Z λ w0=>mP (λ v:Int×Int=>.tuple [.p (eI v.1),.p (eI v.2)]) ?_;refine nx 7 Z (bd h0 λ o83 h1 h0=>?_);refine kN o83 (λ v84=>⟨[(0,.p (eS E5)),(1,.p (eI Fa)),(16,.p (eB v84))],[]⟩) ?_ ?_
 ·refine nx 1 Z (fB [16] h0 Z (λ c3 h0=>?_) λ c3 h0=>?_)
  ·exact nx 7 Z (mQ (oi h0) Z (bj ⟨sr,sr,trivial⟩))
  refine nx 6 Z (oI h0 Z λ IM h0=>?_);refine nx 8 Z (fD [21] h0 Z (λ c5 h0=>?_) λ c5 h0=>?_)
  ·refine nx 4 Z (cc' h0 λ JY h0=>?_);refine mO Z (fh Z Z Z Z Z Z Z Z (iQ JY) ?_);exact nx 4 Z (mQ (oi h0) Z (bj ⟨sr,sr,trivial⟩))
  refine nx 4 Z (bd h0 λ o85 h1 h0=>?_);refine kN o85 (λ v86=>⟨[(0,.p (eS E5)),(1,.p (eI Fa)),(6,.p (eK .u8 (byt E5 Fa))),(35,.p (eB v86))],[]⟩) ?_ ?_
  ·refine nx 1 Z (fB [35] h0 Z (λ GA h0=>?_) λ GA h0=>?_)
   ·refine nx 5 Z (cc' h0 λ GG h0=>?_);refine mO Z (fh Z Z Z Z Z Z Z Z (iQ GG) ?_);refine cc' h0 λ Gs h0=>mO Z (l7 Z Z Z Z Z Z Gs ?_);refine nx 2 Z (oA h0 Z Z λ Gk h0=>?_);refine oI h0 Z λ IP h0=>nx 1 Z (cc' h0 λ GT h0=>?_);refine mO Z (fh Z Z Z Z Z Z Z Z (iQ GT) ?_);exact nx 5 Z (mQ (oi h0) Z (bj ⟨sr,sr,trivial⟩))
   refine nx 8 Z (bd h0 λ KU h1 h0=>?_);refine kN KU (λ v88=>⟨[(0,.p (eS E5)),(1,.p (eI Fa)),(6,.p (eK .u8 (byt E5 Fa))),(7,.p (eK .u8 v88)),(8,.p (eK .u8 191))],[]⟩) ?_ ?_
   ·refine nx 2 Z (bd h0 λ o89 h1 h0=>?_);refine kN o89 (λ v90=>⟨[(0,.p (eS E5)),(1,.p (eI Fa)),(6,.p (eK .u8 (byt E5 Fa))),(7,.p (eK .u8 KU)),(8,.p (eK .u8 v90))],[]⟩) ?_ ?_
    ·refine nx 3 Z (bd h0 λ o91 h1 h0=>?_);refine kN o91 (λ v92=>⟨[(0,.p (eS E5)),(1,.p (eI Fa)),(6,.p (eK .u8 (byt E5 Fa))),(70,.p (eB v92))],[]⟩) ?_ ?_
     ·refine nx 1 Z (fB [70] h0 Z (λ LJ h0=>?_) λ LJ h0=>?_)
      ·refine nx 2 Z (cc' h0 λ HY h0=>?_);refine cc' h0 λ HX h0=>cc' h0 λ G2 h0=>cc' h0 λ IN h0=>cc' h0 λ Jd h0=>cc' h0 λ HW h0=>cc' h0 λ IL h0=>cc' h0 λ IK h0=>cc' h0 λ HV h0=>mD [(0,.p (eS E5)),(1,.p (eI Fa)),(6,.p (eK .u8 (byt E5 Fa)))] Z ⟨Z,Z,Z,trivial⟩ Z (dR 2 Z ?_);refine dq (.p (eI (cE .u8 (byt E5 Fa) 15))) [72] Z (λ _ e _ q=>ae Z (fh Z Z Z Z Z Z Z (e _ _ Z) (iQ HY) q)) Z (dq (.p (eI (jt .i64 (cE .u8 (byt E5 Fa) 15) 12))) [73] Z (λ _ e _ q=>ae Z (l7 Z Z Z (e _ _ Z) Z Z HX q)) Z ?_);refine dR 2 Z (dq (.p (eI (Fa+1))) [76] Z (λ _ e _ q=>ae Z (pi Z Z Z (e _ _ Z) Z Z G2 q)) Z ?_);refine dq (.p (eK .u8 (byt E5 (Fa+1)))) [75,77] Z (λ _ e _ q=>ae Z (kO Z Z Z Z Z (e _ _ Z) (e _ _ Z) IN q)) Z (dR 1 Z ?_);refine dq (.p (eI (cE .u8 (byt E5 (Fa+1)) 63))) [79] Z (λ _ e _ q=>ae Z (fh Z Z Z Z Z Z Z (e _ _ Z) (iQ Jd) q)) Z (dq (.p (eI (jt .i64 (cE .u8 (byt E5 (Fa+1)) 63) 6))) [80] Z (λ _ e _ q=>ae Z (l7 Z Z Z (e _ _ Z) Z Z HW q)) Z ?_);refine dR 3 Z (dq (.p (eI (Fa+2))) [84] Z (λ _ e _ q=>ae Z (pi Z Z Z (e _ _ Z) Z Z IL q)) Z ?_);refine dq (.p (eK .u8 (byt E5 (Fa+2)))) [83,85] Z (λ _ e _ q=>ae Z (kO Z Z Z Z Z (e _ _ Z) (e _ _ Z) IK q)) Z (dR 1 Z ?_);refine dq (.p (eI (cE .u8 (byt E5 (Fa+2)) 63))) [87] Z (λ _ e _ q=>ae Z (fh Z Z Z Z Z Z Z (e _ _ Z) (iQ HV) q)) Z (dR 3 Z ?_);refine dE Z (nx 2 Z ?_);exact mQ (oi h0) Z (bj ⟨sr,sr,trivial⟩)
      refine nx 8 Z (bd h0 λ o93 h1 h0=>?_);refine kN o93 (λ v94=>⟨[(0,.p (eS E5)),(1,.p (eI Fa)),(6,.p (eK .u8 (byt E5 Fa))),(7,.p (eK .u8 v94)),(8,.p (eK .u8 191))],[]⟩) ?_ ?_
      ·refine nx 2 Z (bd h0 λ o95 h1 h0=>?_);refine kN o95 (λ v96=>⟨[(0,.p (eS E5)),(1,.p (eI Fa)),(6,.p (eK .u8 (byt E5 Fa))),(7,.p (eK .u8 o93)),(8,.p (eK .u8 v96))],[]⟩) ?_ ?_
       ·refine nx 3 Z (bd h0 λ o97 h1 h0=>?_);refine kN o97 (λ v98=>⟨[(0,.p (eS E5)),(1,.p (eI Fa)),(6,.p (eK .u8 (byt E5 Fa))),(119,.p (eB v98))],[]⟩) ?_ ?_
        ·refine nx 1 Z (fB [119] h0 Z (λ c61 h0=>?_) λ c61 h0=>?_)
         ·refine nx 2 Z (cc' h0 λ hk62 h0=>?_);refine cc' h0 λ Lr h0=>cc' h0 λ Lq h0=>cc' h0 λ hk65 h0=>cc' h0 λ hk66 h0=>cc' h0 λ hk67 h0=>cc' h0 λ Lp h0=>cc' h0 λ hk69 h0=>cc' h0 λ Lm h0=>cc' h0 λ hk71 h0=>cc' h0 λ hk72 h0=>cc' h0 λ hk73 h0=>cc' h0 λ hk74 h0=>?_;refine mD [(0,.p (eS E5)),(1,.p (eI Fa)),(6,.p (eK .u8 (byt E5 Fa)))] Z ⟨Z,Z,Z,trivial⟩ Z (dR 2 Z ?_);refine dq (.p (eI (cE .u8 (byt E5 Fa) 7))) [121] Z (λ _ e _ q=>ae Z (fh Z Z Z Z Z Z Z (e _ _ Z) (iQ hk62) q)) Z (dq (.p (eI (jt .i64 (cE .u8 (byt E5 Fa) 7) 18))) [122] Z (λ _ e _ q=>ae Z (l7 Z Z Z (e _ _ Z) Z Z Lr q)) Z ?_);refine dR 2 Z (dq (.p (eI (Fa+1))) [125] Z (λ _ e _ q=>ae Z (pi Z Z Z (e _ _ Z) Z Z Lq q)) Z ?_);refine dq (.p (eK .u8 (byt E5 (Fa+1)))) [124,126] Z (λ _ e _ q=>ae Z (kO Z Z Z Z Z (e _ _ Z) (e _ _ Z) hk65 q)) Z (dR 1 Z ?_);refine dq (.p (eI (cE .u8 (byt E5 (Fa+1)) 63))) [128] Z (λ _ e _ q=>ae Z (fh Z Z Z Z Z Z Z (e _ _ Z) (iQ hk66) q)) Z (dq (.p (eI (jt .i64 (cE .u8 (byt E5 (Fa+1)) 63) 12))) [129] Z (λ _ e _ q=>ae Z (l7 Z Z Z (e _ _ Z) Z Z hk67 q)) Z ?_);refine dR 3 Z (dq (.p (eI (Fa+2))) [133] Z (λ _ e _ q=>ae Z (pi Z Z Z (e _ _ Z) Z Z Lp q)) Z ?_);refine dq (.p (eK .u8 (byt E5 (Fa+2)))) [132,134] Z (λ _ e _ q=>ae Z (kO Z Z Z Z Z (e _ _ Z) (e _ _ Z) hk69 q)) Z (dR 1 Z ?_);refine dq (.p (eI (cE .u8 (byt E5 (Fa+2)) 63))) [136] Z (λ _ e _ q=>ae Z (fh Z Z Z Z Z Z Z (e _ _ Z) (iQ Lm) q)) Z (dq (.p (eI (jt .i64 (cE .u8 (byt E5 (Fa+2)) 63) 6))) [137] Z (λ _ e _ q=>ae Z (l7 Z Z Z (e _ _ Z) Z Z hk71 q)) Z ?_);refine dR 3 Z (dq (.p (eI (Fa+3))) [141] Z (λ _ e _ q=>ae Z (pi Z Z Z (e _ _ Z) Z Z hk72 q)) Z ?_);refine dq (.p (eK .u8 (byt E5 (Fa+3)))) [140,142] Z (λ _ e _ q=>ae Z (kO Z Z Z Z Z (e _ _ Z) (e _ _ Z) hk73 q)) Z (dR 1 Z ?_);refine dq (.p (eI (cE .u8 (byt E5 (Fa+3)) 63))) [144] Z (λ _ e _ q=>ae Z (fh Z Z Z Z Z Z Z (e _ _ Z) (iQ hk74) q)) Z (dR 3 Z ?_);refine dE Z (nx 1 Z ?_);refine mG (gE (t:=⟨[(4,.p (eI (iOr .i64 (iOr .i64 (iOr .i64 (jt .i64 (cE .u8 (byt E5 Fa) 7) 18) (jt .i64 (cE .u8 (byt E5 (Fa+1)) 63) 12)) (jt .i64 (cE .u8 (byt E5 (Fa+2)) 63) 6)) (cE .u8 (byt E5 (Fa+3)) 63)))),(5,.p (eI 4))],[]⟩) Z Z) (nx 1 Z ?_);exact mQ (oi h0) Z (bj ⟨sr,sr,trivial⟩)
         exact nx 8 Z (mQ (oi h0) Z (bj ⟨sr,sr,trivial⟩))
        refine nx 4 Z (fD [95,96] h1 Z (λ Ka h1=>?_) λ Ka h1=>?_)
        ·refine nx 4 Z (fD [98,99,100] h1 Z (λ LI h1=>?_) λ LI h1=>?_)
         ·refine nx 2 Z (oA h1 Z Z λ Lv h1=>?_);refine nx 2 Z (bd h1 λ r50 e51 h1=>?_);refine oK (gK E5 (Fa+1) o93 o95 _ e51) Z ⟨sr,sr,sr,sr,trivial⟩ Tryz.call198 Z (nx 2 Z ?_);refine fB [106,107,108] h1 Z (λ J' h1=>?_) λ J' h1=>?_
          ·refine nx 2 Z (oA h1 Z Z λ Lt h1=>?_);refine bd h1 λ r54 e55 h1=>oK (gK E5 (Fa+2) 128 191 _ e55) Z ⟨sr,sr,sr,sr,trivial⟩ Tryz.call198 Z (nx 2 Z ?_);refine fB [112,113,114] h1 Z (λ LH h1=>?_) λ LH h1=>?_
           ·refine nx 2 Z (oA h1 Z Z λ JZ h1=>?_);refine bd h1 λ Fz Lz h1=>oK (gK E5 (Fa+3) 128 191 _ Lz) Z ⟨sr,sr,sr,sr,trivial⟩ Tryz.call198 Z (nx 2 Z ?_);exact eX _ (oi h1).symm (gE Z Z)
           exact nx 6 Z (eX _ (oi h1).symm (gE Z Z))
          exact nx 12 Z (eX _ (oi h1).symm (gE Z Z))
         exact nx 20 Z (eX _ (oi h1).symm (gE Z Z))
        exact nx 24 Z (eX _ (oi h1).symm (gE Z Z))
       refine nx 5 Z (fD [93] h1 Z (λ c45 h1=>?_) λ c45 h1=>?_)
       ·exact nx 4 Z (eX _ (oi h1).symm (gE Z Z))
       exact nx 2 Z (eX _ (oi h1).symm (gE Z Z))
      refine nx 5 Z (fD [91] h1 Z (λ c43 h1=>?_) λ c43 h1=>?_)
      ·exact nx 4 Z (eX _ (oi h1).symm (gE Z Z))
      exact nx 2 Z (eX _ (oi h1).symm (gE Z Z))
     refine nx 4 Z (fD [52,53] h1 Z (λ GM h1=>?_) λ GM h1=>?_)
     ·refine nx 4 Z (fD [55,56,57] h1 Z (λ Ig h1=>?_) λ Ig h1=>?_)
      ·refine nx 2 Z (oA h1 Z Z λ H6 h1=>?_);refine nx 2 Z (bd h1 λ Fw Jf h1=>?_);refine oK (gK E5 (Fa+1) KU o89 _ Jf) Z ⟨sr,sr,sr,sr,trivial⟩ Tryz.call198 Z (nx 2 Z ?_);refine fB [63,64,65] h1 Z (λ Ie h1=>?_) λ Ie h1=>?_
       ·refine nx 2 Z (oA h1 Z Z λ Je h1=>?_);refine bd h1 λ IX LE h1=>oK (gK E5 (Fa+2) 128 191 _ LE) Z ⟨sr,sr,sr,sr,trivial⟩ Tryz.call198 Z (nx 2 Z ?_);exact eX _ (oi h1).symm (gE Z Z)
       exact nx 6 Z (eX _ (oi h1).symm (gE Z Z))
      exact nx 14 Z (eX _ (oi h1).symm (gE Z Z))
     exact nx 18 Z (eX _ (oi h1).symm (gE Z Z))
    refine nx 5 Z (fD [50] h1 Z (λ c21 h1=>?_) λ c21 h1=>?_)
    ·exact nx 4 Z (eX _ (oi h1).symm (gE Z Z))
    exact nx 2 Z (eX _ (oi h1).symm (gE Z Z))
   refine nx 5 Z (fD [48] h1 Z (λ GI h1=>?_) λ GI h1=>?_)
   ·exact nx 4 Z (eX _ (oi h1).symm (gE Z Z))
   exact nx 2 Z (eX _ (oi h1).symm (gE Z Z))
  refine nx 4 Z (fD [25,26] h1 Z (λ c7 h1=>?_) λ c7 h1=>?_)
  ·refine nx 4 Z (fD [28,29,30] h1 Z (λ c8 h1=>?_) λ c8 h1=>?_)
   ·refine nx 2 Z (oA h1 Z Z λ hk9 h1=>?_);refine bd h1 λ Gl J9 h1=>oK (gK E5 (Fa+1) 128 191 _ J9) Z ⟨sr,sr,sr,sr,trivial⟩ Tryz.call198 Z (nx 2 Z ?_);exact eX _ (oi h1).symm (gE Z Z)
   exact nx 6 Z (eX _ (oi h1).symm (gE Z Z))
  exact nx 10 Z (eX _ (oi h1).symm (gE Z Z))
 refine nx 4 Z (fD [10,11] h1 Z (λ c1 h1=>?_) λ c1 h1=>?_)
 ·exact nx 6 Z (eX _ (oi h1).symm (gE Z Z))
 refine nx 2 Z (oLs Z ?_);exact nx 3 Z (eX _ (oi h1).symm (gE Z Z))
def fE (E5:Az):Nat->Int->Option (Unit⊕Bool)|0,_=>none|m+1,i8=>if i8<(E5.length:Int) then(jD E5 i8).bind λ Gl=>if Gl.2=0 then some (.inr false)else ck (inR (i8+Gl.2))<|fE E5 m (i8+Gl.2)else some (.inl ())
def kk (n:Nat)(E5:Az):Option Bool :=if 4096<(E5.length:Int) then some false else jn (fE E5 n 0) λ _I8=>some true
theorem rD (n:Nat)(E5:Az)(r:Bool)(h0:kk n E5=some r):aB Tryz.prog 159 [eS E5] (·=.p (eB r)):=by
 unfold kk at h0;refine aZ good Tryz.func159 Z Z Z λ w0=>mP (λ v:Bool=>.p (eB v)) ?_;refine nx 8 Z (oLs Z ?_);refine nx 2 Z (fD [8] h0 Z (λ c1 h0=>?_) λ c1 h0=>?_)
 ·exact nx 6 Z (mQ (oi h0) Z (sr))
 refine nx 8 rfl ?_;obtain ⟨IG,h1,FE,hR0⟩:=ew h0;refine kEx 0 (λ Hz:Unit=>IG=.inl Hz) (λ Hz=>⟨[],[]⟩) (λ Hz hv=>?_) ?_
 ·have h0:=FE _ hv;exact nx 6 Z (mQ (oi h0) Z (sr))
 refine lG (λ (JE:Int)=>⟨[(0,.p (eS E5)),(3,.p (eI JE))],[]⟩) (λ m (JE:Int)=>fE E5 m JE) Y 0 h1 (gE rfl rfl) ?_;rintro m i8 h1;replace h1:fE E5 (m+1) i8=some IG:=h1;rw [fE] at h1;refine nx 5 rfl (oLs rfl ?_);refine nx 2 rfl (fD [12] h1 rfl (λ c9 h1=>?_) λ c9 h1=>?_)
 ·refine nx 7 Z (bd h1 λ Gl J9 h1=>?_);refine oK (qH E5 i8 _ J9) Z ⟨sr,sr,trivial⟩ Tryz.call185 Z (nx 12 Z ?_);refine fD [20] h1 Z (λ Hy h1=>?_) λ Hy h1=>?_
  ·exact nx 6 Z (mQ (hR0 _ (oi h1).symm) Z (sr))
  refine nx 5 Z (oA h1 Z Z λ G4 h1=>?_);exact nx 2 Z (eX (i8+Gl.2) h1 (gE Z Z))
 exact nx 2 Z (eXi _ (oi h1).symm (gE Z Z))
def lA (G1:Int):Option Bool :=(if (-9007199254740992)<=G1 then some (decide (G1<=9007199254740992))else some false : Option Bool).bind λ t2=>some t2
theorem rt (G1:Int)(r:Bool)(h0:lA G1=some r):aB Tryz.prog 133 [eI G1] (·=.p (eB r)):=by
 unfold lA at h0;refine aZ good Tryz.func133 Z Z Z λ w0=>mP (λ v:Bool=>.p (eB v)) ?_;refine nx 5 Z (bd h0 λ o4 h1 h0=>?_);refine kN o4 (λ v5=>⟨[(2,.p (eB v5))],[]⟩) ?_ ?_
 ·exact nx 2 Z (mQ (oi h0) Z (sr))
 refine nx 4 Z (fD [4,5] h1 Z (λ c1 h1=>?_) λ c1 h1=>?_)
 ·exact nx 5 Z (eX _ (oi h1).symm (gE Z Z))
 exact nx 5 Z (eX _ (oi h1).symm (gE Z Z))
end Go.Ab.R06
end
section
namespace Go.Ab.R06
open Go.Ab Go.Ab.RB Go.Lib
theorem t31:(List.range 256).all (λ n=>cE .u8 (n:Int) 31==((n%32:Nat):Int))=true:=by kernel_rfl
theorem t15:(List.range 256).all (λ n=>cE .u8 (n:Int) 15==((n%16:Nat):Int))=true:=by kernel_rfl
theorem t7:(List.range 256).all (λ n=>cE .u8 (n:Int) 7==((n%8:Nat):Int))=true:=by kernel_rfl
theorem or64 (a b:Nat)(ha:a<4611686018427387904)(hb:b<4611686018427387904):iOr .i64 (a:Int) (b:Int)=((a ||| b:Nat):Int):=by
 have hlt:a ||| b<4611686018427387904:=Nat.or_lt_two_pow (n:=62) ha hb
 have e1:(BitVec.ofInt 64 (a:Int)).toNat=a:=by
  rw [BitVec.toNat_ofInt]; omega
 have e2:(BitVec.ofInt 64 (b:Int)).toNat=b:=by
  rw [BitVec.toNat_ofInt]; omega
 show IntKind.wrap .i64 (((BitVec.ofInt 64 (a:Int)) ||| (BitVec.ofInt 64 (b:Int))).toNat:Nat)=_;rw [BitVec.toNat_or,e1,e2];simp [IntKind.wrap,IntKind.bits,IntKind.signed];omega
theorem tU (a b k:Nat)(ha:a*2^k<4611686018427387904)(hb:b<2^k)(hk:k<=20):iOr .i64 ((a*2^k:Nat):Int) (b:Int)=((a*2^k+b:Nat):Int):=by
 have hp:2^k<=2^20:=Nat.pow_le_pow_right (by decide) hk;have h20:(2:Nat)^20=1048576:=rfl;rw [or64 _ _ ha O];have:=Nat.shiftLeft_add_eq_or_of_lt hb a;rw [Nat.shiftLeft_eq] at this;rw [<- this]
theorem tI (a k:Nat)(hk:k<=20)(ha:a*2^k<4611686018427387904):jt .i64 (a:Int) (k:Int)=((a*2^k:Nat):Int):=by
 have:min (k:Int).toNat IntKind.i64.bits=k:=by
  have:IntKind.i64.bits=64:=rfl;rw [this]; omega
 unfold jt;rw [this];have e:(a:Int)*2^k=((a*2^k:Nat):Int):=by push_cast; rfl
 rw [e];generalize a*2^k=v at ha;simp [IntKind.wrap,IntKind.bits,IntKind.signed];omega
def Do (l:Az):Int×Int:=if (decodeL l).1=65533/\(decodeL l).2=1 then (0,0) else (((decodeL l).1:Int),((decodeL l).2:Int))
theorem Cq (s:Az)(j:Nat)(lo hi:Int):d7 s (j:Int) lo hi=some (decide (j<s.length/\lo<=((s.getD j 0).toNat:Int)/\((s.getD j 0).toNat:Int)<=hi)):=by
 unfold d7;have hb:byt s (j:Int)=((s.getD j 0).toNat:Int):=iA s j;rw [hb];by_cases h:j<s.length
 ·rw [if_pos O,bY O];by_cases h2:lo<=((s.getD j 0).toNat:Int)
  ·rw [if_pos h2,bY O];refine congrArg some (eqB ?_);rw [decide_eq_true_eq,decide_eq_true_eq];exact ⟨λ q=>⟨h,h2,q⟩,λ q=>q.2.2⟩
  ·rw [if_neg h2,Option.bind_some]
   symm; rw [bx,decide_eq_false_iff_not]
   exact λ q=>h2 q.2.1
 ·rw [if_neg O]; simp [h]
set_option maxHeartbeats 8000000 in
theorem w8 (s:Az)(i:Nat)(hi:i<s.length)(hs:s.length<=1000000000):jD s (i:Int)=some (Do (s.drop i)):=by
 have hg:∀ k,(s.drop i).getD k 0=s.getD (i+k) 0:=λ k=>by
  rw [List.getD_eq_getElem?_getD,List.getElem?_drop,List.getD_eq_getElem?_getD]
 unfold jD Do;rw [decodeL_N,hg,hg,hg,hg,Nat.add_zero,List.length_drop]
 have b:∀ k:Nat,byt s ((i:Int)+k)=((s.getD (i+k) 0).toNat:Int):=λ k=>by
  rw [show (i:Int)+(k:Int)=((i+k:Nat):Int) by omega]; exact iA s (i+k)
 have c:∀ (k:Nat) lo hi,d7 s ((i:Int)+k) lo hi=some (decide (k<s.length-i/\lo<=((s.getD (i+k) 0).toNat:Int)/\((s.getD (i+k) 0).toNat:Int)<=hi)):=λ k lo hi=>by
  rw [show (i:Int)+(k:Int)=((i+k:Nat):Int) by omega,Cq];refine congrArg some (eqB ?_);rw [decide_eq_true_eq,decide_eq_true_eq];constructor
  ·rintro ⟨h1,h2⟩; exact ⟨by omega,h2⟩
  ·rintro ⟨h1,h2⟩; exact ⟨by omega,h2⟩
 have b0:byt s (i:Int)=((s.getD i 0).toNat:Int):=iA s i;have b1:byt s ((i:Int)+1)=((s.getD (i+1) 0).toNat:Int):=b 1;have b2:byt s ((i:Int)+2)=((s.getD (i+2) 0).toNat:Int):=b 2;have b3:byt s ((i:Int)+3)=((s.getD (i+3) 0).toNat:Int):=b 3;have c1:∀ lo hi,d7 s ((i:Int)+1) lo hi=_:=c 1;have c2:∀ lo hi,d7 s ((i:Int)+2) lo hi=_:=c 2;have c3:∀ lo hi,d7 s ((i:Int)+3) lo hi=_:=c 3;simp only [b0,b1,b2,b3,c1,c2,c3];obtain ⟨n,hn⟩:∃ n,s.length=i+n:=⟨s.length-i,by omega⟩
 have hn1:s.length-i=n:=by omega
 have E9:(s.length:Int)=(i:Int)+n:=by omega
 rw [hn1,E9];have l0:=(s.getD i 0).toNat_lt;have l1:=(s.getD (i+1) 0).toNat_lt;have l2:=(s.getD (i+2) 0).toNat_lt;have l3:=(s.getD (i+3) 0).toNat_lt;generalize (s.getD i 0).toNat=B0 at l0 ⊢;generalize (s.getD (i+1) 0).toNat=B1 at l1 ⊢;generalize (s.getD (i+2) 0).toNat=B2 at l2 ⊢;generalize (s.getD (i+3) 0).toNat=B3 at l3 ⊢;have hnp:0<n:=by omega
 have IJ:n<=1000000000:=by omega
 have hib:i<=1000000000:=by omega
 clear hg b c b0 b1 b2 b3 c1 c2 c3 hn1 E9 hn hi hs
 have a31:cE .u8 (B0:Int) 31=((B0%32:Nat):Int):=tab t31 B0 O;have a15:cE .u8 (B0:Int) 15=((B0%16:Nat):Int):=tab t15 B0 O;have a7:cE .u8 (B0:Int) 7=((B0%8:Nat):Int):=tab t7 B0 O;have a1:cE .u8 (B1:Int) 63=((B1%64:Nat):Int):=tab t63 B1 O;have a2:cE .u8 (B2:Int) 63=((B2%64:Nat):Int):=tab t63 B2 O;have a3:cE .u8 (B3:Int) 63=((B3%64:Nat):Int):=tab t63 B3 O
 have two:iOr .i64 (jt .i64 ((B0%32:Nat):Int) 6) ((B1%64:Nat):Int)=((B0%32*64+B1%64:Nat):Int):=by
  have h1:jt .i64 ((B0%32:Nat):Int) 6=((B0%32*2^6:Nat):Int):=tI _ 6 (by decide) O;rw [h1];exact tU _ _ 6 O O  (by decide)
 have three:iOr .i64 (iOr .i64 (jt .i64 ((B0%16:Nat):Int) 12) (jt .i64 ((B1%64:Nat):Int) 6)) ((B2%64:Nat):Int)=((B0%16*4096+B1%64*64+B2%64:Nat):Int):=by
  have h1:jt .i64 ((B0%16:Nat):Int) 12=((B0%16*2^12:Nat):Int):=tI _ 12 (by decide) O;have h2:jt .i64 ((B1%64:Nat):Int) 6=((B1%64*2^6:Nat):Int):=tI _ 6 (by decide) O;have h3:=tU (B0%16) (B1%64*2^6) 12 O O  (by decide);have h4:=tU (B0%16*64+B1%64) (B2%64) 6 O O  (by decide);rw [h1,h2,h3,show B0%16*2^12+B1%64*2^6=(B0%16*64+B1%64)*2^6 by omega,h4]
 have four:iOr .i64 (iOr .i64 (iOr .i64 (jt .i64 ((B0%8:Nat):Int) 18) (jt .i64 ((B1%64:Nat):Int) 12)) (jt .i64 ((B2%64:Nat):Int) 6)) ((B3%64:Nat):Int)=((B0%8*262144+B1%64*4096+B2%64*64+B3%64:Nat):Int):=by
  have h1:jt .i64 ((B0%8:Nat):Int) 18=((B0%8*2^18:Nat):Int):=tI _ 18 (by decide) O;have h2:jt .i64 ((B1%64:Nat):Int) 12=((B1%64*2^12:Nat):Int):=tI _ 12 (by decide) O;have h2':jt .i64 ((B2%64:Nat):Int) 6=((B2%64*2^6:Nat):Int):=tI _ 6 (by decide) O;have h3:=tU (B0%8) (B1%64*2^12) 18 O O  (by decide);have h4:=tU (B0%8*64+B1%64) (B2%64*2^6) 12 O O  (by decide);have h5:=tU (B0%8*4096+B1%64*64+B2%64) (B3%64) 6 O O  (by decide);rw [h1,h2,h2',h3,show B0%8*2^18+B1%64*2^12=(B0%8*64+B1%64)*2^12 by omega,h4,show (B0%8*64+B1%64)*2^12+B2%64*2^6=(B0%8*4096+B1%64*64+B2%64)*2^6 by omega,h5]
 rw [a31,a15,a7,a1,a2,a3,two,three,four];have i1:inR ((i:Int)+1):=aN O O;have i2:inR ((i:Int)+2):=aN O O;have i3:inR ((i:Int)+3):=aN O O
 have e0:((if (i:Int)<0 then some true else some (decide ((i:Int)+n<=i))):Option Bool)=some false:=by
  rw [if_neg O]; simp; omega
 rw [e0,Option.bind_some,if_neg G,bY O];unfold decodeN;by_cases h0:B0<128
 ·rw [if_pos (show (B0:Int)<128 by omega),bY (aN O O),if_pos h0];simp only;rw [if_neg O]; rfl
 rw [if_neg (show ¬ (B0:Int)<128 by omega),if_neg h0]
 have Hh:((if 194<=(B0:Int) then if (B0:Int)<=223 then ck (inR ((i:Int)+1))<|(some (decide (1<n/\(128:Int)<=(B1:Int)/\(B1:Int)<=191))).bind λ Gl=>some Gl else some false else some false):Option Bool)=some (decide (194<=B0/\B0<=223/\1<n/\128<=B1/\B1<=191)):=by
  by_cases q1:194<=B0
  ·rw [if_pos O];by_cases q2:B0<=223
   ·rw [if_pos O,bY i1,Option.bind_some];refine congrArg some (eqB ?_);rw [decide_eq_true_eq,decide_eq_true_eq]; omega
   ·rw [if_neg O]; simp; omega
  ·rw [if_neg O]; simp; omega
 rw [Hh,Option.bind_some];by_cases h12:194<=B0/\B0<=223/\1<n/\128<=B1/\B1<=191
 ·rw [if_pos (by simp only [decide_eq_true_eq]; exact h12),bY (aN O O),bY O,bY i1,bY O,bY (aN O O)];rw [if_pos (show B0 / 32=6/\1<n/\B1 / 64=2 by omega),if_pos (show B0%32*64+B1%64 >= 128 by omega)];show some _=some (if B0%32*64+B1%64=65533/\_ then _ else _);rw [if_neg O]; rfl
 rw [if_neg (by simp only [decide_eq_true_eq]; exact h12)]
 have hlo:((if (B0:Int)=224 then some 160 else some 128):Option Int)=some (if B0=224 then 160 else 128):=by
  by_cases q:B0=224
  ·rw [if_pos O,if_pos q]
  ·rw [if_neg O,if_neg q]
 have hhi:((if (B0:Int)=237 then some 159 else some 191):Option Int)=some (if B0=237 then 159 else 191):=by
  by_cases q:B0=237
  ·rw [if_pos O,if_pos q]
  ·rw [if_neg O,if_neg q]
 have hlo4:((if (B0:Int)=240 then some 144 else some 128):Option Int)=some (if B0=240 then 144 else 128):=by
  by_cases q:B0=240
  ·rw [if_pos O,if_pos q]
  ·rw [if_neg O,if_neg q]
 have hhi4:((if (B0:Int)=244 then some 143 else some 191):Option Int)=some (if B0=244 then 143 else 191):=by
  by_cases q:B0=244
  ·rw [if_pos O,if_pos q]
  ·rw [if_neg O,if_neg q]
 rw [hlo,Option.bind_some,hhi,Option.bind_some]
 have Kr:∀ lo hi:Int,((if 224<=(B0:Int) then if (B0:Int)<=239 then ck (inR ((i:Int)+1))<|(some (decide (1<n/\lo<=(B1:Int)/\(B1:Int)<=hi))).bind λ Fw=>if Fw=true then ck (inR ((i:Int)+2))<|(some (decide (2<n/\(128:Int)<=(B2:Int)/\(B2:Int)<=191))).bind λ IX=>some IX else some false else some false else some false):Option Bool)
   = some (decide (224<=B0/\B0<=239/\(1<n/\lo<=(B1:Int)/\(B1:Int)<=hi)/\2<n/\128<=B2/\B2<=191)):=by
  intro lo hi;by_cases q1:224<=B0
  ·rw [if_pos O];by_cases q2:B0<=239
   ·rw [if_pos O,bY i1,Option.bind_some];by_cases q3:1<n/\lo<=(B1:Int)/\(B1:Int)<=hi
    ·rw [if_pos (by simp only [decide_eq_true_eq]; exact q3),bY i2,Option.bind_some];refine congrArg some (eqB ?_);rw [decide_eq_true_eq,decide_eq_true_eq];constructor
     ·intro q; exact ⟨q1,q2,q3,by omega⟩
     ·intro q; have:=q.2.2.2; omega
    ·rw [if_neg (by simp only [decide_eq_true_eq]; exact q3)]
     symm; rw [bx,decide_eq_false_iff_not]
     intro q; exact q3 q.2.2.1
   ·rw [if_neg O]
    symm; rw [bx,decide_eq_false_iff_not]
    intro q; exact q2 q.2.1
  ·rw [if_neg O]
   symm; rw [bx,decide_eq_false_iff_not]
   intro q; exact q1 q.1
 rw [Kr,Option.bind_some];by_cases h32:224<=B0/\B0<=239/\(1<n/\(if B0=224 then 160 else 128)<=(B1:Int)/\(B1:Int)<=(if B0=237 then 159 else 191))/\2<n/\128<=B2/\B2<=191
 ·rw [if_pos (by simp only [decide_eq_true_eq]; exact h32)];obtain ⟨k1,k2,⟨k3,k4,k5⟩,k6,k7,k8⟩:=h32;have k4':128<=B1/\(B0=224->160<=B1):=by split at k4 <;> omega
  have k5':B1<=191/\(B0=237->B1<=159):=by split at k5 <;> omega
  clear k4 k5
  repeat rw [bY (by first|exact i1|exact i2|omega|exact aN O O)]
  rw [if_neg (show ¬ (B0 / 32=6/\1<n/\B1 / 64=2) by omega),if_pos (show B0 / 16=14/\(1<n/\B1 / 64=2)/\2<n/\B2 / 64=2 by omega),if_pos (show B0%16*4096+B1%64*64+B2%64 >= 2048/\(B0%16*4096+B1%64*64+B2%64<55296\/57344<=B0%16*4096+B1%64*64+B2%64/\B0%16*4096+B1%64*64+B2%64<=1114111) by omega)];show some _=some (if B0%16*4096+B1%64*64+B2%64=65533/\(3:Nat)=1 then _ else _);rw [if_neg O]; rfl
 rw [if_neg (by simp only [decide_eq_true_eq]; exact h32)];rw [hlo4,Option.bind_some,hhi4,Option.bind_some]
 have h32':¬ (224<=B0/\B0<=239/\1<n/\(B0=224->160<=B1)/\128<=B1/\B1<=191/\(B0=237->B1<=159)/\2<n/\128<=B2/\B2<=191):=by
  rintro ⟨k1,k2,k3,k4,k5,k6,k7,k8⟩;exact h32 ⟨k1,k2,⟨k3,by split <;> omega,by split <;> omega⟩,k8⟩
 clear h32 Kr
 have e60:∀ lo hi:Int,((if 240<=(B0:Int) then if (B0:Int)<=244 then ck (inR ((i:Int)+1))<|(some (decide (1<n/\lo<=(B1:Int)/\(B1:Int)<=hi))).bind λ r50=>if r50=true then ck (inR ((i:Int)+2))<|(some (decide (2<n/\(128:Int)<=(B2:Int)/\(B2:Int)<=191))).bind λ r54=>if r54=true then ck (inR ((i:Int)+3))<|(some (decide (3<n/\(128:Int)<=(B3:Int)/\(B3:Int)<=191))).bind λ Fz=>some Fz else some false else some false else some false else some false):Option Bool)
   = some (decide (240<=B0/\B0<=244/\(1<n/\lo<=(B1:Int)/\(B1:Int)<=hi)/\(2<n/\128<=B2/\B2<=191)/\3<n/\128<=B3/\B3<=191)):=by
  intro lo hi;by_cases q1:240<=B0
  ·rw [if_pos O];by_cases q2:B0<=244
   ·rw [if_pos O,bY i1,Option.bind_some];by_cases q3:1<n/\lo<=(B1:Int)/\(B1:Int)<=hi
    ·rw [if_pos (by simp only [decide_eq_true_eq]; exact q3),bY i2,Option.bind_some];by_cases q4:2<n/\128<=B2/\B2<=191
     ·rw [if_pos (by simp only [decide_eq_true_eq]; omega),bY i3,Option.bind_some];refine congrArg some (eqB ?_);rw [decide_eq_true_eq,decide_eq_true_eq];constructor
      ·intro q; exact ⟨q1,q2,q3,q4,by omega⟩
      ·intro q; have:=q.2.2.2.2; omega
     ·rw [if_neg (by simp only [decide_eq_true_eq]; omega)]
      symm; rw [bx,decide_eq_false_iff_not]
      intro q; exact q4 q.2.2.2.1
    ·rw [if_neg (by simp only [decide_eq_true_eq]; exact q3)]
     symm; rw [bx,decide_eq_false_iff_not]
     intro q; exact q3 q.2.2.1
   ·rw [if_neg O]
    symm; rw [bx,decide_eq_false_iff_not]
    intro q; exact q2 q.2.1
  ·rw [if_neg O]
   symm; rw [bx,decide_eq_false_iff_not]
   intro q; exact q1 q.1
 rw [e60,Option.bind_some];by_cases h60:240<=B0/\B0<=244/\(1<n/\(if B0=240 then 144 else 128)<=(B1:Int)/\(B1:Int)<=(if B0=244 then 143 else 191))/\(2<n/\128<=B2/\B2<=191)/\3<n/\128<=B3/\B3<=191
 ·rw [if_pos (by simp only [decide_eq_true_eq]; exact h60)];obtain ⟨k1,k2,⟨k3,k4,k5⟩,⟨k6,k7,k8⟩,k9,k10,k11⟩:=h60;have k4':128<=B1/\(B0=240->144<=B1):=by split at k4 <;> omega
  have k5':B1<=191/\(B0=244->B1<=143):=by split at k5 <;> omega
  clear k4 k5
  repeat rw [bY (by first|exact i1|exact i2|exact i3|omega|exact aN O O)]
  rw [if_neg (show ¬ (B0 / 32=6/\1<n/\B1 / 64=2) by omega),if_neg (show ¬ (B0 / 16=14/\(1<n/\B1 / 64=2)/\2<n/\B2 / 64=2) by omega),if_pos (show B0 / 8=30/\(1<n/\B1 / 64=2)/\(2<n/\B2 / 64=2)/\3<n/\B3 / 64=2 by omega)];generalize hv:B0%8*262144+B1%64*4096+B2%64*64+B3%64=v;rw [if_pos (show v >= 65536/\(v<55296\/57344<=v/\v<=1114111) by omega)];show some _=some (if v=65533/\(4:Nat)=1 then _ else _);rw [if_neg O]; rfl
 rw [if_neg (by simp only [decide_eq_true_eq]; exact h60)]
 have h60':¬ (240<=B0/\B0<=244/\1<n/\(B0=240->144<=B1)/\128<=B1/\B1<=191/\(B0=244->B1<=143)/\2<n/\128<=B2/\B2<=191/\3<n/\128<=B3/\B3<=191):=by
  rintro ⟨k1,k2,k3,k4,k5,k6,k7,k8,k9,k10,k11⟩;exact h60 ⟨k1,k2,⟨k3,by split <;> omega,by split <;> omega⟩,⟨k8,k9,k10⟩,k11⟩
 clear h60 e60
 symm
 refine congrArg some (if_pos ?_)
 repeat' split
 all_goals first|exact ⟨Z,Z⟩|(exfalso; omega)
theorem yv (s:Az)(hs:s.length<=1000000000):∀ (k i:Nat),s.length-i<k->i<=s.length->Ev2 (λ _ m=>fE s m (i:Int)) (·=if validD (s.drop i)=true then .inl () else .inr false):=by
 intro k
 induction k with
 | zero=>intro i h; omega
 | succ k ih=>
  intro i hk hi;refine bO ?_;simp only [fE];by_cases h:i<s.length
  ·have Fo:s.drop i≠[]:=by intro q; have:=congrArg List.length q; rw [List.length_drop] at this; simp at this; omega
   refine aO O (av _ (bs (w8 s i h hs) Z) ?_);have hv:=wc _ Fo;have hdf:=pR _ Fo;rw [List.length_drop] at hdf;unfold Do;by_cases q:(decodeL (s.drop i)).1=65533/\(decodeL (s.drop i)).2=1
   ·rw [if_pos q];refine aO rfl (ac ?_);rw [if_neg (λ z=>((hv.1 z).1 q))]
   ·rw [if_neg q];refine aM (by simp only; omega) (am (aN (by simp only; omega) (by simp only; omega)) ?_);have:=ih (i+(decodeL (s.drop i)).2) O O;rw [Int.natCast_add] at this;refine fe this λ r hr=>?_;rw [hr,<- List.drop_drop];by_cases z:validD ((s.drop i).drop (decodeL (s.drop i)).2)=true
    ·rw [if_pos z,if_pos (hv.2 ⟨q,z⟩)]
    ·rw [if_neg z,if_neg (λ y=>z (hv.1 y).2)]
  ·refine aM O (ac ?_);rw [List.drop_of_length_le O,if_pos validD_nil]
theorem yG (s:Az)(hs:s.length<=1000000000):Ev2 (λ n _=>kk n s) (·=(decide (s.length<=4096)&&validD s)):=by
 simp only [kk];refine al (λ h=>ac ?_) (λ h=>?_)
 ·have:¬ s.length<=4096:=by omega
  simp [this]
 ·have h':s.length<=4096:=by omega
  have l:=yv s hs (s.length+1) 0 O O;rw [List.drop_zero] at l
  cases hv:validD s with
  | true=>rw [hv] at l; exact pw () (bw l) (ac (by simp [h']))
  | false=>rw [hv] at l; exact pQ false (bw l) G
theorem drop_at (s:Az){i:Nat}(h:i<s.length):s.drop i=s.getD i 0::s.drop (i+1):=by
 rw [List.getD_eq_getElem?_getD,List.getElem?_eq_getElem h,ro];exact List.drop_eq_getElem_cons h
end Go.Ab.R06
end
section
namespace Go.Ab.R06
open Go.Proofs Go.Ab Go.Ab.RB
attribute [local irreducible] awp jc bG aB cq AV.sub M dO
def cmp_isNaN_string (FD:Az):Option Bool :=some (!decide (FD=FD))
theorem kD (FD:Az)(r:Bool)(h0:cmp_isNaN_string FD=some r):aB Tryz.prog 152 [eS FD] (·=.p (eB r)):=by
 unfold cmp_isNaN_string at h0;refine aZ good Tryz.func152 Z Z Z λ w0=>mP (λ v:Bool=>.p (eB v)) ?_;refine nx 8 Z (oS Z Z ?_);exact nx 3 Z (mQ (oi h0) Z (sr))
def cmp_Less_string (FD:Az)(y_1:Az):Option Bool :=((cmp_isNaN_string FD).bind λ r1=>if r1=true then(cmp_isNaN_string y_1).bind λ r4=>if (!r4)=true then some true else some (Op.bytesLess FD y_1)else some (Op.bytesLess FD y_1) : Option Bool).bind λ t7=>some t7
theorem oz (FD:Az)(y_1:Az)(r:Bool)(h0:cmp_Less_string FD y_1=some r):aB Tryz.prog 120 [eS FD,eS y_1] (·=.p (eB r)):=by
 unfold cmp_Less_string at h0;refine aZ good Tryz.func120 Z Z Z λ w0=>mP (λ v:Bool=>.p (eB v)) ?_;refine nx 5 Z (bd h0 λ o9 h1 h0=>?_);refine kN o9 (λ I6=>⟨[(4,.p (eB I6))],[]⟩) ?_ ?_
 ·exact nx 2 Z (mQ (oi h0) Z (sr))
 refine nx 2 Z (bd h1 λ r1 e2 h1=>?_);refine oK (kD FD _ e2) Z ⟨sr,trivial⟩ Tryz.call152 Z (nx 1 Z ?_);refine fB [6,7] h1 Z (λ c3 h1=>?_) λ c3 h1=>?_
 ·refine nx 1 Z (bd h1 λ r4 e5 h1=>?_);refine oK (kD y_1 _ e5) Z ⟨sr,trivial⟩ Tryz.call152 Z (nx 3 Z ?_);refine fB [10,11,12] h1 Z (λ c6 h1=>?_) λ c6 h1=>?_
  ·exact nx 6 Z (eX _ (oi h1).symm (gE Z Z))
  refine nx 2 Z (oS Z Z ?_);exact nx 3 Z (eX _ (oi h1).symm (gE Z Z))
 refine nx 7 Z (oS Z Z ?_);exact nx 3 Z (eX _ (oi h1).symm (gE Z Z))
def slices_isNaN_string (FD:Az):Option Bool :=some (!decide (FD=FD))
theorem jF (FD:Az)(r:Bool)(h0:slices_isNaN_string FD=some r):aB Tryz.prog 121 [eS FD] (·=.p (eB r)):=by
 unfold slices_isNaN_string at h0;refine aZ good Tryz.func121 Z Z Z λ w0=>mP (λ v:Bool=>.p (eB v)) ?_;refine nx 8 Z (oS Z Z ?_);exact nx 3 Z (mQ (oi h0) Z (sr))
def aJ (FD:List Az)(target_1:Az):Nat->Int->Int->Option Int|0,_,_=>none|m+1,i14,j15=>if i14<j15 then(ck (inR (i14+j15))<|ck ((0:Int)<=1)<|ck (inR (fj .u64 (IntKind.wrap .u64 (i14+j15)) 1))<|ck ((0:Int)<=fj .u64 (IntKind.wrap .u64 (i14+j15)) 1/\fj .u64 (IntKind.wrap .u64 (i14+j15)) 1<(FD.length:Int))<|(cmp_Less_string (lat FD (fj .u64 (IntKind.wrap .u64 (i14+j15)) 1)) target_1).bind λ FT=>if FT=true then ck (inR ((fj .u64 (IntKind.wrap .u64 (i14+j15)) 1)+1))<|some ((fj .u64 (IntKind.wrap .u64 (i14+j15)) 1)+1,j15)else some (i14,fj .u64 (IntKind.wrap .u64 (i14+j15)) 1) : Option (Int×Int)).bind λ q41=>aJ FD target_1 m q41.1 q41.2 else some i14
def bg (n:Nat)(FD:List Az)(target_1:Az):Option (Int×Bool) :=(aJ FD target_1 n 0 (FD.length:Int)).bind λ i29=>(if i29<(FD.length:Int) then ck ((0:Int)<=i29/\i29<(FD.length:Int))<|if lat FD i29=target_1 then some true else ck ((0:Int)<=i29/\i29<(FD.length:Int))<|(slices_isNaN_string (lat FD i29)).bind λ IW=>if IW=true then(slices_isNaN_string target_1).bind λ GJ=>some GJ else some false else some false : Option Bool).bind λ t39=>some (i29,t39)
theorem dw (n:Nat)(FD:List Az)(target_1:Az)(r:Int×Bool)(h0:bg n FD target_1=some r):aB Tryz.prog 93 [eL eS FD,eS target_1] (·=.tuple [.p (eI r.1),.p (eB r.2)]):=by
 unfold bg at h0;refine aZ good Tryz.func93 Z Z Z λ w0=>mP (λ v:Int×Bool=>.tuple [.p (eI v.1),.p (eB v.2)]) ?_;refine nx 8 Z (oLl (f:=eS) Z Z ?_);refine nx 10 Z (bd h0 λ IF h1 h0=>?_);refine kE 0 IF (λ I2=>⟨[(0,.p (eL eS FD)),(1,.p (eS target_1)),(6,.p (eI (FD.length:Int))),(7,.p (eI I2))],[]⟩) ?_ ?_
 ·refine nx 2 Z (bd h0 λ IE h1 h0=>?_);refine kN IE (λ v46=>⟨[(4,.p (eI IF)),(5,.p (eB v46))],[]⟩) ?_ ?_
  ·exact nx 2 Z (mQ (oi h0) Z (bj ⟨sr,sr,trivial⟩))
  refine nx 6 Z (fD [34,35] h1 Z (λ Ic h1=>?_) λ Ic h1=>?_)
  ·refine nx 2 Z (oE h1 Y Z Z Y λ H2 h1=>?_);refine nx 2 Z (oS Z Z ?_);refine nx 1 Z (fD [41,42] h1 Z (λ Kc h1=>?_) λ Kc h1=>?_)
   ·exact nx 14 Z (eX _ (oi h1).symm (gE Z Z))
   refine nx 2 Z (oE h1 Y Z Z Y λ H0 h1=>?_);refine nx 1 Z (bd h1 λ IW LD h1=>?_);refine oK (jF (lat FD IF) _ LD) Z ⟨sr,trivial⟩ Tryz.call121 Z (nx 1 Z ?_);refine fB [47,48] h1 Z (λ Ji h1=>?_) λ Ji h1=>?_
   ·refine nx 1 Z (bd h1 λ GJ J3 h1=>?_);refine oK (jF target_1 _ J3) Z ⟨sr,trivial⟩ Tryz.call121 Z (nx 6 Z ?_);exact eX _ (oi h1).symm (gE Z Z)
   exact nx 8 Z (eX _ (oi h1).symm (gE Z Z))
  exact nx 21 Z (eX _ (oi h1).symm (gE Z Z))
 refine lG (λ (GF:Int×Int)=>⟨[(0,.p (eL eS FD)),(1,.p (eS target_1)),(6,.p (eI (FD.length:Int))),(7,.p (eI GF.1)),(8,.p (eI GF.2))],[]⟩) (λ m (GF:Int×Int)=>aJ FD target_1 m GF.1 GF.2) Y (0,(FD.length:Int)) h1 (gE rfl rfl) ?_;rintro m ⟨i14,j15⟩ h1;replace h1:aJ FD target_1 (m+1) i14 j15=some IF:=h1;rw [aJ] at h1;refine nx 7 rfl (fD [15] h1 rfl (λ Ih h1=>?_) λ Ih h1=>?_)
 ·refine nx 2 Z (bd h1 λ ID h2 h1=>?_);refine kN ID (λ Jm=>⟨[(0,.p (eL eS FD)),(1,.p (eS target_1)),(6,.p (eI (FD.length:Int))),(7,.p (eI Jm.1)),(8,.p (eI Jm.2))],[]⟩) ?_ ?_
  ·exact nx 1 Z (eX (ID.1,ID.2) h1 (gE Z Z))
  refine nx 5 Z (oA h2 Z Z λ IP h2=>?_);refine nx 1 Z (cc' h2 λ GT h2=>?_);refine mO Z (l7 Z Z Z Z Z Z GT ?_);refine cc' h2 λ Hm h2=>mO Z (fh Z Z Z Z Z Z Z Z (iQ Hm) ?_);refine nx 6 Z (oE h2 Y Z Z Y λ FI h2=>?_);refine nx 2 Z (bd h2 λ FT IR h2=>?_);refine oK (oz (lat FD (fj .u64 (IntKind.wrap .u64 (i14+j15)) 1)) target_1 _ IR) Z ⟨sr,sr,trivial⟩ Tryz.call120 Z (nx 1 Z ?_);refine fB [27] h2 Z (λ GM h2=>?_) λ GM h2=>?_
  ·refine nx 3 Z (oA h2 Z Z λ GQ h2=>?_);exact nx 2 Z (eX _ (oi h2).symm (gE Z Z))
  exact nx 5 Z (eX _ (oi h2).symm (gE Z Z))
 exact nx 2 Z (eXi _ (oi h1).symm (gE Z Z))
def dF (FR:aa->Option aa)(l_0:List aa):Nat->(List aa)->Int->Option (List aa)|0,_,_=>none|m+1,Gq,Ii=>if Ii<(l_0.length:Int) then ck ((0:Int)<=Ii/\Ii<(l_0.length:Int))<|(FR (lat l_0 Ii)).bind λ F1=>ck ((Gq.length+[(aa.mk F1.Ar F1.BY F1.B' F1.AI F1.A')].length)*80<=140737488355328)<|ck (inR (Ii+1))<|dF FR l_0 m (Gq++[(aa.mk F1.Ar F1.BY F1.B' F1.AI F1.A')]) (Ii+1)else some Gq
mutual
def cR:Nat->aa->Option aa|0,_=>none|n+1,E8=>ck (E8.A'.length*16<=140737488355328)<|((kG n) E8.AI).bind λ r2=>some (aa.mk E8.Ar E8.BY E8.B' r2 E8.A')
def kG:Nat->(List aa)->Option (List aa)|0,_=>none|n+1,l_0=>if (l_0.length:Int)=0 then some [] else ck ((0:Int)<=(l_0.length:Int)/\(l_0.length:Int)<=9223372036854775807/\(80:Int)*(l_0.length:Int)<=281474976710656)<|(dF (cR n) l_0 n ([]:List aa) 0).bind λ KT=>some KT
end
theorem pZ (n:Nat):(∀ (E8:aa) (r:aa),cR n E8=some r->cq Tryz.prog 96 [.p (.agg (aa.cs E8))] [] (λ x y=>x=.agg [.p (eI r.Ar),.p (eI r.BY),.p (eS r.B'),.stk 2000000 5 (r.AI.map ah),.vec 2000001 1 0 (r.A'.map eS)]/\y=[]))/\(∀ (l_0:List aa) (r:(List aa)),kG n l_0=some r->cq Tryz.prog 126 [.p (eL ah l_0)] [] (λ x y=>x=.stk 2000000 5 (r.map ah)/\y=[])):=by
 induction n with
 | zero=>exact ⟨(by intro E8 r h0; cases h0),(by intro l_0 r h0; cases h0)⟩
 | succ n ih=>
 obtain ⟨F3,F2⟩:=ih;refine ⟨?_,?_⟩
 ·skip
  intro E8 r h0;rw [cR] at h0;refine gw good [800000,800001] [] Tryz.func96 Z Z Z Z Z λ w0 F=>mPo (λ v:aa=>.agg [.p (eI v.Ar),.p (eI v.BY),.p (eS v.B'),.stk 2000000 5 (v.AI.map ah),.vec 2000001 1 0 (v.A'.map eS)]) (λ v=>[]) ?_;refine nx 9 rfl (cc' h0 λ Hw h0=>?_);refine mO rfl (bh [] [] 101000 101001 (jX E8.A' Hw) Z Z Z Z Z ⟨sr,trivial⟩ Z Z trivial Z Z Z Z Z Z Z Z Tryz.call116 Z Z ?_);refine nx 7 rfl (bd h0 λ r2 e3 h0=>?_);refine mO rfl (bh [] [] 102000 102001 (F2 E8.AI _ e3) Z Z Z Z Z ⟨sr,trivial⟩ Z Z trivial Z Z Z Z Z Z Z Z Tryz.call126 Z Z ?_);exact nx 9 rfl (mQo (oi h0) (aT (bu 102000 800000 Z Z Z Z Z) (aT (bu 101000 800001 Z Z Z Z Z) (bK _))) Z Z Z Z (sr) trivial)
 ·skip
  intro l_0 r h0;rw [kG] at h0;refine gw good [800000] [] Tryz.func126 Z Z Z Z Z λ w0 F=>mPo (λ v:(List aa)=>.stk 2000000 5 (v.map ah)) (λ v=>[]) ?_;refine nx 8 rfl (oLl (f:=ah) Z Z ?_);refine nx 2 rfl (fD [8] h0 rfl (λ c1 h0=>?_) λ c1 h0=>?_)
  ·exact nx 6 Z (mQo (oi h0) (bK _) Z Z Z Z (AV.sub_nilstk _ _) trivial)
  refine nx 5 Z (oLl (f:=ah) Z Z ?_);refine cc' h0 λ GX h0=>mO Z (yr Z Z Z Z Z Z Z Z GX Z Z ?_);refine nx 6 Z (oLl (f:=ah) Z Z ?_);refine nx 3 Z (bd h0 λ HM h1 h0=>?_);refine kE 0 HM (λ IU=>⟨[(3,.stk 11 5 (IU.map ah))],[]⟩) ?_ ?_
  ·exact nx 7 Z (mQo (oi h0) (aT (bu 11 800000 Z Z Z Z Z) (bK _)) Z Z Z Z (sr) trivial)
  refine lG (λ (GL:(List aa)×Int)=>⟨[(3,.stk 11 5 (GL.1.map ah)),(12,.p (eL ah l_0)),(13,.p (eI (l_0.length:Int))),(14,.p (eI GL.2))],[]⟩) (λ m (GL:(List aa)×Int)=>dF (cR n) l_0 m GL.1 GL.2) Y (([]:List aa),0) h1 (gE rfl rfl) ?_;rintro m ⟨Gq,Ii⟩ h1;replace h1:dF (cR n) l_0 (m+1) Gq Ii=some HM:=h1;rw [dF] at h1;refine nx 5 rfl (fD [15] h1 rfl (λ IT h1=>?_) λ IT h1=>?_)
  ·refine nx 6 Z (oE h1 aa.Eh Z Z Y λ Gs h1=>?_);refine nx 7 Z (bd h1 λ F1 e17 h1=>?_);refine mO Z (ki (λ _ hq=>bh [] [] 102000 102002 (F3 (lat l_0 Ii) _ e17) Z Z Z Z Z ⟨sr,trivial⟩ Z Z trivial Z Z Z Z Z Z Z Z Tryz.call96 Z Z hq) (gQ 102000 Z Z Z) ?_);refine mG (jb 20 (y:=.p (.agg (aa.cs (aa.mk F1.Ar F1.BY F1.B' F1.AI F1.A')))) Z (gG ⟨sr,sr,sr,sr,AV.sub_vec _ _ _ _,trivial⟩)) (mO Z (bM ah [(aa.mk F1.Ar F1.BY F1.B' F1.AI F1.A')] Z Z Z Z Z Z Z Z Z Z Z Z Z (by first|rfl|(simp only [n6,ph,aa.Eo]; done)|(simp only [n6,ph,aa.Eo]; rfl)) ?_));refine cc' h1 λ GT h1=>mO Z (A6 ah Gq [(aa.mk F1.Ar F1.BY F1.B' F1.AI F1.A')] Z Z Z Z Z Z Z Z Z Z Z Z (λ x=>congrArg List.length (aa.Eh x)) (Nat.zero_lt_succ _) Z Z Z Z GT Z Z ?_);refine nx 3 Z (oA h1 Z Z λ FI h1=>?_);exact nx 2 Z (eX (Gq++[(aa.mk F1.Ar F1.BY F1.B' F1.AI F1.A')],Ii+1) h1 (gE Z Z))
  exact nx 2 Z (eXi _ (oi h1).symm (gE Z Z))
theorem kw (n:Nat):∀ (E8:aa) (r:aa),cR n E8=some r->cq Tryz.prog 96 [.p (.agg (aa.cs E8))] [] (λ x y=>x=.agg [.p (eI r.Ar),.p (eI r.BY),.p (eS r.B'),.stk 2000000 5 (r.AI.map ah),.vec 2000001 1 0 (r.A'.map eS)]/\y=[]):=(pZ n).1
def gf (n:Nat)(E8:aa)(key_1:Az):Option (aa×Bool) :=(bg n E8.A' key_1).bind λ r1=>(if E8.Ar=5 then if (!r1.2)=true then some true else some (decide ((E8.AI.length:Int)<=r1.1))else some true : Option Bool).bind λ t5=>if t5=true then some ((aa.mk 0 0 ([]:Az) [] []),false)else ck ((0:Int)<=r1.1/\r1.1<(E8.AI.length:Int))<|(cR n (lat E8.AI r1.1)).bind λ r8=>some ((aa.mk r8.Ar r8.BY r8.B' r8.AI r8.A'),true)
theorem jH (n:Nat)(E8:aa)(key_1:Az)(r:aa×Bool)(h0:gf n E8 key_1=some r):cq Tryz.prog 59 [.p (.agg (aa.cs E8)),.p (eS key_1)] [] (λ x y=>x=.tuple [.agg [.p (eI r.1.Ar),.p (eI r.1.BY),.p (eS r.1.B'),.stk 2000000 5 (r.1.AI.map ah),.vec 2000001 1 0 (r.1.A'.map eS)],.p (eB r.2)]/\y=[]):=by
 unfold gf at h0;refine gw good [800000,800001] [] Tryz.func59 Z Z Z Z Z λ w0 F=>mPo (λ v:aa×Bool=>.tuple [.agg [.p (eI v.1.Ar),.p (eI v.1.BY),.p (eS v.1.B'),.stk 2000000 5 (v.1.AI.map ah),.vec 2000001 1 0 (v.1.A'.map eS)],.p (eB v.2)]) (λ v=>[]) ?_;refine nx 11 Z (bd h0 λ r1 e2 h0=>?_);refine oK (dw _ E8.A' key_1 _ e2) Z ⟨sr,sr,trivial⟩ Tryz.call93 Z (nx 8 Z ?_);refine bd h0 λ o11 h1 h0=>kN o11 (λ v12=>⟨[(2,.ptr 2 0),(4,.ptr 4 0),(6,.p (eI r1.1)),(28,.p (eB v12))],[(2,(aa.cs E8).map .p),(4,[.p (eI 0),.p (eI 0),.p (eS ([]:Az)),.p (.val (.slice none 0 0)),.p (.val (.slice none 0 0))])]⟩) ?_ ?_
 ·refine nx 1 Z (fB [28] h0 Z (λ c6 h0=>?_) λ c6 h0=>?_)
  ·exact nx 8 Z (mQo (oi h0) (bK _) Z Z Z Z (bj ⟨AV.sub_trans AA (z6 ⟨sr,sr,sr,AV.sub_nilstk _ _,AV.sub_nilvec _ _ _,trivial⟩),sr,trivial⟩) trivial)
  refine nx 7 Z (oE h0 aa.Eh Z Z Y λ Lo h0=>?_);refine nx 1 Z (bd h0 λ r8 e9 h0=>?_);refine mO Z (bh [] [] 101000 101002 (kw _ (lat E8.AI r1.1) _ e9) Z Z Z Z Z ⟨sr,trivial⟩ Z Z trivial Z Z Z Z Z Z Z Z Tryz.call96 Z Z ?_);exact nx 4 Z (mQo (oi h0) (aT (bu 101000 800000 Z Z Z Z Z) (aT (bu 101001 800001 Z Z Z Z Z) (bK _))) Z Z Z Z (bj ⟨sr,sr,trivial⟩) trivial)
 refine nx 5 Z (fN [17,18] h1 Z (λ c3 h1=>?_) λ c3 h1=>?_)
 ·refine nx 4 Z (fB [20,21,22] h1 Z (λ c4 h1=>?_) λ c4 h1=>?_)
  ·exact nx 7 Z (eX _ (oi h1).symm (gE Z Z))
  refine nx 3 Z (oLl (f:=ah) Z Z ?_);exact nx 3 Z (eX _ (oi h1).symm (gE Z Z))
 exact nx 11 Z (eX _ (oi h1).symm (gE Z Z))
def fC (Fx:aa->Option aa):Nat->Option Unit|0=>none|_m+1=>if 0<(([]:List aa).length:Int) then ck ((0:Int)<=0/\0<(([]:List aa).length:Int))<|(Fx (lat ([]:List aa) 0)).bind λ _r6=>ck ((0:Int)<=0/\0<(([]:List aa).length:Int))<|none else some ()
def dk (Fx:aa->Option aa)(E8:aa):Nat->Int->(List aa)->Option (List aa)|0,_,_=>none|m+1,Fp,l18=>if Fp<(E8.AI.length:Int) then ck ((0:Int)<=Fp/\Fp<(l18.length:Int))<|(Fx (lat l18 Fp)).bind λ FT=>ck ((0:Int)<=Fp/\Fp<(l18.length:Int))<|ck (inR (Fp+1))<|dk Fx E8 m (Fp+1) (l18.set Fp.toNat FT)else some l18
def cu:Nat->aa->Option aa|0,_=>none|n+1,E8=>ck (E8.A'.length*16<=140737488355328)<|if E8.AI.isEmpty=true then(fC (cu n) n ).bind λ _q28=>some (aa.mk E8.Ar E8.BY E8.B' ([]:List aa) E8.A')else ck (E8.AI.length*80<=140737488355328)<|(dk (cu n) E8 n 0 E8.AI).bind λ l27=>some (aa.mk E8.Ar E8.BY E8.B' l27 E8.A')
theorem pD (n:Nat):∀ (E8:aa) (r:aa),cu n E8=some r->aB Tryz.prog 89 [.agg (aa.cs E8)] (·=.p (.agg (aa.cs r))):=by
 induction n with
 | zero=>intro E8 r h0; cases h0
 | succ n ih=>
 have FV:=ih;intro E8 r h0;rw [cu] at h0;refine aZ good Tryz.func89 Z Z Z λ w0=>mP (λ v:aa=>.p (.agg (aa.cs v))) ?_;refine nx 9 Z (cc' h0 λ Hw h0=>?_);refine oK (gt E8.A' Hw) Z ⟨sr,trivial⟩ Tryz.call116 Z (nx 7 Z ?_);refine xY (b:=E8.AI.isEmpty) (λ c2=>?_) (λ c2=>?_)
 ·replace h0:=zK c2 h0;refine mO Z (bA (iE E8.AI c2) Z Z Z Z ⟨sr,trivial⟩ Tryz.call117 Z ?_);refine nx 8 Z (oLl (f:=ah) Z Z ?_);refine nx 3 Z (bd h0 λ Hf h1 h0=>?_);refine kE 0 Hf (λ v31=>⟨[(1,.ptr 1 0),(2,.ptr 2 0)],[(1,[.p (eI E8.Ar),.p (eI E8.BY),.p (eS E8.B'),.p (eL ah ([]:List aa)),.p (eL eS E8.A')]),(2,[.p (eI 0),.p (eI 0),.p (eS ([]:Az)),.p (.val (.slice none 0 0)),.p (.val (.slice none 0 0))])]⟩) ?_ ?_
  ·exact nx 7 Z (mQ (oi h0) Z (sr))
  refine lG (λ (q32:Unit)=>⟨[(1,.ptr 1 0),(2,.ptr 2 0),(14,.p (eI (([]:List aa).length:Int))),(15,.p (eI 0))],[(1,[.p (eI E8.Ar),.p (eI E8.BY),.p (eS E8.B'),.p (eL ah ([]:List aa)),.p (eL eS E8.A')]),(2,[.p (eI 0),.p (eI 0),.p (eS ([]:Az)),.p (.val (.slice none 0 0)),.p (.val (.slice none 0 0))])]⟩) (λ m (q32:Unit)=>fC (cu n) m ) Y () h1 (gE rfl rfl) ?_;rintro m _ h1;replace h1:fC (cu n) (m+1)  = some Hf:=h1;rw [fC] at h1;refine nx 5 rfl (fD [16] h1 rfl (λ c4 h1=>?_) λ c4 h1=>?_)
  ·refine nx 9 Z (cc' h1 λ J0 h1=>?_);refine bd h1 λ r6 e7 h1=>cc' h1 λ JX h1=>?_
   cases h1
  exact nx 2 Z (eXi _ (oi h1).symm (gE Z Z))
 replace h0:=zE c2 h0;refine cc' h0 λ Hg h0=>mO Z (bh [] [] 101000 101001 (iG E8.AI c2 Hg) Z Z Z Z Z ⟨sr,trivial⟩ Z Z trivial Z Z Z Z Z Z Z Z Tryz.call117 Z (kQ Z (j2 _) Z) ?_);refine nx 12 Z (bd h0 λ G0 h1 h0=>?_);refine kE 0 G0 (λ It=>⟨[(1,.ptr 1 0),(2,.ptr 2 0)],[(1,[.p (eI E8.Ar),.p (eI E8.BY),.p (eS E8.B'),.arr 101000 5 0 It.length,.p (eL eS E8.A')]),(2,[.p (eI 0),.p (eI 0),.p (eS ([]:Az)),.p (.val (.slice none 0 0)),.p (.val (.slice none 0 0))]),(101000,iK ah It)]⟩) ?_ ?_
 ·refine nx 3 Z (mG (oa (sl':=[(1,.ptr 1 0),(2,.ptr 2 0)]) (ob':=[(1,[.p (eI E8.Ar),.p (eI E8.BY),.p (eS E8.B'),.p (eL ah G0),.p (eL eS E8.A')]),(2,[.p (eI 0),.p (eI 0),.p (eS ([]:Az)),.p (.val (.slice none 0 0)),.p (.val (.slice none 0 0))])]) 101000 5 ah G0 Z Z Z (λ x=>⟨congrArg List.length (aa.Eh x),by rw [aa.Eh]; rfl⟩) ⟨⟨_,Z,.inl Z⟩,⟨_,Z,.inl Z⟩,trivial⟩ ⟨⟨Z,_,Z,⟨.inl Z,.inl Z,.inl Z,.inr ⟨G ,Z⟩,.inl Z,trivial⟩⟩,⟨Z,_,Z,⟨.inl Z,.inl Z,.inl Z,.inl Z,.inl Z,trivial⟩⟩,trivial⟩) ?_);exact nx 4 Z (mQ (oi h0) Z (sr))
 refine lG (λ (FG:Int×(List aa))=>⟨[(1,.ptr 1 0),(2,.ptr 2 0),(14,.p (eI (E8.AI.length:Int))),(15,.p (eI FG.1))],[(1,[.p (eI E8.Ar),.p (eI E8.BY),.p (eS E8.B'),.arr 101000 5 0 FG.2.length,.p (eL eS E8.A')]),(2,[.p (eI 0),.p (eI 0),.p (eS ([]:Az)),.p (.val (.slice none 0 0)),.p (.val (.slice none 0 0))]),(101000,iK ah FG.2)]⟩) (λ m (FG:Int×(List aa))=>dk (cu n) E8 m FG.1 FG.2) Y (0,E8.AI) h1 (cF (iB ⟨er rfl,er rfl,er rfl,er rfl,trivial⟩ ⟨⟨_,rfl,⟨sr,sr,sr,AV.sub_of_eq (congrArg (AV.arr 101000 5 0) G),sr,trivial⟩⟩,⟨_,rfl,⟨sr,sr,sr,sr,sr,trivial⟩⟩,⟨_,rfl,eF _⟩,trivial⟩)) ?_;rintro m ⟨Fp,l18⟩ h1;replace h1:dk (cu n) E8 (m+1) Fp l18=some G0:=h1;rw [dk] at h1;refine nx 5 rfl (fD [16] h1 rfl (λ GI h1=>?_) λ GI h1=>?_)
 ·refine nx 9 Z (cc' h1 λ FI h1=>?_);refine bd h1 λ FT IR h1=>cc' h1 λ G3 h1=>mG (cF (t:=⟨[(1,.ptr 1 0),(2,.ptr 2 0),(3,.p (eI Fp)),(14,.p (eI (E8.AI.length:Int))),(15,.p (eI Fp))],[(1,[.p (eI E8.Ar),.p (eI E8.BY),.p (eS E8.B'),.arr 101000 5 0 l18.length,.p (eL eS E8.A')]),(2,[.p (eI 0),.p (eI 0),.p (eS ([]:Az)),.p (.val (.slice none 0 0)),.p (.val (.slice none 0 0))]),(101000,iK ah l18)]⟩) (iB ⟨er Z,er Z,er Z,er Z,er Z,trivial⟩ ⟨⟨_,Z,⟨sr,sr,sr,AV.sub_of_eq (congrArg (AV.arr 101000 5 0) G),sr,trivial⟩⟩,⟨_,Z,⟨sr,sr,sr,sr,sr,trivial⟩⟩,⟨_,Z,eF _⟩,trivial⟩)) (mS ⟨1,[10],(λ _=>.none),(λ _=>[(1,.ptr 1 0),(2,.ptr 2 0),(3,.p (eI Fp)),(14,.p (eI (E8.AI.length:Int))),(15,.p (eI Fp))]),(by2 ([(1,[.p (eI E8.Ar),.p (eI E8.BY),.p (eS E8.B'),.arr 101000 5 0 l18.length,.p (eL eS E8.A')]),(2,[.p (eI 0),.p (eI 0),.p (eS ([]:Az)),.p (.val (.slice none 0 0)),.p (.val (.slice none 0 0))]),(101000,iK ah l18)]) ([(101000,iK ah (l18.set Fp.toNat FT)),(1,[.p (eI E8.Ar),.p (eI E8.BY),.p (eS E8.B'),.arr 101000 5 0 l18.length,.p (eL eS E8.A')]),(2,[.p (eI 0),.p (eI 0),.p (eS ([]:Az)),.p (.val (.slice none 0 0)),.p (.val (.slice none 0 0))]),(101000,iK ah l18)]))⟩ Z Z Z ⟨Z,Z,Z,Z,Z,trivial⟩ (lt1 ⟨Z,Z,Z,Z,Z,trivial⟩) Z Z Z Z ?_);refine ak (λ _=>.ptr 1 3) Z Z Z (cV Z Y) (lt1 Z) (ai Z (af [(1,_)] ⟨.inl Z,trivial⟩ (λ sl E6 K hK=>ae Z (ap Z Z Z Z Z Z Z Z (E6 _ _ Z) hK)) aj)) (ak (λ _=>.arr 101000 5 0 l18.length) Z Z Z (cV Z Y) (lt1 Z) (ai Z (af [(18,_)] ⟨.inr ⟨0,_,Z,Z,Z⟩,trivial⟩ (λ sl E6 K hK=>ae Z (bv Z Z Z Z Z (E6 _ _ Z) Z Z hK)) aj)) ?_);refine ak (λ _=>.p (eI Fp)) Z Z Z (cV Z Y) (lt1 Z) (ai Z (af [(3,_)] ⟨.inl Z,trivial⟩ (λ sl E6 K hK=>ae Z (bH Z Z Z (E6 _ _ Z) hK)) aj)) (ak (λ _=>.ptr 1 3) Z Z Z (cV Z Y) (lt1 Z) (ai Z (af [(1,_)] ⟨.inl Z,trivial⟩ (λ sl E6 K hK=>ae Z (ap Z Z Z Z Z Z Z Z (E6 _ _ Z) hK)) aj)) ?_);refine ak (λ _=>.arr 101000 5 0 l18.length) Z Z Z (cV Z Y) (lt1 Z) (ai Z (af [(21,_)] ⟨.inr ⟨3,_,Z,Z,Z⟩,trivial⟩ (λ sl E6 K hK=>ae Z (bv Z Z Z Z Z (E6 _ _ Z) Z Z hK)) aj)) (ak (λ _=>.p (eI Fp)) Z Z Z (cV Z Y) (lt1 Z) (ai Z (af [(3,_)] ⟨.inl Z,trivial⟩ (λ sl E6 K hK=>ae Z (bH Z Z Z (E6 _ _ Z) hK)) aj)) ?_);refine ak (λ _=>.ptr 101000 (0+Fp.toNat*5)) Z Z Z (cV Z Y) (lt1 Z) (ai Z (af [(22,_),(23,_)] ⟨.inr ⟨4,_,Z,Z,Z⟩,.inr ⟨5,_,Z,Z,Z⟩,trivial⟩ (λ sl E6 K hK=>ae Z (kb Z Z Z Z Z Z (E6 _ _ Z) (E6 _ _ Z) Z FI hK)) aj)) (ak (λ _=>.p (.agg (aa.cs (lat l18 Fp)))) Z Z Z (cV Z Y) (lt1 Z) (ai Z (af [(24,_)] ⟨.inr ⟨6,_,Z,Z,Z⟩,trivial⟩ (λ sl E6 K hK=>ae Z (rP ah aa.cs l18 Z Z Z Z Z (E6 _ _ Z) Z Z Z FI aa.Eh Y hK)) aj)) ?_);refine ak (λ _=>.p (.agg (aa.cs FT))) Z Z Z (cV Z Y) (lt1 Z) (ai Z (af [(25,_)] ⟨.inr ⟨7,_,Z,Z,Z⟩,trivial⟩ (λ sl E6 K hK=>ae Z (bA (FV (lat l18 Fp) _ IR) Z Z Z (az (E6 _ _ Z) bz) ⟨sr,trivial⟩ Tryz.call89 Z hK)) aj)) (ak (λ _=>.ptr 101000 (0+Fp.toNat*5)) Z Z Z (cV Z Y) (lt1 Z) (ai Z (af [(19,_),(20,_)] ⟨.inr ⟨1,_,Z,Z,Z⟩,.inr ⟨2,_,Z,Z,Z⟩,trivial⟩ (λ sl E6 K hK=>ae Z (kb Z Z Z Z Z Z (E6 _ _ Z) (E6 _ _ Z) Z G3 hK)) aj)) ?_);refine ep [(26,_),(27,_)] Z ⟨.inr ⟨8,_,Z,Z,Z⟩,.inr ⟨9,_,Z,Z,Z⟩,trivial⟩ Z (λ sl E6 K hK=>ae Z (qa ah aa.cs l18 FT (n:=Fp) Z Z Z (E6 _ _ Z) (E6 _ _ Z) Z Z Z G3 aa.Eh Y Y hK)) (gV ?_);refine nx 2 Z (oA h1 Z Z λ GQ h1=>?_);exact nx 2 Z (eX (Fp+1,l18.set Fp.toNat FT) h1 (cF (iB ⟨er Z,er Z,er Z,er Z,trivial⟩ ⟨⟨_,Z,⟨sr,sr,sr,AV.sub_of_eq (congrArg (AV.arr 101000 5 0) G),sr,trivial⟩⟩,⟨_,Z,⟨sr,sr,sr,sr,sr,trivial⟩⟩,⟨_,Z,eF _⟩,trivial⟩)))
 exact nx 2 Z (eXi _ (oi h1).symm (cF (iB ⟨er Z,er Z,trivial⟩ ⟨⟨_,Z,⟨sr,sr,sr,AV.sub_of_eq (congrArg (AV.arr 101000 5 0) G),sr,trivial⟩⟩,⟨_,Z,⟨sr,sr,sr,sr,sr,trivial⟩⟩,⟨_,Z,eF _⟩,trivial⟩)))
def kL (E5:Az):Option aa :=some (aa.mk 3 0 E5 [] [])
theorem mB (E5:Az)(r:aa)(h0:kL E5=some r):aB Tryz.prog 75 [eS E5] (·=.p (.agg (aa.cs r))):=by
 unfold kL at h0;refine aZ good Tryz.func75 Z Z Z λ w0=>mP (λ v:aa=>.p (.agg (aa.cs v))) ?_;exact nx 11 Z (mQ (oi h0) Z (cv ⟨.inl Z,.inl Z,.inl Z,.inr ⟨Z,Z⟩,.inr ⟨Z,Z⟩,trivial⟩))
def kP (n:Nat)(E8:aa)(key_1:Az)(x_2:aa):Option aa :=(cR n E8).bind λ r1=>(bg n r1.A' key_1).bind λ r3=>(if (r1.AI.length:Int)<r3.1 then some true else if r3.2=true then some (decide (r3.1=(r1.AI.length:Int)))else some false : Option Bool).bind λ t7=>if t7=true then some (aa.mk r1.Ar r1.BY r1.B' r1.AI r1.A')else if (!r3.2)=true then none else(cR n x_2).bind λ Gl=>ck ((0:Int)<=r3.1/\r3.1<(r1.AI.length:Int))<|some (aa.mk r1.Ar r1.BY r1.B' (qT r1.AI r3.1 Gl) r1.A')
theorem pj (n:Nat)(E8:aa)(key_1:Az)(x_2:aa)(r:aa)(h0:kP n E8 key_1 x_2=some r):aB Tryz.prog 91 [.agg (aa.cs E8),eS key_1,.agg (aa.cs x_2)] (·=.p (.agg (aa.cs r))):=by
 unfold kP at h0;refine aZ good Tryz.func91 Z Z Z λ w0=>mP (λ v:aa=>.p (.agg (aa.cs v))) ?_;refine nx 9 Z (bd h0 λ r1 e2 h0=>?_);refine mO Z (bh [] [] 101000 101002 (kw _ E8 _ e2) Z Z Z Z Z ⟨sr,trivial⟩ Z Z trivial Z Z Z Z Z Z Z Z Tryz.call96 Z Z ?_);refine nx 8 Z (bd h0 λ r3 e4 h0=>?_);refine oK (dw _ r1.A' key_1 _ e4) Z ⟨AV.sub_vec _ _ _ _,sr,trivial⟩ Tryz.call93 Z (nx 8 Z ?_);refine bd h0 λ o14 h1 h0=>kN o14 (λ v15=>⟨[(1,.p (eS key_1)),(5,.ptr 5 0),(6,.ptr 6 0),(7,.ptr 7 0),(8,.p (eI r3.1)),(9,.p (eB r3.2)),(33,.p (eB v15))],[(5,(aa.cs x_2).map .p),(6,[.p (eI 0),.p (eI 0),.p (eS ([]:Az)),.p (.val (.slice none 0 0)),.p (.val (.slice none 0 0))]),(7,[.p (eI r1.Ar),.p (eI r1.BY),.p (eS r1.B'),.stk 101000 5 (r1.AI.map ah),.vec 101001 1 0 (r1.A'.map eS)])]⟩) ?_ ?_
 ·refine nx 1 Z (fB [33] h0 Z (λ c8 h0=>?_) λ c8 h0=>?_)
  ·refine nx 6 Z (mG (gQ 101000 Z Z Z) ?_);exact nx 1 Z (mQ (oi h0) Z (gG ⟨sr,sr,sr,sr,AV.sub_vec _ _ _ _,trivial⟩))
  refine nx 8 Z (fB [36] h0 Z (λ c9 h0=>?_) λ c9 h0=>?_)
  ·refine nx 7 Z (mO Z (bM eS [key_1] Z Z Z Z Z Z Z Z Z Z Z Z Z Z ?_))
   cases h0
  refine nx 3 rfl (bd h0 λ Gl J9 h0=>?_);refine cc' h0 λ Gt h0=>mG (gE (t:=⟨[(5,.ptr 5 0),(6,.ptr 6 0),(7,.ptr 7 0),(8,.p (eI r3.1))],[(5,(aa.cs x_2).map .p),(6,[.p (eI 0),.p (eI 0),.p (eS ([]:Az)),.p (.val (.slice none 0 0)),.p (.val (.slice none 0 0))]),(7,[.p (eI r1.Ar),.p (eI r1.BY),.p (eS r1.B'),.stk 101000 5 (r1.AI.map ah),.vec 101001 1 0 (r1.A'.map eS)])]⟩) Z Z) (mS ⟨2,[4,6],(by3 (.some (en [] 102000 102002)) (.some (Nat.beq · 101000)) .none),(λ _=>[(5,.ptr 5 0),(6,.ptr 6 0),(7,.ptr 7 0),(8,.p (eI r3.1))]),(by3 ([(5,[.p (eI x_2.Ar),.p (eI x_2.BY),.p (eS x_2.B'),.p (eL ah x_2.AI),.p (eL eS x_2.A')]),(6,[.p (eI 0),.p (eI 0),.p (eS ([]:Az)),.p (.val (.slice none 0 0)),.p (.val (.slice none 0 0))]),(7,[.p (eI r1.Ar),.p (eI r1.BY),.p (eS r1.B'),.stk 101000 5 (r1.AI.map ah),.vec 101001 1 0 (r1.A'.map eS)])]) ([(5,[.p (eI x_2.Ar),.p (eI x_2.BY),.p (eS x_2.B'),.p (eL ah x_2.AI),.p (eL eS x_2.A')]),(6,[.p (eI 0),.p (eI 0),.p (eS ([]:Az)),.p (.val (.slice none 0 0)),.p (.val (.slice none 0 0))]),(7,[.p (eI r1.Ar),.p (eI r1.BY),.p (eS r1.B'),.stk 101000 5 (r1.AI.map ah),.vec 101001 1 0 (r1.A'.map eS)])]) ([(5,[.p (eI x_2.Ar),.p (eI x_2.BY),.p (eS x_2.B'),.p (eL ah x_2.AI),.p (eL eS x_2.A')]),(6,[.p (eI 0),.p (eI 0),.p (eS ([]:Az)),.p (.val (.slice none 0 0)),.p (.val (.slice none 0 0))]),(7,[.p (eI r1.Ar),.p (eI r1.BY),.p (eS r1.B'),.stk 101000 5 ((qT r1.AI r3.1 Gl).map ah),.vec 101001 1 0 (r1.A'.map eS)])]))⟩ Z Z Z ⟨rfl,rfl,rfl,rfl,trivial⟩ (lt2 ⟨rfl,rfl,rfl,rfl,trivial⟩ ⟨rfl,rfl,rfl,rfl,trivial⟩) Z Z Z Z ?_);refine ak (λ _=>.ptr 7 3) Z Z Z (bR Z Z Y) (lt2 Z Z) (ai rfl (af [(7,_)] ⟨.inl rfl,trivial⟩ (λ sl E6 K hK=>ae rfl (ap Z Z Z Z Z Z Z Z (E6 _ _ rfl) hK)) (af [(7,_)] ⟨.inl rfl,trivial⟩ (λ sl E6 K hK=>ae rfl (ap Z Z Z Z Z Z Z Z (E6 _ _ rfl) hK)) aj))) (ak (by3 (.stk 101000 5 (r1.AI.map ah)) (.stk 101000 5 (r1.AI.map ah)) .undef) Z Z Z (bR Z Z Y) (lt2 Z Z) (ai rfl (af [(51,_)] ⟨.inr ⟨0,_,rfl,rfl,rfl⟩,trivial⟩ (λ sl E6 K hK=>ae rfl (bv Z Z Z Z Z (E6 _ _ rfl) Z Z hK)) (af [(51,_)] ⟨.inr ⟨0,_,rfl,rfl,rfl⟩,trivial⟩ (λ sl E6 K hK=>ae rfl (bv Z Z Z Z Z (E6 _ _ rfl) Z Z hK)) aj))) ?_);refine ak (λ _=>.p (eI r3.1)) Z Z Z (bR Z Z Y) (lt2 Z Z) (ai rfl (af [(8,_)] ⟨.inl rfl,trivial⟩ (λ sl E6 K hK=>ae rfl (bH Z Z Z (E6 _ _ rfl) hK)) (af [(8,_)] ⟨.inl rfl,trivial⟩ (λ sl E6 K hK=>ae rfl (bH Z Z Z (E6 _ _ rfl) hK)) aj))) (ak (λ _=>.p (.agg (aa.cs x_2))) Z Z Z (bR Z Z Y) (lt2 Z Z) (ai rfl (ai rfl (af [(5,_)] ⟨.inl rfl,trivial⟩ (λ sl E6 K hK=>ae rfl (a6 Z Z Z Z Z (E6 _ _ rfl) Z Z Z hK)) aj))) ?_);refine fL (λ _=>.agg [.p (eI Gl.Ar),.p (eI Gl.BY),.p (eS Gl.B'),.p (eL ah Gl.AI),.vec 102001 1 0 (Gl.A'.map eS)]) [(54,_)] rfl ⟨.inr ⟨3,_,rfl,rfl,rfl⟩,trivial⟩ Z Z (cV rfl Y) (lt2 (λ h=>absurd h (by decide)) Y) (λ sl E6 K hK=>ae rfl (pT 102000 (λ _ hq=>bh [] [] 102000 102002 (kw _ x_2 _ J9) Z Z Z (az (E6 _ _ rfl) bz) rfl ⟨sr,trivial⟩ Z Z trivial Z Z Z Z Z Z Z Z Tryz.call96 Z Z hq) Z Z Z hK)) (ak (by3 (.ptr 101000 (r3.1.toNat*5)) (.ptr 101000 (r3.1.toNat*5)) .undef) Z Z Z (bR Z Z Y) (lt2 Z Z) (ai rfl (af [(52,_),(53,_)] ⟨.inr ⟨1,_,rfl,rfl,rfl⟩,.inr ⟨2,_,rfl,rfl,rfl⟩,trivial⟩ (λ sl E6 K hK=>ae rfl (kY ah r1.AI Z Z Z Z Z Z (E6 _ _ rfl) (E6 _ _ rfl) rfl Gt hK)) (ai rfl aj))) ?_);refine ep [(55,_),(56,_)] rfl ⟨.inr ⟨4,_,rfl,rfl,rfl⟩,.inr ⟨5,_,rfl,rfl,rfl⟩,trivial⟩ rfl (λ sl E6 K hK=>ae rfl (vZ ah r1.AI Gl 7 3 Z Z Z Z (E6 _ _ rfl) Z Z Gt (E6 _ _ rfl) (AV.sub_trans (gG (ds:=aa.cs Gl) ⟨sr,sr,sr,sr,AV.sub_vec _ _ _ _,trivial⟩) (AV.sub_of_eq (congrArg AV.p (aa.Eo Gl).symm))) ((λ x=>by cases x; rfl:∀ x,(AV.p (ah x)).cellsA=some ((ah x).cells.map .p)) Gl) (λ x=>congrArg List.length (aa.Eh x)) Z Z Z (by simp only [qT,List.map_set]; rfl) hK)) (gV ?_);refine nx 6 rfl (mG (gQ 101000 Z Z Z) ?_);exact nx 1 rfl (mQ (oi h0) rfl (gG ⟨sr,sr,sr,sr,AV.sub_vec _ _ _ _,trivial⟩))
 refine nx 4 Z (mO Z (ss ah r1.AI Z Z Z Z Z Z ?_));refine nx 2 Z (fD [23,24] h1 Z (λ c5 h1=>?_) λ c5 h1=>?_)
 ·exact nx 10 Z (eX _ (oi h1).symm (gE Z Z))
 refine nx 2 Z (fB [9,18,25,26] h1 Z (λ c6 h1=>?_) λ c6 h1=>?_)
 ·refine nx 3 Z (mO Z (ss ah r1.AI Z Z Z Z Z Z ?_));exact nx 4 Z (eX _ (oi h1).symm (cF (iB ⟨er Z,er Z,er Z,er Z,er Z,⟨_,Z,m7 c6.symm⟩,er Z,trivial⟩ ⟨⟨_,Z,⟨sr,sr,sr,sr,sr,trivial⟩⟩,⟨_,Z,⟨sr,sr,sr,sr,sr,trivial⟩⟩,⟨_,Z,⟨sr,sr,sr,sr,sr,trivial⟩⟩,trivial⟩)))
 exact nx 8 Z (eX _ (oi h1).symm (cF (iB ⟨er Z,er Z,er Z,er Z,er Z,⟨_,Z,m7 c6.symm⟩,er Z,trivial⟩ ⟨⟨_,Z,⟨sr,sr,sr,sr,sr,trivial⟩⟩,⟨_,Z,⟨sr,sr,sr,sr,sr,trivial⟩⟩,⟨_,Z,⟨sr,sr,sr,sr,sr,trivial⟩⟩,trivial⟩)))
def dj (n:Nat)(l_1:List aF):Nat->Int->Int->Int->Az->(List aa)->(List Az)->Option (Int×Int×Az×(List aa)×(List Az))|0,_,_,_,_,_,_=>none|m+1,Fu,Gz,Ib,Ia,H',H9=>if Fu<(l_1.length:Int) then(ck ((0:Int)<=Fu/\Fu<(l_1.length:Int))<|(gf n (aa.mk Gz Ib Ia H' H9) ((lat l_1 Fu).By)).bind λ F9=>(if F9.2=true then if ((lat l_1 Fu).Ey)=true then some (!decide (F9.1.Ar=0))else some false else some false : Option Bool).bind λ t37=>if t37=true then(kL ([40,115,101,110,115,105,116,105,118,101,41]:Az)).bind λ GW=>(kP n (aa.mk Gz Ib Ia H' H9) ((lat l_1 Fu).By) GW).bind λ Ha=>some (Ha.Ar,Ha.BY,Ha.B',Ha.AI,Ha.A')else some (Gz,Ib,Ia,H',H9) : Option (Int×Int×Az×(List aa)×(List Az))).bind λ HF=>ck (inR (Fu+1))<|dj n l_1 m (Fu+1) HF.1 HF.2.1 HF.2.2.1 HF.2.2.2.1 HF.2.2.2.2 else some (Gz,Ib,Ia,H',H9)
def gR (n:Nat)(E8:aa)(l_1:List aF):Option aa :=(dj n l_1 n 0 E8.Ar E8.BY E8.B' E8.AI E8.A').bind λ KI=>some (aa.mk KI.1 KI.2.1 KI.2.2.1 KI.2.2.2.1 KI.2.2.2.2)
theorem lN (n:Nat)(E8:aa)(l_1:List aF)(r:aa)(h0:gR n E8 l_1=some r):aB Tryz.prog 90 [.agg (aa.cs E8),eL a8 l_1] (·=.p (.agg (aa.cs r))):=by
 unfold gR at h0;refine aZ good Tryz.func90 Z Z Z λ w0=>mP (λ v:aa=>.p (.agg (aa.cs v))) ?_;refine nx 9 Z (oLl (f:=a8) Z Z ?_);refine nx 3 Z (bd h0 λ o63 h1 h0=>?_);refine kE 0 o63 (λ Kt=>⟨[(2,.ptr 2 0),(4,.ptr 4 0)],[(2,[.p (eI Kt.1),.p (eI Kt.2.1),.p (eS Kt.2.2.1),.p (eL ah Kt.2.2.2.1),.p (eL eS Kt.2.2.2.2)]),(4,[.p (eI 0),.p (eI 0),.p (eS ([]:Az)),.p (.val (.slice none 0 0)),.p (.val (.slice none 0 0))])]⟩) ?_ ?_
 ·exact nx 7 Z (mQ (oi h0) Z (sr))
 refine lG (λ (He:Int×Int×Int×Az×(List aa)×(List Az))=>⟨[(2,.ptr 2 0),(4,.ptr 4 0),(9,.p (eL a8 l_1)),(10,.p (eI (l_1.length:Int))),(11,.p (eI He.1))],[(2,[.p (eI He.2.1),.p (eI He.2.2.1),.p (eS He.2.2.2.1),.p (eL ah He.2.2.2.2.1),.p (eL eS He.2.2.2.2.2)]),(4,[.p (eI 0),.p (eI 0),.p (eS ([]:Az)),.p (.val (.slice none 0 0)),.p (.val (.slice none 0 0))])]⟩) (λ m (He:Int×Int×Int×Az×(List aa)×(List Az))=>dj n l_1 m He.1 He.2.1 He.2.2.1 He.2.2.2.1 He.2.2.2.2.1 He.2.2.2.2.2) Y (0,E8.Ar,E8.BY,E8.B',E8.AI,E8.A') h1 (gE rfl rfl) ?_;rintro m ⟨Fu,Gz,Ib,Ia,H',H9⟩ h1;replace h1:dj n l_1 (m+1) Fu Gz Ib Ia H' H9=some o63:=h1;rw [dj] at h1;refine nx 5 rfl (fD [12] h1 rfl (λ Jj h1=>?_) λ Jj h1=>?_)
 ·refine nx 3 Z (bd h1 λ Kl h2 h1=>?_);refine kN Kl (λ Ks=>⟨[(2,.ptr 2 0),(4,.ptr 4 0),(9,.p (eL a8 l_1)),(10,.p (eI (l_1.length:Int))),(11,.p (eI Fu))],[(2,[.p (eI Ks.1),.p (eI Ks.2.1),.p (eS Ks.2.2.1),.p (eL ah Ks.2.2.2.1),.p (eL eS Ks.2.2.2.2)]),(4,[.p (eI 0),.p (eI 0),.p (eS ([]:Az)),.p (.val (.slice none 0 0)),.p (.val (.slice none 0 0))])]⟩) ?_ ?_
  ·refine nx 2 Z (oA h1 Z Z λ J1 h1=>?_);exact nx 2 Z (eX (Fu+1,Kl.1,Kl.2.1,Kl.2.2.1,Kl.2.2.2.1,Kl.2.2.2.2) h1 (gE Z Z))
  refine nx 3 Z (oE h2 aF.Eh Z Z Y λ H1 h2=>?_);refine nx 9 Z (bd h2 λ F9 IQ h2=>?_);refine mO Z (ki (λ _ hq=>bh [] [] 102000 102002 (jH _ (aa.mk Gz Ib Ia H' H9) ((lat l_1 Fu).By) _ IQ) Z Z Z Z Z ⟨sr,sr,trivial⟩ Z Z trivial Z Z Z Z Z Z Z Z Tryz.call59 Z Z hq) (gQ 102000 Z Z Z) ?_);refine nx 8 Z (bd h2 λ o68 h3 h2=>?_);refine kN o68 (λ v69=>⟨[(2,.ptr 2 0),(4,.ptr 4 0),(6,.ptr 6 0),(9,.p (eL a8 l_1)),(10,.p (eI (l_1.length:Int))),(11,.p (eI Fu)),(31,.p (eB v69))],[(2,[.p (eI Gz),.p (eI Ib),.p (eS Ia),.p (eL ah H'),.p (eL eS H9)]),(4,[.p (eI 0),.p (eI 0),.p (eS ([]:Az)),.p (.val (.slice none 0 0)),.p (.val (.slice none 0 0))]),(6,(aF.cs (lat l_1 Fu)).map .p)]⟩) ?_ ?_
  ·refine nx 1 Z (fB [31] h2 Z (λ Kb h2=>?_) λ Kb h2=>?_)
   ·refine nx 1 Z (bd h2 λ GW LC h2=>?_);refine bd h2 λ Ha e42 h2=>mG (gE (t:=⟨[(2,.ptr 2 0),(4,.ptr 4 0),(6,.ptr 6 0),(9,.p (eL a8 l_1)),(10,.p (eI (l_1.length:Int))),(11,.p (eI Fu))],[(2,[.p (eI Gz),.p (eI Ib),.p (eS Ia),.p (eL ah H'),.p (eL eS H9)]),(4,[.p (eI 0),.p (eI 0),.p (eS ([]:Az)),.p (.val (.slice none 0 0)),.p (.val (.slice none 0 0))]),(6,(aF.cs (lat l_1 Fu)).map .p)]⟩) Z Z) (mS ⟨1,[5],(λ _=>.none),(λ _=>[(2,.ptr 2 0),(4,.ptr 4 0),(6,.ptr 6 0),(9,.p (eL a8 l_1)),(10,.p (eI (l_1.length:Int))),(11,.p (eI Fu))]),(by2 ([(2,[.p (eI Gz),.p (eI Ib),.p (eS Ia),.p (eL ah H'),.p (eL eS H9)]),(4,[.p (eI 0),.p (eI 0),.p (eS ([]:Az)),.p (.val (.slice none 0 0)),.p (.val (.slice none 0 0))]),(6,[.p (eS ((lat l_1 Fu).By)),.p (eI (((lat l_1 Fu).Ei).Ar)),.p (eL aD (((lat l_1 Fu).Ei).Em)),.p (eL eS (((lat l_1 Fu).Ei).Df)),.p (eI ((lat l_1 Fu).EC)),.p (eB ((lat l_1 Fu).Es)),.p (eB ((lat l_1 Fu).Ey)),.p (eB ((lat l_1 Fu).EM))])]) ([(2,[.p (eI Ha.Ar),.p (eI Ha.BY),.p (eS Ha.B'),.p (eL ah Ha.AI),.p (eL eS Ha.A')]),(2,[.p (eI Gz),.p (eI Ib),.p (eS Ia),.p (eL ah H'),.p (eL eS H9)]),(4,[.p (eI 0),.p (eI 0),.p (eS ([]:Az)),.p (.val (.slice none 0 0)),.p (.val (.slice none 0 0))]),(6,[.p (eS ((lat l_1 Fu).By)),.p (eI (((lat l_1 Fu).Ei).Ar)),.p (eL aD (((lat l_1 Fu).Ei).Em)),.p (eL eS (((lat l_1 Fu).Ei).Df)),.p (eI ((lat l_1 Fu).EC)),.p (eB ((lat l_1 Fu).Es)),.p (eB ((lat l_1 Fu).Ey)),.p (eB ((lat l_1 Fu).EM))])]))⟩ Z Z Z ⟨Z,Z,Z,Z,Z,Z,trivial⟩ (lt1 ⟨Z,Z,Z,Z,Z,Z,trivial⟩) Z Z Z Z ?_);refine ak (λ _=>.p (.agg [eI Gz,eI Ib,eS Ia,eL ah H',eL eS H9])) Z Z Z (cV Z Y) (lt1 Z) (ai Z (af [(2,_)] ⟨.inl Z,trivial⟩ (λ sl E6 K hK=>ae Z (a6 Z Z Z Z Z (E6 _ _ Z) Z Z Z hK)) aj)) (ak (λ _=>.ptr 6 0) Z Z Z (cV Z Y) (lt1 Z) (ai Z (af [(6,_)] ⟨.inl Z,trivial⟩ (λ sl E6 K hK=>ae Z (ap Z Z Z Z Z Z Z Z (E6 _ _ Z) hK)) aj)) ?_);refine ak (λ _=>.p (eS ((lat l_1 Fu).By))) Z Z Z (cV Z Y) (lt1 Z) (ai Z (af [(33,_)] ⟨.inr ⟨1,_,Z,Z,Z⟩,trivial⟩ (λ sl E6 K hK=>ae Z (bv Z Z Z Z Z (E6 _ _ Z) Z Z hK)) aj)) (ak (λ _=>.p (.agg (aa.cs GW))) Z Z Z (cV Z Y) (lt1 Z) (ai Z (af [] trivial (λ sl E6 K hK=>ae Z (bA (mB ([40,115,101,110,115,105,116,105,118,101,41]:Az) _ LC) Z Z Z (az Z bz) ⟨sr,trivial⟩ Tryz.call75 Z hK)) aj)) ?_);refine ak (λ _=>.p (.agg (aa.cs Ha))) Z Z Z (cV Z Y) (lt1 Z) (ai Z (af [(32,_),(34,_),(35,_)] ⟨.inr ⟨0,_,Z,Z,Z⟩,.inr ⟨2,_,Z,Z,Z⟩,.inr ⟨3,_,Z,Z,Z⟩,trivial⟩ (λ sl E6 K hK=>ae Z (bA (pj _ (aa.mk Gz Ib Ia H' H9) ((lat l_1 Fu).By) GW _ e42) Z Z Z (az (E6 _ _ Z) (az (E6 _ _ Z) (az (E6 _ _ Z) bz))) ⟨sr,sr,sr,trivial⟩ Tryz.call91 Z hK)) aj)) (ep [(2,_),(36,_)] Z ⟨.inl Z,.inr ⟨4,_,Z,Z,Z⟩,trivial⟩ Z (λ sl E6 K hK=>ae Z (eA Z Z Z (E6 _ _ Z) (E6 _ _ Z) Z Z Z (py Z) hK)) ?_);refine gV (nx 1 Z ?_);exact eX _ (oi h2).symm (gE Z Z)
   exact nx 2 Z (eX _ (oi h2).symm (gE Z Z))
  refine nx 3 Z (fB [8,21,22,23] h3 Z (λ c35 h3=>?_) λ c35 h3=>?_)
  ·refine nx 4 Z (fB [25,26,27] h3 Z (λ Ji h3=>?_) λ Ji h3=>?_)
   ·exact nx 5 Z (eX _ (oi h3).symm (gE Z Z))
   exact nx 5 Z (eX _ (oi h3).symm (gE Z Z))
  exact nx 9 Z (eX _ (oi h3).symm (gE Z Z))
 exact nx 2 Z (eXi _ (oi h1).symm (gE Z Z))
def ee (n:Nat)(E5:au)(FK:Int)(Fz:aa×Bool):Nat->(List aa)->Int->Option (List aa)|0,_,_=>none|m+1,FP,FM=>if FM<(Fz.1.AI.length:Int) then(ck ((0:Int)<=FM/\FM<(FP.length:Int))<|if (lat FP FM).Ar=5 then(gR n (lat FP FM) ((lat E5.AT FK).C')).bind λ Ij=>ck ((0:Int)<=FM/\FM<(FP.length:Int))<|some (qT FP FM Ij)else some FP : Option (List aa)).bind λ t81=>ck (inR (FM+1))<|ee n E5 FK Fz m t81 (FM+1)else some FP
def dB (n:Nat)(E5:au):Nat->Int->Int->Int->Az->(List aa)->(List Az)->Option (Int×Int×Az×(List aa)×(List Az))|0,_,_,_,_,_,_=>none|m+1,FK,Hr,Hq,Hp,Ho,Hn=>if FK<(E5.AT.length:Int) then(ck ((0:Int)<=FK/\FK<(E5.AT.length:Int))<|(gf n (aa.mk Hr Hq Hp Ho Hn) ((lat E5.AT FK).By)).bind λ Fz=>(if (!Fz.2)=true then some true else some (!decide (Fz.1.Ar=4)) : Option Bool).bind λ t61=>if t61=true then some (Hr,Hq,Hp,Ho,Hn)else(ee n E5 FK Fz n Fz.1.AI 0).bind λ f85=>(kP n (aa.mk Hr Hq Hp Ho Hn) ((lat E5.AT FK).By) (aa.mk Fz.1.Ar Fz.1.BY Fz.1.B' f85 Fz.1.A')).bind λ Ki=>some (Ki.Ar,Ki.BY,Ki.B',Ki.AI,Ki.A') : Option (Int×Int×Az×(List aa)×(List Az))).bind λ IB=>ck (inR (FK+1))<|dB n E5 m (FK+1) IB.1 IB.2.1 IB.2.2.1 IB.2.2.2.1 IB.2.2.2.2 else some (Hr,Hq,Hp,Ho,Hn)
def fR (n:Nat)(E5:au)(v_1:aa):Option aa :=(cu n v_1).bind λ r1=>if v_1.Ar=5 then(gR n r1 E5.C').bind λ r4=>(dB n E5 n 0 r4.Ar r4.BY r4.B' r4.AI r4.A').bind λ IC=>some (aa.mk IC.1 IC.2.1 IC.2.2.1 IC.2.2.2.1 IC.2.2.2.2)else some r1
theorem cH (n:Nat)(E5:au)(v_1:aa)(r:aa)(h0:fR n E5 v_1=some r):aB Tryz.prog 57 [.agg (au.cs E5),.agg (aa.cs v_1)] (·=.p (.agg (aa.cs r))):=by
 unfold fR at h0;refine aZ good Tryz.func57 Z Z Z λ w0=>mP (λ v:aa=>.p (.agg (aa.cs v))) ?_;refine nx 9 Z (bd h0 λ r1 e2 h0=>?_);refine oK (pD _ v_1 _ e2) Z ⟨sr,trivial⟩ Tryz.call89 Z (nx 10 Z ?_);refine fN [16] h0 Z (λ c3 h0=>?_) λ c3 h0=>?_
 ·refine nx 7 Z (bd h0 λ r4 e5 h0=>?_);refine oK (lN _ r1 E5.C' _ e5) Z ⟨sr,sr,trivial⟩ Tryz.call90 Z (nx 7 Z ?_);refine oLl (f:=bc) Z Z (nx 3 Z ?_);refine bd h0 λ Lb h1 h0=>kE 0 Lb (λ Iv=>⟨[(4,.ptr 4 0),(5,.ptr 5 0)],[(4,[.p (eI 0),.p (eI 0),.p (eS ([]:Az)),.p (.val (.slice none 0 0)),.p (.val (.slice none 0 0))]),(5,[.p (eI Iv.1),.p (eI Iv.2.1),.p (eS Iv.2.2.1),.p (eL ah Iv.2.2.2.1),.p (eL eS Iv.2.2.2.2)])]⟩) ?_ ?_
  ·exact nx 7 Z (mQ (oi h0) Z (sr))
  refine lG (λ (Gf:Int×Int×Int×Az×(List aa)×(List Az))=>⟨[(4,.ptr 4 0),(5,.ptr 5 0),(23,.p (eL bc E5.AT)),(24,.p (eI (E5.AT.length:Int))),(25,.p (eI Gf.1))],[(4,[.p (eI 0),.p (eI 0),.p (eS ([]:Az)),.p (.val (.slice none 0 0)),.p (.val (.slice none 0 0))]),(5,[.p (eI Gf.2.1),.p (eI Gf.2.2.1),.p (eS Gf.2.2.2.1),.p (eL ah Gf.2.2.2.2.1),.p (eL eS Gf.2.2.2.2.2)])]⟩) (λ m (Gf:Int×Int×Int×Az×(List aa)×(List Az))=>dB n E5 m Gf.1 Gf.2.1 Gf.2.2.1 Gf.2.2.2.1 Gf.2.2.2.2.1 Gf.2.2.2.2.2) Y (0,r4.Ar,r4.BY,r4.B',r4.AI,r4.A') h1 (gE rfl rfl) ?_;rintro m ⟨FK,Hr,Hq,Hp,Ho,Hn⟩ h1;replace h1:dB n E5 (m+1) FK Hr Hq Hp Ho Hn=some Lb:=h1;rw [dB] at h1;refine nx 5 rfl (fD [26] h1 rfl (λ LH h1=>?_) λ LH h1=>?_)
  ·refine nx 3 Z (bd h1 λ HQ h2 h1=>?_);refine kN HQ (λ Iu=>⟨[(4,.ptr 4 0),(5,.ptr 5 0),(23,.p (eL bc E5.AT)),(24,.p (eI (E5.AT.length:Int))),(25,.p (eI FK))],[(4,[.p (eI 0),.p (eI 0),.p (eS ([]:Az)),.p (.val (.slice none 0 0)),.p (.val (.slice none 0 0))]),(5,[.p (eI Iu.1),.p (eI Iu.2.1),.p (eS Iu.2.2.1),.p (eL ah Iu.2.2.2.1),.p (eL eS Iu.2.2.2.2)])]⟩) ?_ ?_
   ·refine nx 2 Z (oA h1 Z Z λ hk93 h1=>?_);exact nx 2 Z (eX (FK+1,HQ.1,HQ.2.1,HQ.2.2.1,HQ.2.2.2.1,HQ.2.2.2.2) h1 (gE Z Z))
   refine nx 3 Z (oE h2 aR.Eh Z Z Y λ JZ h2=>?_);refine nx 9 Z (bd h2 λ Fz Lz h2=>?_);refine mO Z (bh [] [] 102000 102002 (jH _ (aa.mk Hr Hq Hp Ho Hn) ((lat E5.AT FK).By) _ Lz) Z Z Z Z Z ⟨sr,sr,trivial⟩ Z Z trivial Z Z Z Z Z Z Z Z Tryz.call59 Z Z ?_);refine nx 9 Z (bd h2 λ o115 h3 h2=>?_);refine kN o115 (λ v116=>⟨[(4,.ptr 4 0),(5,.ptr 5 0),(7,.ptr 7 0),(8,.ptr 8 0),(23,.p (eL bc E5.AT)),(24,.p (eI (E5.AT.length:Int))),(25,.p (eI FK)),(42,.p (eB v116))],[(4,[.p (eI 0),.p (eI 0),.p (eS ([]:Az)),.p (.val (.slice none 0 0)),.p (.val (.slice none 0 0))]),(5,[.p (eI Hr),.p (eI Hq),.p (eS Hp),.p (eL ah Ho),.p (eL eS Hn)]),(7,(aR.cs (lat E5.AT FK)).map .p),(8,[.p (eI Fz.1.Ar),.p (eI Fz.1.BY),.p (eS Fz.1.B'),.stk 102000 5 (Fz.1.AI.map ah),.vec 102001 1 0 (Fz.1.A'.map eS)])]⟩) ?_ ?_
   ·refine nx 1 Z (fB [42] h2 Z (λ c62 h2=>?_) λ c62 h2=>?_)
    ·exact nx 2 Z (eX _ (oi h2).symm (gE Z Z))
    refine nx 7 Z (mO Z (ss ah Fz.1.AI Z Z Z Z Z Z ?_));refine nx 3 Z (bd h2 λ JP h3 h2=>?_);refine kE 2 JP (λ v118=>⟨[(4,.ptr 4 0),(5,.ptr 5 0),(7,.ptr 7 0),(8,.ptr 8 0),(23,.p (eL bc E5.AT)),(24,.p (eI (E5.AT.length:Int))),(25,.p (eI FK))],[(4,[.p (eI 0),.p (eI 0),.p (eS ([]:Az)),.p (.val (.slice none 0 0)),.p (.val (.slice none 0 0))]),(5,[.p (eI Hr),.p (eI Hq),.p (eS Hp),.p (eL ah Ho),.p (eL eS Hn)]),(7,(aR.cs (lat E5.AT FK)).map .p),(8,[.p (eI Fz.1.Ar),.p (eI Fz.1.BY),.p (eS Fz.1.B'),.stk 102000 5 (v118.map ah),.vec 102001 1 0 (Fz.1.A'.map eS)])]⟩) ?_ ?_
    ·refine nx 6 Z (mG (gQ 102000 Z Z Z) ?_);refine bd h2 λ Ki e87 h2=>oK (pj _ (aa.mk Hr Hq Hp Ho Hn) ((lat E5.AT FK).By) (aa.mk Fz.1.Ar Fz.1.BY Fz.1.B' JP Fz.1.A') _ e87) Z ⟨sr,sr,gG ⟨sr,sr,sr,sr,AV.sub_vec _ _ _ _,trivial⟩,trivial⟩ Tryz.call91 Z (nx 2 Z ?_);exact eX _ (oi h2).symm (gE Z Z)
    refine lG (λ (HK:(List aa)×Int)=>⟨[(4,.ptr 4 0),(5,.ptr 5 0),(7,.ptr 7 0),(8,.ptr 8 0),(23,.p (eL bc E5.AT)),(24,.p (eI (E5.AT.length:Int))),(25,.p (eI FK)),(44,.stk 102000 5 (HK.1.map ah)),(45,.p (eI (Fz.1.AI.length:Int))),(46,.p (eI HK.2))],[(4,[.p (eI 0),.p (eI 0),.p (eS ([]:Az)),.p (.val (.slice none 0 0)),.p (.val (.slice none 0 0))]),(5,[.p (eI Hr),.p (eI Hq),.p (eS Hp),.p (eL ah Ho),.p (eL eS Hn)]),(7,(aR.cs (lat E5.AT FK)).map .p),(8,[.p (eI Fz.1.Ar),.p (eI Fz.1.BY),.p (eS Fz.1.B'),.stk 102000 5 (HK.1.map ah),.vec 102001 1 0 (Fz.1.A'.map eS)])]⟩) (λ m (HK:(List aa)×Int)=>ee n E5 FK Fz m HK.1 HK.2) Y (Fz.1.AI,0) h3 (gE rfl rfl) ?_;rintro m ⟨FP,FM⟩ h3;replace h3:ee n E5 FK Fz (m+1) FP FM=some JP:=h3;rw [ee] at h3;refine nx 5 rfl (fD [47] h3 rfl (λ c75 h3=>?_) λ c75 h3=>?_)
    ·refine nx 3 Z (bd h3 λ HP h4 h3=>?_);refine kN HP (λ I5=>⟨[(4,.ptr 4 0),(5,.ptr 5 0),(7,.ptr 7 0),(8,.ptr 8 0),(23,.p (eL bc E5.AT)),(24,.p (eI (E5.AT.length:Int))),(25,.p (eI FK)),(44,.stk 102000 5 (I5.map ah)),(45,.p (eI (Fz.1.AI.length:Int))),(46,.p (eI FM))],[(4,[.p (eI 0),.p (eI 0),.p (eS ([]:Az)),.p (.val (.slice none 0 0)),.p (.val (.slice none 0 0))]),(5,[.p (eI Hr),.p (eI Hq),.p (eS Hp),.p (eL ah Ho),.p (eL eS Hn)]),(7,(aR.cs (lat E5.AT FK)).map .p),(8,[.p (eI Fz.1.Ar),.p (eI Fz.1.BY),.p (eS Fz.1.B'),.stk 102000 5 (I5.map ah),.vec 102001 1 0 (Fz.1.A'.map eS)])]⟩) ?_ ?_
     ·refine nx 2 Z (oA h3 Z Z λ hk82 h3=>?_);exact nx 2 Z (eX (HP,FM+1) h3 (gE Z Z))
     refine nx 4 Z (cc' h4 λ Ll h4=>?_);refine mO Z (kY ah FP Z Z Z Z Z Z Z Z Z Ll ?_);refine mO Z (wn ah FP aa.cs 8 3 Z Z Z Z Z Z Z Z Z Ll aa.Eh ?_);refine nx 10 Z (fD [53] h4 Z (λ c77 h4=>?_) λ c77 h4=>?_)
     ·refine nx 1 rfl (bd h4 λ Ij e79 h4=>?_);refine cc' h4 λ Lk h4=>mG (gE (t:=⟨[(4,.ptr 4 0),(5,.ptr 5 0),(7,.ptr 7 0),(8,.ptr 8 0),(10,.p (eI FM)),(11,.ptr 11 0),(23,.p (eL bc E5.AT)),(24,.p (eI (E5.AT.length:Int))),(25,.p (eI FK)),(44,.stk 102000 5 (FP.map ah)),(45,.p (eI (Fz.1.AI.length:Int))),(46,.p (eI FM))],[(4,[.p (eI 0),.p (eI 0),.p (eS ([]:Az)),.p (.val (.slice none 0 0)),.p (.val (.slice none 0 0))]),(5,[.p (eI Hr),.p (eI Hq),.p (eS Hp),.p (eL ah Ho),.p (eL eS Hn)]),(7,(aR.cs (lat E5.AT FK)).map .p),(8,[.p (eI Fz.1.Ar),.p (eI Fz.1.BY),.p (eS Fz.1.B'),.stk 102000 5 (FP.map ah),.vec 102001 1 0 (Fz.1.A'.map eS)]),(11,(aa.cs (lat FP FM)).map .p)]⟩) Z Z) (mS ⟨1,[8],(by2 (.fn (upK 102000 5 (FM).toNat (ah Ij))) .none),(by2 [(4,.ptr 4 0),(5,.ptr 5 0),(7,.ptr 7 0),(8,.ptr 8 0),(10,.p (eI FM)),(11,.ptr 11 0),(23,.p (eL bc E5.AT)),(24,.p (eI (E5.AT.length:Int))),(25,.p (eI FK)),(44,.stk 102000 5 (FP.map ah)),(45,.p (eI (Fz.1.AI.length:Int))),(46,.p (eI FM))] [(4,.ptr 4 0),(5,.ptr 5 0),(7,.ptr 7 0),(8,.ptr 8 0),(10,.p (eI FM)),(11,.ptr 11 0),(23,.p (eL bc E5.AT)),(24,.p (eI (E5.AT.length:Int))),(25,.p (eI FK)),(44,.stk 102000 5 ((qT FP FM Ij).map ah)),(45,.p (eI (Fz.1.AI.length:Int))),(46,.p (eI FM))]),(by2 ([(4,[.p (eI 0),.p (eI 0),.p (eS ([]:Az)),.p (.val (.slice none 0 0)),.p (.val (.slice none 0 0))]),(5,[.p (eI Hr),.p (eI Hq),.p (eS Hp),.p (eL ah Ho),.p (eL eS Hn)]),(7,[.p (eS ((lat E5.AT FK).By)),.p (eI ((lat E5.AT FK).EI)),.p (eI ((lat E5.AT FK).EJ)),.p (eL a8 ((lat E5.AT FK).C')),.p (eB ((lat E5.AT FK).Es))]),(8,[.p (eI Fz.1.Ar),.p (eI Fz.1.BY),.p (eS Fz.1.B'),.stk 102000 5 (FP.map ah),.vec 102001 1 0 (Fz.1.A'.map eS)]),(11,[.p (eI ((lat FP FM).Ar)),.p (eI ((lat FP FM).BY)),.p (eS ((lat FP FM).B')),.p (eL ah ((lat FP FM).AI)),.p (eL eS ((lat FP FM).A'))])]) ([(4,[.p (eI 0),.p (eI 0),.p (eS ([]:Az)),.p (.val (.slice none 0 0)),.p (.val (.slice none 0 0))]),(5,[.p (eI Hr),.p (eI Hq),.p (eS Hp),.p (eL ah Ho),.p (eL eS Hn)]),(7,[.p (eS ((lat E5.AT FK).By)),.p (eI ((lat E5.AT FK).EI)),.p (eI ((lat E5.AT FK).EJ)),.p (eL a8 ((lat E5.AT FK).C')),.p (eB ((lat E5.AT FK).Es))]),(8,[.p (eI Fz.1.Ar),.p (eI Fz.1.BY),.p (eS Fz.1.B'),.stk 102000 5 ((qT FP FM Ij).map ah),.vec 102001 1 0 (Fz.1.A'.map eS)]),(11,[.p (eI ((lat FP FM).Ar)),.p (eI ((lat FP FM).BY)),.p (eS ((lat FP FM).B')),.p (eL ah ((lat FP FM).AI)),.p (eL eS ((lat FP FM).A'))])]))⟩ Z Z Z ⟨rfl,rfl,rfl,rfl,rfl,rfl,rfl,rfl,rfl,rfl,rfl,rfl,trivial⟩ (lt1 ⟨rfl,rfl,rfl,rfl,rfl,rfl,rfl,rfl,rfl,congrArg some (xF ah 102000 5 FP FM Ij),rfl,rfl,trivial⟩) Z Z Z Z ?_);refine ak (λ _=>.ptr 8 3) Z Z Z (cV rfl Y) (lt1 rfl) (ai rfl (af [(8,_)] ⟨.inl rfl,trivial⟩ (λ sl E6 K hK=>ae rfl (ap Z Z Z Z Z Z Z Z (E6 _ _ rfl) hK)) aj)) (ak (by2 (.stk 102000 5 (FP.map ah)) (.stk 102000 5 ((qT FP FM Ij).map ah))) Z Z Z (cV rfl Y) (lt1 (xF ah 102000 5 FP FM Ij).symm) (ai rfl (af [(54,_)] ⟨.inr ⟨0,_,rfl,rfl,rfl⟩,trivial⟩ (λ sl E6 K hK=>ae rfl (bv Z Z Z Z Z (E6 _ _ rfl) Z Z hK)) aj)) ?_);refine ak (λ _=>.p (eI FM)) Z Z Z (cV rfl Y) (lt1 rfl) (ai rfl (af [(10,_)] ⟨.inl rfl,trivial⟩ (λ sl E6 K hK=>ae rfl (bH Z Z Z (E6 _ _ rfl) hK)) aj)) (ak (λ _=>.p (.agg (aa.cs (lat FP FM)))) Z Z Z (cV rfl Y) (lt1 rfl) (ai rfl (af [(11,_)] ⟨.inl rfl,trivial⟩ (λ sl E6 K hK=>ae rfl (a6 Z Z Z Z Z (E6 _ _ rfl) Z Z Z hK)) aj)) ?_);refine ak (λ _=>.ptr 7 3) Z Z Z (cV rfl Y) (lt1 rfl) (ai rfl (af [(7,_)] ⟨.inl rfl,trivial⟩ (λ sl E6 K hK=>ae rfl (ap Z Z Z Z Z Z Z Z (E6 _ _ rfl) hK)) aj)) (ak (λ _=>.p (eL a8 ((lat E5.AT FK).C'))) Z Z Z (cV rfl Y) (lt1 rfl) (ai rfl (af [(58,_)] ⟨.inr ⟨4,_,rfl,rfl,rfl⟩,trivial⟩ (λ sl E6 K hK=>ae rfl (bv Z Z Z Z Z (E6 _ _ rfl) Z Z hK)) aj)) ?_);refine ak (λ _=>.p (.agg (aa.cs Ij))) Z Z Z (cV rfl Y) (lt1 rfl) (ai rfl (af [(57,_),(59,_)] ⟨.inr ⟨3,_,rfl,rfl,rfl⟩,.inr ⟨5,_,rfl,rfl,rfl⟩,trivial⟩ (λ sl E6 K hK=>ae rfl (bA (lN _ (lat FP FM) ((lat E5.AT FK).C') _ e79) Z Z Z (az (E6 _ _ rfl) (az (E6 _ _ rfl) bz)) ⟨sr,sr,trivial⟩ Tryz.call90 rfl hK)) aj)) (ak (by2 (.ptr 102000 (FM.toNat*5)) .undef) Z Z Z (cV rfl Y) (lt1 rfl) (ai rfl (af [(55,_),(56,_)] ⟨.inr ⟨1,_,rfl,rfl,rfl⟩,.inr ⟨2,_,rfl,rfl,rfl⟩,trivial⟩ (λ sl E6 K hK=>ae rfl (kY ah FP Z Z Z Z Z Z (E6 _ _ rfl) (E6 _ _ rfl) rfl Lk hK)) aj)) ?_);refine ep [(60,_),(61,_)] rfl ⟨.inr ⟨6,_,rfl,rfl,rfl⟩,.inr ⟨7,_,rfl,rfl,rfl⟩,trivial⟩ rfl (λ sl E6 K hK=>ae rfl (uX ah FP Ij 8 3 Z Z Z Z (E6 _ _ rfl) Z Z Lk (E6 _ _ rfl) (AV.sub_of_eq (congrArg AV.p (aa.Eo Ij).symm)) ((λ x=>by cases x; rfl:∀ x,(AV.p (ah x)).cellsA=some ((ah x).cells.map .p)) Ij) (λ x=>congrArg List.length (aa.Eh x)) Z Z Z (by simp only [qT,List.map_set]; rfl) hK)) (gV ?_);exact nx 1 rfl (eX _ (oi h4).symm (gE Z Z))
     exact nx 2 Z (eX _ (oi h4).symm (gE Z Z))
    exact nx 2 Z (eXi _ (oi h3).symm (gE Z Z))
   refine nx 4 Z (fB [37,38] h3 Z (λ c60 h3=>?_) λ c60 h3=>?_)
   ·exact nx 5 Z (eX _ (oi h3).symm (gE Z Z))
   exact nx 5 Z (eX _ (oi h3).symm (gE Z Z))
  exact nx 2 Z (eXi _ (oi h1).symm (gE Z Z))
 exact nx 7 Z (mQ (oi h0) Z (sr))
def bN (s1_0:List Az)(s2_1:List Az):Nat->Int->Option (Unit⊕Bool)|0,_=>none|m+1,t8=>if t8<(s1_0.length:Int) then ck ((0:Int)<=t8/\t8<(s1_0.length:Int))<|ck ((0:Int)<=t8/\t8<(s2_1.length:Int))<|if lat s1_0 t8=lat s2_1 t8 then ck (inR (t8+1))<|bN s1_0 s2_1 m (t8+1)else some (.inr false)else some (.inl ())
def da (n:Nat)(s1_0:List Az)(s2_1:List Az):Option Bool :=if (s1_0.length:Int)=(s2_1.length:Int) then jn (bN s1_0 s2_1 n 0) λ _I8=>some true else some false
theorem kp (n:Nat)(s1_0:List Az)(s2_1:List Az)(r:Bool)(h0:da n s1_0 s2_1=some r):aB Tryz.prog 73 [eL eS s1_0,eL eS s2_1] (·=.p (eB r)):=by
 unfold da at h0;refine aZ good Tryz.func73 Z Z Z λ w0=>mP (λ v:Bool=>.p (eB v)) ?_;refine nx 8 Z (oLl (f:=eS) Z Z ?_);refine nx 1 Z (oLl (f:=eS) Z Z ?_);refine nx 2 Z (fN [10] h0 Z (λ c1 h0=>?_) λ c1 h0=>?_)
 ·refine nx 6 rfl (oLl (f:=eS) Z Z ?_);refine nx 3 rfl ?_;obtain ⟨IG,h1,FE,hR0⟩:=ew h0;refine kEx 0 (λ Hz:Unit=>IG=.inl Hz) (λ Hz=>⟨[],[]⟩) (λ Hz hv=>?_) ?_
  ·have h0:=FE _ hv;exact nx 6 Z (mQ (oi h0) Z (sr))
  refine lG (λ (JE:Int)=>⟨[(0,.p (eL eS s1_0)),(1,.p (eL eS s2_1)),(12,.p (eI (s1_0.length:Int))),(13,.p (eI JE))],[]⟩) (λ m (JE:Int)=>bN s1_0 s2_1 m JE) Y 0 h1 (gE rfl rfl) ?_;rintro m t8 h1;replace h1:bN s1_0 s2_1 (m+1) t8=some IG:=h1;rw [bN] at h1;refine nx 5 rfl (fD [14] h1 rfl (λ c9 h1=>?_) λ c9 h1=>?_)
  ·refine nx 10 Z (cc' h1 λ G5 h1=>?_);refine cc' h1 λ H8 h1=>mD [(0,.p (eL eS s1_0)),(1,.p (eL eS s2_1)),(5,.p (eI t8)),(12,.p (eI (s1_0.length:Int))),(13,.p (eI t8))] Z ⟨Z,Z,Z,Z,Z,trivial⟩ Z (dR 2 Z ?_);refine dq (.rptr [eS (lat s1_0 t8)]) [16,17] Z (λ _ e _ q=>ae Z (g5 (f:=eS) (l:=s1_0) (λ x=>[eS x]) Z Z Z Z Z Z (e _ _ Z) Z (e _ _ Z) G5 Y Y q)) Z (dR 3 Z ?_);refine dq (.rptr [eS (lat s2_1 t8)]) [20,21] Z (λ _ e _ q=>ae Z (g5 (f:=eS) (l:=s2_1) (λ x=>[eS x]) Z Z Z Z Z Z (e _ _ Z) Z (e _ _ Z) H8 Y Y q)) Z (dR 1 Z ?_);refine dq (.p (eB (!decide (lat s1_0 t8=lat s2_1 t8)))) [19,23] Z (λ _ e _ q=>ae Z (kH Z Z Z (e _ _ Z) (e _ _ Z) Z q)) Z (dE Z ?_);refine nx 1 Z (fN [24] h1 Z (λ Hy h1=>?_) λ Hy h1=>?_)
   ·refine nx 3 Z (oA h1 Z Z λ G4 h1=>?_);exact nx 2 Z (eX (t8+1) h1 (gE Z Z))
   exact nx 6 Z (mQ (hR0 _ (oi h1).symm) Z (sr))
  exact nx 2 Z (eXi _ (oi h1).symm (gE Z Z))
 exact nx 6 Z (mQ (oi h0) Z (sr))
def aE (s1_0:List aa)(s2_1:List aa)(eq_2:aa->aa->Option Bool):Nat->Int->Option (Unit⊕Bool)|0,_=>none|m+1,F5=>if F5<(s1_0.length:Int) then ck ((0:Int)<=F5/\F5<(s1_0.length:Int))<|ck ((0:Int)<=F5/\F5<(s2_1.length:Int))<|(eq_2 (lat s1_0 F5) (lat s2_1 F5)).bind λ JB=>if (!JB)=true then some (.inr false)else ck (inR (F5+1))<|aE s1_0 s2_1 eq_2 m (F5+1)else some (.inl ())
def bo (n:Nat)(s1_0:List aa)(s2_1:List aa)(eq_2:aa->aa->Option Bool):Option Bool :=if (s1_0.length:Int)=(s2_1.length:Int) then jn (aE s1_0 s2_1 eq_2 n 0) λ _Jq=>some true else some false
theorem ey (n:Nat)(s1_0:List aa)(s2_1:List aa)(eq_2:aa->aa->Option Bool)(F_eq_2:FuncId)(C_eq_2:List AV)(K_eq_2:AV.mapA.go (λ _=>none) C_eq_2=some C_eq_2)(E_eq_2:∀ vs w,(callFunc F_eq_2 vs).run Tryz.prog w=.ok (.enter F_eq_2 vs) w)(H_eq_2:∀ (x0:aa) (x1:aa) r,eq_2 x0 x1=some r->fX Tryz.prog F_eq_2 ([.p (.agg (aa.cs x0)),.p (.agg (aa.cs x1))]++C_eq_2) (·=.p (eB r)))(r:Bool)(h0:bo n s1_0 s2_1 eq_2=some r):fX Tryz.prog 74 [.p (eL ah s1_0),.p (eL ah s2_1),.func (.func F_eq_2) C_eq_2] (·=.p (eB r)):=by
 unfold bo at h0;refine rQ good Tryz.func74 Z Z Z λ w0=>mP (λ v:Bool=>.p (eB v)) ?_;refine nx 8 Z (oLl (f:=ah) Z Z ?_);refine nx 1 Z (oLl (f:=ah) Z Z ?_);refine nx 2 Z (fN [14] h0 Z (λ c1 h0=>?_) λ c1 h0=>?_)
 ·refine nx 6 rfl (oLl (f:=ah) Z Z ?_);refine nx 3 rfl ?_;obtain ⟨Kn,h1,FE,hR0⟩:=ew h0;refine kEx 0 (λ v21:Unit=>Kn=.inl v21) (λ v21=>⟨[],[]⟩) (λ v21 hv=>?_) ?_
  ·have h0:=FE _ hv;exact nx 6 Z (mQ (oi h0) Z (sr))
  refine lG (λ (q22:Int)=>⟨[(1,.p (eL ah s2_1)),(2,.func (.func F_eq_2) C_eq_2),(15,.p (eL ah s1_0)),(16,.p (eI (s1_0.length:Int))),(17,.p (eI q22))],[]⟩) (λ m (q22:Int)=>aE s1_0 s2_1 eq_2 m q22) Y 0 h1 (gE rfl rfl) ?_;rintro m F5 h1;replace h1:aE s1_0 s2_1 eq_2 (m+1) F5=some Kn:=h1;rw [aE] at h1;refine nx 5 rfl (fD [18] h1 rfl (λ GB h1=>?_) λ GB h1=>?_)
  ·refine nx 7 Z (oE h1 aa.Eh Z Z Y λ Gt h1=>?_);refine nx 9 Z (oE h1 aa.Eh Z Z Y λ G4 h1=>?_);refine nx 9 Z (bd h1 λ JB e15 h1=>?_);refine mG (gFn 2 C_eq_2 Z (by simp only [lJ K_eq_2])) (mG (gFn 26 C_eq_2 Z (by simp only [lJ K_eq_2])) ?_);refine mO Z (rF (q:=[.p (.agg (aa.cs (lat s1_0 F5))),.p (.agg (aa.cs (lat s2_1 F5)))]) (H_eq_2 (lat s1_0 F5) (lat s2_1 F5) _ e15) Z Z Z Z K_eq_2 Z Z ⟨sr,sr,trivial⟩ E_eq_2 Z ?_);refine nx 2 Z (fB [30] h1 Z (λ Ih h1=>?_) λ Ih h1=>?_)
   ·exact nx 6 Z (mQ (hR0 _ (oi h1).symm) Z (sr))
   refine nx 3 Z (oA h1 Z Z λ IP h1=>?_);exact nx 2 Z (eX (F5+1) h1 (gE Z Z))
  exact nx 2 Z (eXi _ (oi h1).symm (gE Z Z))
 exact nx 6 Z (mQ (oi h0) Z (sr))
def fx:Nat->aa->aa->Option Bool|0,_,_=>none|n+1,a_0,GN=>(if a_0.Ar=GN.Ar then if a_0.BY=GN.BY then if a_0.B'=GN.B' then(da n a_0.A' GN.A').bind λ r4=>if r4=true then(bo n a_0.AI GN.AI (λ x0 x1=>(fx n) x0 x1)).bind λ r8=>some r8 else some false else some false else some false else some false : Option Bool).bind λ F5=>some F5
theorem ll (n:Nat):∀ (a_0:aa) (GN:aa) (r:Bool),fx n a_0 GN=some r->aB Tryz.prog 41 [.agg (aa.cs a_0),.agg (aa.cs GN)] (·=.p (eB r)):=by
 induction n with
 | zero=>intro a_0 GN r h0; cases h0
 | succ n ih=>
 have Gb:=ih;intro a_0 GN r h0;rw [fx] at h0;refine aZ good Tryz.func41 Z Z Z λ w0=>mP (λ v:Bool=>.p (eB v)) ?_;refine nx 7 Z (bd h0 λ o12 h1 h0=>?_);refine kN o12 (λ v13=>⟨[(4,.p (eB v13))],[]⟩) ?_ ?_
 ·exact nx 2 Z (mQ (oi h0) Z (sr))
 refine nx 7 Z (fD [9,10] h1 Z (λ c1 h1=>?_) λ c1 h1=>?_)
 ·refine nx 7 Z (fD [15,16,17] h1 Z (λ c2 h1=>?_) λ c2 h1=>?_)
  ·refine nx 4 Z (oS Z Z ?_);refine nx 2 Z (fD [22,23,24] h1 Z (λ c3 h1=>?_) λ c3 h1=>?_)
   ·refine nx 4 Z (bd h1 λ r4 e5 h1=>?_);refine oK (kp _ a_0.A' GN.A' _ e5) Z ⟨sr,sr,trivial⟩ Tryz.call73 Z (nx 2 Z ?_);refine fB [29,30,31] h1 Z (λ c6 h1=>?_) λ c6 h1=>?_
    ·refine nx 4 Z (bd h1 λ r8 e9 h1=>?_);refine mO Z (nB (ey _ a_0.AI GN.AI (λ x0 x1=>(fx n) x0 x1) 41 [] Z Tryz.call41 (λ x0 x1 r h=>(Gb x0 x1 r h).q) _ e9) Z Z Z Z (eT Z (eT Z (eT (lS Z) lf))) ⟨sr,sr,sr,trivial⟩ Tryz.call74 Z ?_);exact nx 3 Z (eX _ (oi h1).symm (gE Z Z))
    exact nx 8 Z (eX _ (oi h1).symm (gE Z Z))
   exact nx 15 Z (eX _ (oi h1).symm (gE Z Z))
  exact nx 22 Z (eX _ (oi h1).symm (gE Z Z))
 exact nx 29 Z (eX _ (oi h1).symm (gE Z Z))
def fM (FA:ag->Option ag):Nat->Option Unit|0=>none|_m+1=>if 0<(([]:List ag).length:Int) then ck ((0:Int)<=0/\0<(([]:List ag).length:Int))<|(FA (lat ([]:List ag) 0)).bind λ _r6=>ck ((0:Int)<=0/\0<(([]:List ag).length:Int))<|none else some ()
def dH (FA:ag->Option ag)(Fg:ag):Nat->Int->(List ag)->Option (List ag)|0,_,_=>none|m+1,Fp,l18=>if Fp<(Fg.Em.length:Int) then ck ((0:Int)<=Fp/\Fp<(l18.length:Int))<|(FA (lat l18 Fp)).bind λ FT=>ck ((0:Int)<=Fp/\Fp<(l18.length:Int))<|ck (inR (Fp+1))<|dH FA Fg m (Fp+1) (l18.set Fp.toNat FT)else some l18
def cT:Nat->ag->Option ag|0,_=>none|n+1,Fg=>ck (Fg.Df.length*16<=140737488355328)<|if Fg.Em.isEmpty=true then(fM (cT n) n ).bind λ _q28=>some (ag.mk Fg.Ar ([]:List ag) Fg.Df)else ck (Fg.Em.length*56<=140737488355328)<|(dH (cT n) Fg n 0 Fg.Em).bind λ l27=>some (ag.mk Fg.Ar l27 Fg.Df)
theorem qy (n:Nat):∀ (Fg:ag) (r:ag),cT n Fg=some r->aB Tryz.prog 119 [.agg (ag.cs Fg)] (·=.p (.agg (ag.cs r))):=by
 induction n with
 | zero=>intro Fg r h0; cases h0
 | succ n ih=>
 have F4:=ih;intro Fg r h0;rw [cT] at h0;refine aZ good Tryz.func119 Z Z Z λ w0=>mP (λ v:ag=>.p (.agg (ag.cs v))) ?_;refine nx 9 Z (cc' h0 λ Hw h0=>?_);refine oK (gt Fg.Df Hw) Z ⟨sr,trivial⟩ Tryz.call116 Z (nx 7 Z ?_);refine xY (b:=Fg.Em.isEmpty) (λ c2=>?_) (λ c2=>?_)
 ·replace h0:=zK c2 h0;refine mO Z (bA (iW Fg.Em c2) Z Z Z Z ⟨sr,trivial⟩ Tryz.call151 Z ?_);refine nx 8 Z (oLl (f:=aD) Z Z ?_);refine nx 3 Z (bd h0 λ Hf h1 h0=>?_);refine kE 0 Hf (λ v31=>⟨[(1,.ptr 1 0),(2,.ptr 2 0)],[(1,[.p (eI Fg.Ar),.p (eL aD ([]:List ag)),.p (eL eS Fg.Df)]),(2,[.p (eI 0),.p (.val (.slice none 0 0)),.p (.val (.slice none 0 0))])]⟩) ?_ ?_
  ·exact nx 7 Z (mQ (oi h0) Z (sr))
  refine lG (λ (q32:Unit)=>⟨[(1,.ptr 1 0),(2,.ptr 2 0),(14,.p (eI (([]:List ag).length:Int))),(15,.p (eI 0))],[(1,[.p (eI Fg.Ar),.p (eL aD ([]:List ag)),.p (eL eS Fg.Df)]),(2,[.p (eI 0),.p (.val (.slice none 0 0)),.p (.val (.slice none 0 0))])]⟩) (λ m (q32:Unit)=>fM (cT n) m ) Y () h1 (gE rfl rfl) ?_;rintro m _ h1;replace h1:fM (cT n) (m+1)  = some Hf:=h1;rw [fM] at h1;refine nx 5 rfl (fD [16] h1 rfl (λ c4 h1=>?_) λ c4 h1=>?_)
  ·refine nx 9 Z (cc' h1 λ J0 h1=>?_);refine bd h1 λ r6 e7 h1=>cc' h1 λ JX h1=>?_
   cases h1
  exact nx 2 Z (eXi _ (oi h1).symm (gE Z Z))
 replace h0:=zE c2 h0;refine cc' h0 λ Hg h0=>mO Z (bh [] [] 101000 101001 (i6 Fg.Em c2 Hg) Z Z Z Z Z ⟨sr,trivial⟩ Z Z trivial Z Z Z Z Z Z Z Z Tryz.call151 Z (kQ Z (j2 _) Z) ?_);refine nx 12 Z (bd h0 λ G0 h1 h0=>?_);refine kE 0 G0 (λ It=>⟨[(1,.ptr 1 0),(2,.ptr 2 0)],[(1,[.p (eI Fg.Ar),.arr 101000 3 0 It.length,.p (eL eS Fg.Df)]),(2,[.p (eI 0),.p (.val (.slice none 0 0)),.p (.val (.slice none 0 0))]),(101000,iK aD It)]⟩) ?_ ?_
 ·refine nx 3 Z (mG (oa (sl':=[(1,.ptr 1 0),(2,.ptr 2 0)]) (ob':=[(1,[.p (eI Fg.Ar),.p (eL aD G0),.p (eL eS Fg.Df)]),(2,[.p (eI 0),.p (.val (.slice none 0 0)),.p (.val (.slice none 0 0))])]) 101000 3 aD G0 Z Z Z (λ x=>⟨congrArg List.length (ag.Eh x),by rw [ag.Eh]; rfl⟩) ⟨⟨_,Z,.inl Z⟩,⟨_,Z,.inl Z⟩,trivial⟩ ⟨⟨Z,_,Z,⟨.inl Z,.inr ⟨G ,Z⟩,.inl Z,trivial⟩⟩,⟨Z,_,Z,⟨.inl Z,.inl Z,.inl Z,trivial⟩⟩,trivial⟩) ?_);exact nx 4 Z (mQ (oi h0) Z (sr))
 refine lG (λ (FG:Int×(List ag))=>⟨[(1,.ptr 1 0),(2,.ptr 2 0),(14,.p (eI (Fg.Em.length:Int))),(15,.p (eI FG.1))],[(1,[.p (eI Fg.Ar),.arr 101000 3 0 FG.2.length,.p (eL eS Fg.Df)]),(2,[.p (eI 0),.p (.val (.slice none 0 0)),.p (.val (.slice none 0 0))]),(101000,iK aD FG.2)]⟩) (λ m (FG:Int×(List ag))=>dH (cT n) Fg m FG.1 FG.2) Y (0,Fg.Em) h1 (cF (iB ⟨er rfl,er rfl,er rfl,er rfl,trivial⟩ ⟨⟨_,rfl,⟨sr,AV.sub_of_eq (congrArg (AV.arr 101000 3 0) G),sr,trivial⟩⟩,⟨_,rfl,⟨sr,sr,sr,trivial⟩⟩,⟨_,rfl,eF _⟩,trivial⟩)) ?_;rintro m ⟨Fp,l18⟩ h1;replace h1:dH (cT n) Fg (m+1) Fp l18=some G0:=h1;rw [dH] at h1;refine nx 5 rfl (fD [16] h1 rfl (λ GI h1=>?_) λ GI h1=>?_)
 ·refine nx 9 Z (cc' h1 λ FI h1=>?_);refine bd h1 λ FT IR h1=>cc' h1 λ G3 h1=>mG (cF (t:=⟨[(1,.ptr 1 0),(2,.ptr 2 0),(3,.p (eI Fp)),(14,.p (eI (Fg.Em.length:Int))),(15,.p (eI Fp))],[(1,[.p (eI Fg.Ar),.arr 101000 3 0 l18.length,.p (eL eS Fg.Df)]),(2,[.p (eI 0),.p (.val (.slice none 0 0)),.p (.val (.slice none 0 0))]),(101000,iK aD l18)]⟩) (iB ⟨er Z,er Z,er Z,er Z,er Z,trivial⟩ ⟨⟨_,Z,⟨sr,AV.sub_of_eq (congrArg (AV.arr 101000 3 0) G),sr,trivial⟩⟩,⟨_,Z,⟨sr,sr,sr,trivial⟩⟩,⟨_,Z,eF _⟩,trivial⟩)) (mS ⟨1,[10],(λ _=>.none),(λ _=>[(1,.ptr 1 0),(2,.ptr 2 0),(3,.p (eI Fp)),(14,.p (eI (Fg.Em.length:Int))),(15,.p (eI Fp))]),(by2 ([(1,[.p (eI Fg.Ar),.arr 101000 3 0 l18.length,.p (eL eS Fg.Df)]),(2,[.p (eI 0),.p (.val (.slice none 0 0)),.p (.val (.slice none 0 0))]),(101000,iK aD l18)]) ([(101000,iK aD (l18.set Fp.toNat FT)),(1,[.p (eI Fg.Ar),.arr 101000 3 0 l18.length,.p (eL eS Fg.Df)]),(2,[.p (eI 0),.p (.val (.slice none 0 0)),.p (.val (.slice none 0 0))]),(101000,iK aD l18)]))⟩ Z Z Z ⟨Z,Z,Z,Z,Z,trivial⟩ (lt1 ⟨Z,Z,Z,Z,Z,trivial⟩) Z Z Z Z ?_);refine ak (λ _=>.ptr 1 1) Z Z Z (cV Z Y) (lt1 Z) (ai Z (af [(1,_)] ⟨.inl Z,trivial⟩ (λ sl E6 K hK=>ae Z (ap Z Z Z Z Z Z Z Z (E6 _ _ Z) hK)) aj)) (ak (λ _=>.arr 101000 3 0 l18.length) Z Z Z (cV Z Y) (lt1 Z) (ai Z (af [(18,_)] ⟨.inr ⟨0,_,Z,Z,Z⟩,trivial⟩ (λ sl E6 K hK=>ae Z (bv Z Z Z Z Z (E6 _ _ Z) Z Z hK)) aj)) ?_);refine ak (λ _=>.p (eI Fp)) Z Z Z (cV Z Y) (lt1 Z) (ai Z (af [(3,_)] ⟨.inl Z,trivial⟩ (λ sl E6 K hK=>ae Z (bH Z Z Z (E6 _ _ Z) hK)) aj)) (ak (λ _=>.ptr 1 1) Z Z Z (cV Z Y) (lt1 Z) (ai Z (af [(1,_)] ⟨.inl Z,trivial⟩ (λ sl E6 K hK=>ae Z (ap Z Z Z Z Z Z Z Z (E6 _ _ Z) hK)) aj)) ?_);refine ak (λ _=>.arr 101000 3 0 l18.length) Z Z Z (cV Z Y) (lt1 Z) (ai Z (af [(21,_)] ⟨.inr ⟨3,_,Z,Z,Z⟩,trivial⟩ (λ sl E6 K hK=>ae Z (bv Z Z Z Z Z (E6 _ _ Z) Z Z hK)) aj)) (ak (λ _=>.p (eI Fp)) Z Z Z (cV Z Y) (lt1 Z) (ai Z (af [(3,_)] ⟨.inl Z,trivial⟩ (λ sl E6 K hK=>ae Z (bH Z Z Z (E6 _ _ Z) hK)) aj)) ?_);refine ak (λ _=>.ptr 101000 (0+Fp.toNat*3)) Z Z Z (cV Z Y) (lt1 Z) (ai Z (af [(22,_),(23,_)] ⟨.inr ⟨4,_,Z,Z,Z⟩,.inr ⟨5,_,Z,Z,Z⟩,trivial⟩ (λ sl E6 K hK=>ae Z (kb Z Z Z Z Z Z (E6 _ _ Z) (E6 _ _ Z) Z FI hK)) aj)) (ak (λ _=>.p (.agg (ag.cs (lat l18 Fp)))) Z Z Z (cV Z Y) (lt1 Z) (ai Z (af [(24,_)] ⟨.inr ⟨6,_,Z,Z,Z⟩,trivial⟩ (λ sl E6 K hK=>ae Z (rP aD ag.cs l18 Z Z Z Z Z (E6 _ _ Z) Z Z Z FI ag.Eh Y hK)) aj)) ?_);refine ak (λ _=>.p (.agg (ag.cs FT))) Z Z Z (cV Z Y) (lt1 Z) (ai Z (af [(25,_)] ⟨.inr ⟨7,_,Z,Z,Z⟩,trivial⟩ (λ sl E6 K hK=>ae Z (bA (F4 (lat l18 Fp) _ IR) Z Z Z (az (E6 _ _ Z) bz) ⟨sr,trivial⟩ Tryz.call119 Z hK)) aj)) (ak (λ _=>.ptr 101000 (0+Fp.toNat*3)) Z Z Z (cV Z Y) (lt1 Z) (ai Z (af [(19,_),(20,_)] ⟨.inr ⟨1,_,Z,Z,Z⟩,.inr ⟨2,_,Z,Z,Z⟩,trivial⟩ (λ sl E6 K hK=>ae Z (kb Z Z Z Z Z Z (E6 _ _ Z) (E6 _ _ Z) Z G3 hK)) aj)) ?_);refine ep [(26,_),(27,_)] Z ⟨.inr ⟨8,_,Z,Z,Z⟩,.inr ⟨9,_,Z,Z,Z⟩,trivial⟩ Z (λ sl E6 K hK=>ae Z (qa aD ag.cs l18 FT (n:=Fp) Z Z Z (E6 _ _ Z) (E6 _ _ Z) Z Z Z G3 ag.Eh Y Y hK)) (gV ?_);refine nx 2 Z (oA h1 Z Z λ GQ h1=>?_);exact nx 2 Z (eX (Fp+1,l18.set Fp.toNat FT) h1 (cF (iB ⟨er Z,er Z,er Z,er Z,trivial⟩ ⟨⟨_,Z,⟨sr,AV.sub_of_eq (congrArg (AV.arr 101000 3 0) G),sr,trivial⟩⟩,⟨_,Z,⟨sr,sr,sr,trivial⟩⟩,⟨_,Z,eF _⟩,trivial⟩)))
 exact nx 2 Z (eXi _ (oi h1).symm (cF (iB ⟨er Z,er Z,trivial⟩ ⟨⟨_,Z,⟨sr,AV.sub_of_eq (congrArg (AV.arr 101000 3 0) G),sr,trivial⟩⟩,⟨_,Z,⟨sr,sr,sr,trivial⟩⟩,⟨_,Z,eF _⟩,trivial⟩)))
def dh (n:Nat)(l_0:List aF):Nat->Int->(List ag)->(List Az)->Option ((List ag)×(List Az))|0,_,_,_=>none|m+1,FB,FS,Ir=>if FB<(l_0.length:Int) then ck ((0:Int)<=FB/\FB<(l_0.length:Int))<|ck ((Ir.length+[(lat l_0 FB).By].length)*16<=140737488355328)<|(cT n ((lat l_0 FB).Ei)).bind λ GE=>ck ((FS.length+[GE].length)*56<=140737488355328)<|ck (inR (FB+1))<|dh n l_0 m (FB+1) (FS++[GE]) (Ir++[(lat l_0 FB).By])else some (FS,Ir)
def gM (n:Nat)(l_0:List aF):Option ag :=(dh n l_0 n 0 [] []).bind λ GL=>some (ag.mk 6 GL.1 GL.2)
theorem lQ (n:Nat)(l_0:List aF)(r:ag)(h0:gM n l_0=some r):cq Tryz.prog 92 [.p (eL a8 l_0)] [] (λ x y=>x=.agg [.p (eI r.Ar),.stk 2000000 3 (r.Em.map aD),.stk 2000001 1 (r.Df.map eS)]/\y=[]):=by
 unfold gM at h0;refine gw good [800000,800001] [] Tryz.func92 Z Z Z Z Z λ w0 F=>mPo (λ v:ag=>.agg [.p (eI v.Ar),.stk 2000000 3 (v.Em.map aD),.stk 2000001 1 (v.Df.map eS)]) (λ v=>[]) ?_;refine nx 14 Z (oLl (f:=a8) Z Z ?_);refine nx 3 Z (bd h0 λ Km h1 h0=>?_);refine kE 0 Km (λ Kh=>⟨[(2,.ptr 2 0),(3,.ptr 3 0)],[(2,[.p (eI 0),.p (.val (.slice none 0 0)),.p (.val (.slice none 0 0))]),(3,[.p (eI 6),.stk 600026 3 (Kh.1.map aD),.stk 600018 1 (Kh.2.map eS)])]⟩) ?_ ?_
 ·exact nx 7 Z (mQo (oi h0) (aT (bu 600026 800000 Z Z Z Z Z) (aT (bu 600018 800001 Z Z Z Z Z) (bK _))) Z Z Z Z (sr) trivial)
 refine lG (λ (Jp:Int×(List ag)×(List Az))=>⟨[(2,.ptr 2 0),(3,.ptr 3 0),(7,.p (eL a8 l_0)),(8,.p (eI (l_0.length:Int))),(9,.p (eI Jp.1))],[(2,[.p (eI 0),.p (.val (.slice none 0 0)),.p (.val (.slice none 0 0))]),(3,[.p (eI 6),.stk 600026 3 (Jp.2.1.map aD),.stk 600018 1 (Jp.2.2.map eS)])]⟩) (λ m (Jp:Int×(List ag)×(List Az))=>dh n l_0 m Jp.1 Jp.2.1 Jp.2.2) Y (0,[],[]) h1 (cF (iB ⟨er rfl,er rfl,er rfl,er rfl,er rfl,trivial⟩ ⟨⟨_,rfl,⟨sr,sr,sr,trivial⟩⟩,⟨_,rfl,⟨sr,AV.sub_nilstk _ _,AV.sub_nilstk _ _,trivial⟩⟩,trivial⟩)) ?_;rintro m ⟨FB,FS,Ir⟩ h1;replace h1:dh n l_0 (m+1) FB FS Ir=some Km:=h1;rw [dh] at h1;refine nx 5 rfl (fD [10] h1 rfl (λ IT h1=>?_) λ IT h1=>?_)
 ·refine nx 6 Z (oE h1 aF.Eh Z Z Y λ Gs h1=>?_);refine nx 10 Z (mO Z (bM eS [(lat l_0 FB).By] Z Z Z Z Z Z Z Z Z Z Z Z Z Z ?_));refine cc' h1 λ Gk h1=>mO Z (Af eS (λ _=>⟨Z,Z⟩) Ir [(lat l_0 FB).By] Z Z Z Z Z Z Z Z Z Z Z Z (Nat.zero_lt_succ _) Z Z Z Gk Z Z ?_);refine nx 3 Z (bd h1 λ GE J6 h1=>?_);refine cc' h1 λ FI h1=>mG (gE (t:=⟨[(2,.ptr 2 0),(3,.ptr 3 0),(5,.ptr 5 0),(7,.p (eL a8 l_0)),(8,.p (eI (l_0.length:Int))),(9,.p (eI FB))],[(2,[.p (eI 0),.p (.val (.slice none 0 0)),.p (.val (.slice none 0 0))]),(3,[.p (eI 6),.stk 600026 3 (FS.map aD),.stk 600018 1 ((Ir++[(lat l_0 FB).By]).map eS)]),(5,(aF.cs (lat l_0 FB)).map .p)]⟩) Z Z) (mS ⟨2,[6,8],(by3 (.some λ i=>Nat.beq i 600026) .none .none),(λ _=>[(2,.ptr 2 0),(3,.ptr 3 0),(5,.ptr 5 0),(7,.p (eL a8 l_0)),(8,.p (eI (l_0.length:Int))),(9,.p (eI FB))]),(by3 ([(2,[.p (eI 0),.p (.val (.slice none 0 0)),.p (.val (.slice none 0 0))]),(3,[.p (eI 6),.stk 600026 3 (FS.map aD),.stk 600018 1 ((Ir++[(lat l_0 FB).By]).map eS)]),(5,[.p (eS ((lat l_0 FB).By)),.p (eI (((lat l_0 FB).Ei).Ar)),.p (eL aD (((lat l_0 FB).Ei).Em)),.p (eL eS (((lat l_0 FB).Ei).Df)),.p (eI ((lat l_0 FB).EC)),.p (eB ((lat l_0 FB).Es)),.p (eB ((lat l_0 FB).Ey)),.p (eB ((lat l_0 FB).EM))])]) ([(2,[.p (eI 0),.p (.val (.slice none 0 0)),.p (.val (.slice none 0 0))]),(3,[.p (eI 6),.undef,.stk 600018 1 ((Ir++[(lat l_0 FB).By]).map eS)]),(5,[.p (eS ((lat l_0 FB).By)),.p (eI (((lat l_0 FB).Ei).Ar)),.p (eL aD (((lat l_0 FB).Ei).Em)),.p (eL eS (((lat l_0 FB).Ei).Df)),.p (eI ((lat l_0 FB).EC)),.p (eB ((lat l_0 FB).Es)),.p (eB ((lat l_0 FB).Ey)),.p (eB ((lat l_0 FB).EM))])]) ([(3,[.p (eI 6),.stk 600026 3 ((FS++[GE]).map aD),.stk 600018 1 ((Ir++[(lat l_0 FB).By]).map eS)]),(2,[.p (eI 0),.p (.val (.slice none 0 0)),.p (.val (.slice none 0 0))]),(3,[.p (eI 6),.undef,.stk 600018 1 ((Ir++[(lat l_0 FB).By]).map eS)]),(5,[.p (eS ((lat l_0 FB).By)),.p (eI (((lat l_0 FB).Ei).Ar)),.p (eL aD (((lat l_0 FB).Ei).Em)),.p (eL eS (((lat l_0 FB).Ei).Df)),.p (eI ((lat l_0 FB).EC)),.p (eB ((lat l_0 FB).Es)),.p (eB ((lat l_0 FB).Ey)),.p (eB ((lat l_0 FB).EM))])]))⟩ Z Z Z ⟨Z,Z,Z,Z,Z,Z,trivial⟩ (lt2 ⟨Z,Z,Z,Z,Z,Z,trivial⟩ ⟨Z,Z,Z,Z,Z,Z,trivial⟩) Z Z Z Z ?_);refine ak (λ _=>.ptr 3 1) Z Z Z (bR Z Z Y) (lt2 Z Z) (ai Z (af [(3,_)] ⟨.inl Z,trivial⟩ (λ sl E6 K hK=>ae Z (ap Z Z Z Z Z Z Z Z (E6 _ _ Z) hK)) (af [(3,_)] ⟨.inl Z,trivial⟩ (λ sl E6 K hK=>ae Z (ap Z Z Z Z Z Z Z Z (E6 _ _ Z) hK)) aj))) (ak (by3 (.stk 600026 3 (FS.map aD)) .undef .undef) Z Z Z (bR Z Z Y) (lt2 Z Z) (ai Z (ai Z (af [(20,_)] ⟨.inr ⟨0,_,Z,Z,Z⟩,trivial⟩ (λ sl E6 K hK=>ae Z (bv Z Z Z Z Z (E6 _ _ Z) Z Z hK)) aj))) ?_);refine ak (λ _=>.ptr 5 1) Z Z Z (bR Z Z Y) (lt2 Z Z) (ai Z (af [(5,_)] ⟨.inl Z,trivial⟩ (λ sl E6 K hK=>ae Z (ap Z Z Z Z Z Z Z Z (E6 _ _ Z) hK)) (af [(5,_)] ⟨.inl Z,trivial⟩ (λ sl E6 K hK=>ae Z (ap Z Z Z Z Z Z Z Z (E6 _ _ Z) hK)) aj))) (ak (λ _=>.p (.agg (ag.cs ((lat l_0 FB).Ei)))) Z Z Z (bR Z Z Y) (lt2 Z Z) (ai Z (af [(22,_)] ⟨.inr ⟨2,_,Z,Z,Z⟩,trivial⟩ (λ sl E6 K hK=>ae Z (a6 Z Z Z Z Z (E6 _ _ Z) Z Z Z hK)) (af [(22,_)] ⟨.inr ⟨2,_,Z,Z,Z⟩,trivial⟩ (λ sl E6 K hK=>ae Z (a6 Z Z Z Z Z (E6 _ _ Z) Z Z Z hK)) aj))) ?_);refine ak (λ _=>.p (.agg (ag.cs GE))) Z Z Z (bR Z Z Y) (lt2 Z Z) (ai Z (ai Z (af [(23,_)] ⟨.inr ⟨3,_,Z,Z,Z⟩,trivial⟩ (λ sl E6 K hK=>ae Z (bA (qy _ ((lat l_0 FB).Ei) _ J6) Z Z Z (az (E6 _ _ Z) bz) ⟨sr,trivial⟩ Tryz.call119 Z hK)) aj))) (ak (λ _=>.p (eL aD [GE])) Z Z Z (bR Z Z Y) (lt2 Z Z) (ai Z (ai Z (af [(24,_)] ⟨.inr ⟨4,_,Z,Z,Z⟩,trivial⟩ (λ sl E6 K hK=>ae Z (bM aD [GE] Z Z Z Z Z Z (cj (E6 _ _ Z) Z dS) Z Z Z Z Z Z (by first|rfl|(simp only [n6,ph,ag.Eo]; done)|(simp only [n6,ph,ag.Eo]; rfl)) hK)) aj))) ?_);refine fL (λ _=>.stk 600026 3 ((FS++[GE]).map aD)) [(21,_),(25,_)] Z ⟨.inr ⟨1,_,Z,Z,Z⟩,.inr ⟨5,_,Z,Z,Z⟩,trivial⟩ Z Z (cV Z Y) (lt2 (λ h=>absurd h (by decide)) Y) (λ sl E6 K hK=>ae Z (zf aD FS [GE] 600026 Z Z Z Z Z Z Z Z (E6 _ _ Z) (sr) Z (E6 _ _ Z) Z (λ x=>congrArg List.length (ag.Eh x)) (Nat.zero_lt_succ _) Z Z Z Z FI hK)) (ak (λ _=>.ptr 3 1) Z Z Z (bR Z Z Y) (lt2 Z Z) (ai Z (af [(3,_)] ⟨.inl Z,trivial⟩ (λ sl E6 K hK=>ae Z (ap Z Z Z Z Z Z Z Z (E6 _ _ Z) hK)) (ai Z aj))) ?_);refine ep [(26,_),(27,_)] Z ⟨.inr ⟨6,_,Z,Z,Z⟩,.inr ⟨7,_,Z,Z,Z⟩,trivial⟩ Z (λ sl E6 K hK=>ae Z (eA Z Z Z (E6 _ _ Z) (E6 _ _ Z) Z Z Z (py Z) hK)) (gV ?_);refine nx 2 Z (oA h1 Z Z λ GR h1=>?_);exact nx 2 Z (eX (FB+1,FS++[GE],Ir++[(lat l_0 FB).By]) h1 (gE Z Z))
 exact nx 2 Z (eXi _ (oi h1).symm (gE Z Z))
def eg (n:Nat)(E5:au):Nat->Int->(List ag)->(List Az)->Option ((List ag)×(List Az))|0,_,_,_=>none|m+1,Fp,G7,J2=>if Fp<(E5.AT.length:Int) then ck ((0:Int)<=Fp/\Fp<(E5.AT.length:Int))<|(bg n J2 ((lat E5.AT Fp).By)).bind λ Hc=>(dU J2 Hc.1 [(lat E5.AT Fp).By]).bind λ Ht=>(gM n ((lat E5.AT Fp).C')).bind λ Fw=>(cY G7 Hc.1 ([(ag.mk 4 [Fw] [])])).bind λ GK=>ck (inR (Fp+1))<|eg n E5 m (Fp+1) GK Ht else some (G7,J2)
def fU (n:Nat)(E5:au):Option ag :=(gM n E5.C').bind λ r1=>(eg n E5 n 0 r1.Em r1.Df).bind λ Im=>some (ag.mk r1.Ar Im.1 Im.2)
theorem ny (n:Nat)(E5:au)(r:ag)(h0:fU n E5=some r):aB Tryz.prog 58 [.agg (au.cs E5)] (·=.p (.agg (ag.cs r))):=by
 unfold fU at h0;refine aZ good Tryz.func58 Z Z Z λ w0=>mP (λ v:ag=>.p (.agg (ag.cs v))) ?_;refine nx 9 Z (bd h0 λ r1 e2 h0=>?_);refine mO Z (bh [] [] 101000 101002 (lQ _ E5.C' _ e2) Z Z Z Z Z ⟨sr,trivial⟩ Z Z trivial Z Z Z Z Z Z Z Z Tryz.call92 Z Z ?_);refine nx 8 Z (oLl (f:=bc) Z Z ?_);refine nx 3 Z (bd h0 λ o37 h1 h0=>?_);refine kE 0 o37 (λ v38=>⟨[(2,.ptr 2 0),(3,.ptr 3 0)],[(2,[.p (eI 0),.p (.val (.slice none 0 0)),.p (.val (.slice none 0 0))]),(3,[.p (eI r1.Ar),.stk 104000 3 (v38.1.map aD),.stk 102000 1 (v38.2.map eS)])]⟩) ?_ ?_
 ·refine nx 6 Z (mG (gQ 102000 Z Z Z) ?_);refine mG (gQ 104000 Z Z Z) (nx 1 Z ?_);exact mQ (oi h0) Z (sr)
 refine lG (λ (GP:Int×(List ag)×(List Az))=>⟨[(2,.ptr 2 0),(3,.ptr 3 0),(12,.p (eL bc E5.AT)),(13,.p (eI (E5.AT.length:Int))),(14,.p (eI GP.1))],[(2,[.p (eI 0),.p (.val (.slice none 0 0)),.p (.val (.slice none 0 0))]),(3,[.p (eI r1.Ar),.stk 104000 3 (GP.2.1.map aD),.stk 102000 1 (GP.2.2.map eS)])]⟩) (λ m (GP:Int×(List ag)×(List Az))=>eg n E5 m GP.1 GP.2.1 GP.2.2) Y (0,r1.Em,r1.Df) h1 (aT (bu 101000 104000 rfl rfl rfl rfl rfl) (aT (bu 101001 102000 rfl rfl rfl rfl rfl) (gE rfl rfl))) ?_;rintro m ⟨Fp,G7,J2⟩ h1;replace h1:eg n E5 (m+1) Fp G7 J2=some o37:=h1;rw [eg] at h1;refine nx 5 rfl (fD [15] h1 rfl (λ c20 h1=>?_) λ c20 h1=>?_)
 ·refine nx 6 Z (oE h1 aR.Eh Z Z Y λ GR h1=>?_);refine nx 10 Z (bd h1 λ Hc LG h1=>?_);refine mO Z (xa ((dw _ J2 ((lat E5.AT Fp).By) _ LG).q) Z Z Z Z Z (tE Z (tE Z AR)) ⟨sr,sr,trivial⟩ Tryz.call93 ?_);refine nx 13 Z (mO Z (bM eS [(lat E5.AT Fp).By] Z Z Z Z Z Z Z Z Z Z Z Z Z Z ?_));refine bd h1 λ Ht e25 h1=>mO Z (bh [] [102000] 105000 105001 (jV J2 Hc.1 [(lat E5.AT Fp).By] _ e25) Z Z Z Z Z ⟨sr,sr,sr,trivial⟩ Z Z trivial Z Z Z Z Z Z Z Z Tryz.call94 Z Z ?_);refine nx 3 Z (bd h1 λ Fw Jf h1=>?_);refine bd h1 λ GK LF h1=>mG (gE (t:=⟨[(2,.ptr 2 0),(3,.ptr 3 0),(5,.ptr 5 0),(6,.p (eI Hc.1)),(12,.p (eL bc E5.AT)),(13,.p (eI (E5.AT.length:Int))),(14,.p (eI Fp))],[(2,[.p (eI 0),.p (.val (.slice none 0 0)),.p (.val (.slice none 0 0))]),(3,[.p (eI r1.Ar),.stk 104000 3 (G7.map aD),.stk 105000 1 (Ht.map eS)]),(5,(aR.cs (lat E5.AT Fp)).map .p)]⟩) Z Z) (mS ⟨3,[5,9,11],(by4 (.some (en [] 106000 106002)) (.some (en [104000] 107000 107001)) .none .none),(λ _=>[(2,.ptr 2 0),(3,.ptr 3 0),(5,.ptr 5 0),(6,.p (eI Hc.1)),(12,.p (eL bc E5.AT)),(13,.p (eI (E5.AT.length:Int))),(14,.p (eI Fp))]),(by4 ([(2,[.p (eI 0),.p (.val (.slice none 0 0)),.p (.val (.slice none 0 0))]),(3,[.p (eI r1.Ar),.stk 104000 3 (G7.map aD),.stk 105000 1 (Ht.map eS)]),(5,[.p (eS ((lat E5.AT Fp).By)),.p (eI ((lat E5.AT Fp).EI)),.p (eI ((lat E5.AT Fp).EJ)),.p (eL a8 ((lat E5.AT Fp).C')),.p (eB ((lat E5.AT Fp).Es))])]) ([(2,[.p (eI 0),.p (.val (.slice none 0 0)),.p (.val (.slice none 0 0))]),(3,[.p (eI r1.Ar),.stk 104000 3 (G7.map aD),.stk 105000 1 (Ht.map eS)]),(5,[.p (eS ((lat E5.AT Fp).By)),.p (eI ((lat E5.AT Fp).EI)),.p (eI ((lat E5.AT Fp).EJ)),.p (eL a8 ((lat E5.AT Fp).C')),.p (eB ((lat E5.AT Fp).Es))])]) ([(2,[.p (eI 0),.p (.val (.slice none 0 0)),.p (.val (.slice none 0 0))]),(3,[.p (eI r1.Ar),.undef,.stk 105000 1 (Ht.map eS)]),(5,[.p (eS ((lat E5.AT Fp).By)),.p (eI ((lat E5.AT Fp).EI)),.p (eI ((lat E5.AT Fp).EJ)),.p (eL a8 ((lat E5.AT Fp).C')),.p (eB ((lat E5.AT Fp).Es))])]) ([(3,[.p (eI r1.Ar),.stk 107000 3 (GK.map aD),.stk 105000 1 (Ht.map eS)]),(2,[.p (eI 0),.p (.val (.slice none 0 0)),.p (.val (.slice none 0 0))]),(3,[.p (eI r1.Ar),.undef,.stk 105000 1 (Ht.map eS)]),(5,[.p (eS ((lat E5.AT Fp).By)),.p (eI ((lat E5.AT Fp).EI)),.p (eI ((lat E5.AT Fp).EJ)),.p (eL a8 ((lat E5.AT Fp).C')),.p (eB ((lat E5.AT Fp).Es))])]))⟩ Z Z Z ⟨Z,Z,Z,Z,Z,Z,Z,trivial⟩ (lt3 ⟨Z,Z,Z,Z,Z,Z,Z,trivial⟩ ⟨Z,Z,Z,Z,Z,Z,Z,trivial⟩ ⟨Z,Z,Z,Z,Z,Z,Z,trivial⟩) Z Z Z Z ?_);refine ak (λ _=>.ptr 3 1) Z Z Z (nW Z Z Z Y) (lt3 Z Z Z) (ai Z (af [(3,_)] ⟨.inl Z,trivial⟩ (λ sl E6 K hK=>ae Z (ap Z Z Z Z Z Z Z Z (E6 _ _ Z) hK)) (af [(3,_)] ⟨.inl Z,trivial⟩ (λ sl E6 K hK=>ae Z (ap Z Z Z Z Z Z Z Z (E6 _ _ Z) hK)) (af [(3,_)] ⟨.inl Z,trivial⟩ (λ sl E6 K hK=>ae Z (ap Z Z Z Z Z Z Z Z (E6 _ _ Z) hK)) aj)))) (ak (by4 (.stk 104000 3 (G7.map aD)) (.stk 104000 3 (G7.map aD)) .undef .undef) Z Z Z (nW Z Z Z Y) (lt3 Z Z Z) (ai Z (ai Z (af [(34,_)] ⟨.inr ⟨0,_,Z,Z,Z⟩,trivial⟩ (λ sl E6 K hK=>ae Z (bv Z Z Z Z Z (E6 _ _ Z) Z Z hK)) (af [(34,_)] ⟨.inr ⟨0,_,Z,Z,Z⟩,trivial⟩ (λ sl E6 K hK=>ae Z (bv Z Z Z Z Z (E6 _ _ Z) Z Z hK)) aj)))) ?_);refine ak (λ _=>.p (eI Hc.1)) Z Z Z (nW Z Z Z Y) (lt3 Z Z Z) (ai Z (ai Z (af [(6,_)] ⟨.inl Z,trivial⟩ (λ sl E6 K hK=>ae Z (bH Z Z Z (E6 _ _ Z) hK)) (af [(6,_)] ⟨.inl Z,trivial⟩ (λ sl E6 K hK=>ae Z (bH Z Z Z (E6 _ _ Z) hK)) aj)))) (ak (λ _=>.ptr 5 3) Z Z Z (nW Z Z Z Y) (lt3 Z Z Z) (ai Z (af [(5,_)] ⟨.inl Z,trivial⟩ (λ sl E6 K hK=>ae Z (ap Z Z Z Z Z Z Z Z (E6 _ _ Z) hK)) (af [(5,_)] ⟨.inl Z,trivial⟩ (λ sl E6 K hK=>ae Z (ap Z Z Z Z Z Z Z Z (E6 _ _ Z) hK)) (af [(5,_)] ⟨.inl Z,trivial⟩ (λ sl E6 K hK=>ae Z (ap Z Z Z Z Z Z Z Z (E6 _ _ Z) hK)) aj)))) ?_);refine ak (λ _=>.p (eL a8 ((lat E5.AT Fp).C'))) Z Z Z (nW Z Z Z Y) (lt3 Z Z Z) (ai Z (ai Z (ai Z (af [(37,_)] ⟨.inr ⟨3,_,Z,Z,Z⟩,trivial⟩ (λ sl E6 K hK=>ae Z (bv Z Z Z Z Z (E6 _ _ Z) Z Z hK)) aj)))) (fL (λ _=>.p (.agg (ag.cs Fw))) [(38,_)] Z ⟨.inr ⟨4,_,Z,Z,Z⟩,trivial⟩ Z Z (bR Z Z Y) (lt3 (λ h=>absurd h (by decide)) Y Y) (λ sl E6 K hK=>ae Z (mN (λ _ hq=>pT 106001 (λ _ hq=>pT 106000 (λ _ hq=>bh [] [] 106000 106002 (lQ _ ((lat E5.AT Fp).C') _ Jf) Z Z Z (az (E6 _ _ Z) bz) Z ⟨sr,trivial⟩ Z Z trivial Z Z Z Z Z Z Z Z Tryz.call92 Z Z hq) Z Z Z hq) Z Z Z hq) (gG (ds:=ag.cs Fw) ⟨sr,sr,sr,trivial⟩) hK)) ?_);refine ak (λ _=>.p (eL aD [Fw])) Z Z Z (nW Z Z Z Y) (lt3 Z Z Z) (ai Z (af [(39,_)] ⟨.inr ⟨5,_,Z,Z,Z⟩,trivial⟩ (λ sl E6 K hK=>ae Z (bM aD [Fw] Z Z Z Z Z Z (cj (E6 _ _ Z) Z dS) Z Z Z Z Z Z (by first|rfl|(simp only [n6,ph,ag.Eo]; done)|(simp only [n6,ph,ag.Eo]; rfl)) hK)) (af [(39,_)] ⟨.inr ⟨5,_,Z,Z,Z⟩,trivial⟩ (λ sl E6 K hK=>ae Z (bM aD [Fw] Z Z Z Z Z Z (cj (E6 _ _ Z) Z dS) Z Z Z Z Z Z (by first|rfl|(simp only [n6,ph,ag.Eo]; done)|(simp only [n6,ph,ag.Eo]; rfl)) hK)) (ai Z aj)))) (ak (λ _=>.p (.agg (ag.cs (ag.mk 4 [Fw] [])))) Z Z Z (nW Z Z Z Y) (lt3 Z Z Z) (ai Z (af [(40,_)] ⟨.inr ⟨6,_,Z,Z,Z⟩,trivial⟩ (λ sl E6 K hK=>ae Z (mN (y:=.p (.agg (ag.cs (ag.mk 4 [Fw] [])))) (λ _ hq=>lV Z Z Z Z Z Z (fF Z (fF (E6 _ _ Z) lU)) Z Z hq) (cv ⟨.inl Z,.inl Z,.inr ⟨Z,Z⟩,trivial⟩) hK)) (af [(40,_)] ⟨.inr ⟨6,_,Z,Z,Z⟩,trivial⟩ (λ sl E6 K hK=>ae Z (mN (y:=.p (.agg (ag.cs (ag.mk 4 [Fw] [])))) (λ _ hq=>lV Z Z Z Z Z Z (fF Z (fF (E6 _ _ Z) lU)) Z Z hq) (cv ⟨.inl Z,.inl Z,.inr ⟨Z,Z⟩,trivial⟩) hK)) (ai Z aj)))) ?_);refine ak (λ _=>.p (eL aD ([(ag.mk 4 [Fw] [])]))) Z Z Z (nW Z Z Z Y) (lt3 Z Z Z) (ai Z (ai Z (af [(41,_)] ⟨.inr ⟨7,_,Z,Z,Z⟩,trivial⟩ (λ sl E6 K hK=>ae Z (bM aD [(ag.mk 4 [Fw] [])] Z Z Z Z Z Z (cj (E6 _ _ Z) Z dS) Z Z Z Z Z Z (by first|rfl|(simp only [n6,ph,ag.Eo]; done)|(simp only [n6,ph,ag.Eo]; rfl)) hK)) (ai Z aj)))) (fL (λ _=>.stk 107000 3 (GK.map aD)) [(35,_),(36,_),(42,_)] Z ⟨.inr ⟨1,_,Z,Z,Z⟩,.inr ⟨2,_,Z,Z,Z⟩,.inr ⟨8,_,Z,Z,Z⟩,trivial⟩ Z Z (cV Z Y) (lt3 (λ h=>absurd h (by decide)) (λ h=>absurd h (by decide)) Y) (λ sl E6 K hK=>ae Z (bh [] [104000] 107000 107001 (jd G7 Hc.1 ([(ag.mk 4 [Fw] [])]) _ LF) Z Z Z (az (E6 _ _ Z) (az (E6 _ _ Z) (az (E6 _ _ Z) bz))) Z ⟨sr,sr,sr,trivial⟩ Z Z trivial Z Z Z Z Z Z Z Z Tryz.call95 Z Z hK)) ?_);refine ak (λ _=>.ptr 3 1) Z Z Z (nW Z Z Z Y) (lt3 Z Z Z) (ai Z (af [(3,_)] ⟨.inl Z,trivial⟩ (λ sl E6 K hK=>ae Z (ap Z Z Z Z Z Z Z Z (E6 _ _ Z) hK)) (ai Z (ai Z aj)))) (ep [(43,_),(44,_)] Z ⟨.inr ⟨9,_,Z,Z,Z⟩,.inr ⟨10,_,Z,Z,Z⟩,trivial⟩ Z (λ sl E6 K hK=>ae Z (eA Z Z Z (E6 _ _ Z) (E6 _ _ Z) Z Z Z (py Z) hK)) ?_);refine gV (nx 2 Z ?_);exact oA h1 Z Z λ H3 h1=>nx 2 Z (eX (Fp+1,GK,Ht) h1 (aT (bu 105000 102000 Z Z Z Z Z) (aT (bu 107000 104000 Z Z Z Z Z) (gE Z Z))))
 exact nx 2 Z (eXi _ (oi h1).symm (gE Z Z))
def kJ (n:Nat)(E5:au):Option (List Az) :=(fU n E5).bind λ r1=>some r1.Df
theorem qN (n:Nat)(E5:au)(r:(List Az))(h0:kJ n E5=some r):aB Tryz.prog 98 [.agg (au.cs E5)] (·=.p (eL eS r)):=by
 unfold kJ at h0;refine aZ good Tryz.func98 Z Z Z λ w0=>mP (λ v:(List Az)=>.p (eL eS v)) ?_;refine nx 8 Z (bd h0 λ r1 e2 h0=>?_);refine oK (ny _ E5 _ e2) Z ⟨sr,trivial⟩ Tryz.call58 Z (nx 4 Z ?_);exact mQ (oi h0) Z (sr)
def aW (E5:List aa)(f_1:aa->Option Bool):Nat->Int->Option (Unit⊕Int)|0,_=>none|m+1,t8=>if t8<(E5.length:Int) then ck ((0:Int)<=t8/\t8<(E5.length:Int))<|(f_1 (lat E5 t8)).bind λ FH=>if FH=true then some (.inr t8)else ck (inR (t8+1))<|aW E5 f_1 m (t8+1)else some (.inl ())
def cC (n:Nat)(E5:List aa)(f_1:aa->Option Bool):Option Int :=jn (aW E5 f_1 n 0) λ _q16=>some (-1)
theorem g9 (n:Nat)(E5:List aa)(f_1:aa->Option Bool)(F_f_1:FuncId)(C_f_1:List AV)(K_f_1:AV.mapA.go (λ _=>none) C_f_1=some C_f_1)(E_f_1:∀ vs w,(callFunc F_f_1 vs).run Tryz.prog w=.ok (.enter F_f_1 vs) w)(H_f_1:∀ (x0:aa) r,f_1 x0=some r->fX Tryz.prog F_f_1 ([.p (.agg (aa.cs x0))]++C_f_1) (·=.p (eB r)))(r:Int)(h0:cC n E5 f_1=some r):fX Tryz.prog 184 [.p (eL ah E5),.func (.func F_f_1) C_f_1] (·=.p (eI r)):=by
 unfold cC at h0;refine rQ good Tryz.func184 Z Z Z λ w0=>mP (λ v:Int=>.p (eI v)) ?_;refine nx 8 rfl (oLl (f:=ah) Z Z ?_);refine nx 3 rfl ?_;obtain ⟨JN,h1,FE,hR0⟩:=ew h0;refine kEx 0 (λ I3:Unit=>JN=.inl I3) (λ I3=>⟨[],[]⟩) (λ I3 hv=>?_) ?_
 ·have h0:=FE _ hv;exact nx 6 Z (mQ (oi h0) Z (sr))
 refine lG (λ (Jq:Int)=>⟨[(0,.p (eL ah E5)),(1,.func (.func F_f_1) C_f_1),(7,.p (eI (E5.length:Int))),(8,.p (eI Jq))],[]⟩) (λ m (Jq:Int)=>aW E5 f_1 m Jq) Y 0 h1 (gE rfl rfl) ?_;rintro m t8 h1;replace h1:aW E5 f_1 (m+1) t8=some JN:=h1;rw [aW] at h1;refine nx 5 rfl (fD [9] h1 rfl (λ c9 h1=>?_) λ c9 h1=>?_)
 ·refine nx 14 Z (oE h1 aa.Eh Z Z Y λ G5 h1=>?_);refine nx 1 Z (bd h1 λ FH Hh h1=>?_);refine mG (gFn 1 C_f_1 Z (by simp only [])) (mG (gFn 11 C_f_1 Z (by simp only [])) ?_);refine mO Z (rF (q:=[.p (.agg (aa.cs (lat E5 t8)))]) (H_f_1 (lat E5 t8) _ Hh) Z Z Z Z K_f_1 Z Z ⟨sr,trivial⟩ E_f_1 Z ?_);refine nx 1 Z (fB [16] h1 Z (λ GA h1=>?_) λ GA h1=>?_)
  ·exact nx 7 Z (mQ (hR0 _ (oi h1).symm) Z (sr))
  refine nx 3 Z (oA h1 Z Z λ GG h1=>?_);exact nx 2 Z (eX (t8+1) h1 (gE Z Z))
 exact nx 2 Z (eXi _ (oi h1).symm (gE Z Z))
def co (n:Nat)(E5:List aa)(f_1:aa->Option Bool):Option Bool :=(cC n E5 f_1).bind λ r1=>some (decide (0<=r1))
theorem gD (n:Nat)(E5:List aa)(f_1:aa->Option Bool)(F_f_1:FuncId)(C_f_1:List AV)(K_f_1:AV.mapA.go (λ _=>none) C_f_1=some C_f_1)(E_f_1:∀ vs w,(callFunc F_f_1 vs).run Tryz.prog w=.ok (.enter F_f_1 vs) w)(H_f_1:∀ (x0:aa) r,f_1 x0=some r->fX Tryz.prog F_f_1 ([.p (.agg (aa.cs x0))]++C_f_1) (·=.p (eB r)))(r:Bool)(h0:co n E5 f_1=some r):fX Tryz.prog 156 [.p (eL ah E5),.func (.func F_f_1) C_f_1] (·=.p (eB r)):=by
 unfold co at h0;refine rQ good Tryz.func156 Z Z Z λ w0=>mP (λ v:Bool=>.p (eB v)) ?_;refine nx 8 Z (bd h0 λ r1 e2 h0=>?_);refine mO Z (nB (g9 _ E5 f_1 F_f_1 C_f_1 K_f_1 E_f_1 H_f_1 _ e2) Z Z Z Z (eT Z (eT (lS K_f_1) lf)) ⟨sr,sr,trivial⟩ Tryz.call184 Z ?_);exact nx 4 Z (mQ (oi h0) Z (sr))
mutual
def gr:Nat->aa->Option Bool|0,_=>none|n+1,E8=>(if E8.Ar=6 then some false else(co n E8.AI (λ x0=>(fV n) x0)).bind λ r3=>some (!r3) : Option Bool).bind λ t5=>some t5
def fV:Nat->aa->Option Bool|0,_=>none|n+1,FD=>((gr n) FD).bind λ r1=>some (!r1)
end
theorem qz (n:Nat):(∀ (E8:aa) (r:Bool),gr n E8=some r->aB Tryz.prog 130 [.agg (aa.cs E8)] (·=.p (eB r)))/\(∀ (FD:aa) (r:Bool),fV n FD=some r->aB Tryz.prog 157 [.agg (aa.cs FD)] (·=.p (eB r))):=by
 induction n with
 | zero=>exact ⟨(by intro E8 r h0; cases h0),(by intro FD r h0; cases h0)⟩
 | succ n ih=>
 obtain ⟨Ga,FU⟩:=ih;refine ⟨?_,?_⟩
 ·skip
  intro E8 r h0;rw [gr] at h0;refine aZ good Tryz.func130 Z Z Z λ w0=>mP (λ v:Bool=>.p (eB v)) ?_;refine nx 6 rfl (bd h0 λ o7 h1 h0=>?_);refine kN o7 (λ v8=>⟨[(2,.p (eB v8))],[]⟩) ?_ ?_
  ·exact nx 2 Z (mQ (oi h0) Z (sr))
  refine nx 5 Z (fN [5,6] h1 Z (λ c1 h1=>?_) λ c1 h1=>?_)
  ·exact nx 7 Z (eX _ (oi h1).symm (gE Z Z))
  refine nx 2 Z (bd h1 λ r3 e4 h1=>?_);refine mO Z (nB (gD _ E8.AI (λ x0=>(fV n) x0) 157 [] Z Tryz.call157 (λ x0 r h=>(FU x0 r h).q) _ e4) Z Z Z Z (eT Z (eT (lS Z) lf)) ⟨sr,sr,trivial⟩ Tryz.call156 Z ?_);exact nx 4 Z (eX _ (oi h1).symm (gE Z Z))
 ·skip
  intro FD r h0;rw [fV] at h0;refine aZ good Tryz.func157 Z Z Z λ w0=>mP (λ v:Bool=>.p (eB v)) ?_;refine nx 8 rfl (bd h0 λ r1 e2 h0=>?_);refine oK (Ga FD _ e2) rfl ⟨sr,trivial⟩ Tryz.call130 rfl (nx 4 rfl ?_);exact mQ (oi h0) rfl (sr)
theorem nA (n:Nat):∀ (E8:aa) (r:Bool),gr n E8=some r->aB Tryz.prog 130 [.agg (aa.cs E8)] (·=.p (eB r)):=(qz n).1
def iL (n:Nat)(a_0:aa)(GN:aa):Option Bool :=((fx n a_0 GN).bind λ r1=>if (!r1)=true then some true else(gr n a_0).bind λ r4=>if (!r4)=true then some true else(gr n GN).bind λ r7=>some (!r7) : Option Bool).bind λ t9=>some t9
theorem pH (n:Nat)(a_0:aa)(GN:aa)(r:Bool)(h0:iL n a_0 GN=some r):aB Tryz.prog 99 [.agg (aa.cs a_0),.agg (aa.cs GN)] (·=.p (eB r)):=by
 unfold iL at h0;refine aZ good Tryz.func99 Z Z Z λ w0=>mP (λ v:Bool=>.p (eB v)) ?_;refine nx 7 Z (bd h0 λ o11 h1 h0=>?_);refine kN o11 (λ v12=>⟨[(4,.p (eB v12))],[]⟩) ?_ ?_
 ·exact nx 2 Z (mQ (oi h0) Z (sr))
 refine nx 3 Z (bd h1 λ r1 e2 h1=>?_);refine oK (ll _ a_0 GN _ e2) Z ⟨sr,sr,trivial⟩ Tryz.call41 Z (nx 2 Z ?_);refine fB [8,9] h1 Z (λ c3 h1=>?_) λ c3 h1=>?_
 ·exact nx 11 Z (eX _ (oi h1).symm (gE Z Z))
 refine nx 1 Z (bd h1 λ r4 e5 h1=>?_);refine oK (nA _ a_0 _ e5) Z ⟨sr,trivial⟩ Tryz.call130 Z (nx 3 Z ?_);refine fB [12,13,14] h1 Z (λ c6 h1=>?_) λ c6 h1=>?_
 ·exact nx 6 Z (eX _ (oi h1).symm (gE Z Z))
 refine nx 1 Z (bd h1 λ r7 e8 h1=>?_);refine oK (nA _ GN _ e8) Z ⟨sr,trivial⟩ Tryz.call130 Z (nx 4 Z ?_);exact eX _ (oi h1).symm (gE Z Z)
def j5 (n:Nat)(E8:aa)(name_1:Az):Option aa :=(gf n E8 name_1).bind λ r1=>some (aa.mk r1.1.Ar r1.1.BY r1.1.B' r1.1.AI r1.1.A')
theorem nZ (n:Nat)(E8:aa)(name_1:Az)(r:aa)(h0:j5 n E8 name_1=some r):aB Tryz.prog 100 [.agg (aa.cs E8),eS name_1] (·=.p (.agg (aa.cs r))):=by
 unfold j5 at h0;refine aZ good Tryz.func100 Z Z Z λ w0=>mP (λ v:aa=>.p (.agg (aa.cs v))) ?_;refine nx 9 Z (bd h0 λ r1 e2 h0=>?_);refine mO Z (ki (λ _ hq=>bh [] [] 101000 101002 (jH _ E8 name_1 _ e2) Z Z Z Z Z ⟨sr,sr,trivial⟩ Z Z trivial Z Z Z Z Z Z Z Z Tryz.call59 Z Z hq) (gQ 101000 Z Z Z) ?_);exact nx 13 Z (mQ (oi h0) Z (gG ⟨sr,sr,sr,sr,AV.sub_vec _ _ _ _,trivial⟩))
def cS (n:Nat)(before_1:aa)(after_2:aa)(r1:(List Az)):Nat->(List Az)->Int->Option (List Az)|0,_,_=>none|m+1,Gn,Gp=>if Gp<(r1.length:Int) then(ck ((0:Int)<=Gp/\Gp<(r1.length:Int))<|(j5 n before_1 (lat r1 Gp)).bind λ FT=>(j5 n after_2 (lat r1 Gp)).bind λ Hb=>(iL n FT Hb).bind λ r25=>if r25=true then ck ((Gn.length+[lat r1 Gp].length)*16<=140737488355328)<|some (Gn++[lat r1 Gp])else some Gn : Option (List Az)).bind λ KS=>ck (inR (Gp+1))<|cS n before_1 after_2 r1 m KS (Gp+1)else some Gn
def ig (n:Nat)(E5:au)(before_1:aa)(after_2:aa):Option (List Az) :=(kJ n E5).bind λ r1=>(cS n before_1 after_2 r1 n [] 0).bind λ KR=>some KR
theorem pf (n:Nat)(E5:au)(before_1:aa)(after_2:aa)(r:(List Az))(h0:ig n E5 before_1 after_2=some r):aB Tryz.prog 61 [.agg (au.cs E5),.agg (aa.cs before_1),.agg (aa.cs after_2)] (·=.p (eL eS r)):=by
 unfold ig at h0;refine aZ good Tryz.func61 Z Z Z λ w0=>mP (λ v:(List Az)=>.p (eL eS v)) ?_;refine nx 15 Z (bd h0 λ r1 e2 h0=>?_);refine oK (qN _ E5 _ e2) Z ⟨sr,trivial⟩ Tryz.call98 Z (oLl (f:=eS) Z Z ?_);refine nx 3 Z (bd h0 λ Hv h1 h0=>?_);refine kE 0 Hv (λ v37=>⟨[(7,.vec 27 1 0 (v37.map eS))],[]⟩) ?_ ?_
 ·exact nx 7 Z (mQ (oi h0) Z (AV.sub_vec _ _ _ _))
 refine lG (λ (KM:(List Az)×Int)=>⟨[(4,.ptr 4 0),(5,.ptr 5 0),(7,.vec 27 1 0 (KM.1.map eS)),(11,.p (eL eS r1)),(12,.p (eI (r1.length:Int))),(13,.p (eI KM.2))],[(4,(aa.cs before_1).map .p),(5,(aa.cs after_2).map .p)]⟩) (λ m (KM:(List Az)×Int)=>cS n before_1 after_2 r1 m KM.1 KM.2) Y ([],0) h1 (cF (iB ⟨er rfl,er rfl,⟨_,rfl,AV.sub_nilvec _ _ _⟩,er rfl,er rfl,er rfl,trivial⟩ ⟨⟨_,rfl,⟨sr,sr,sr,sr,sr,trivial⟩⟩,⟨_,rfl,⟨sr,sr,sr,sr,sr,trivial⟩⟩,trivial⟩)) ?_;rintro m ⟨Gn,Gp⟩ h1;replace h1:cS n before_1 after_2 r1 (m+1) Gn Gp=some Hv:=h1;rw [cS] at h1;refine nx 5 rfl (fD [14] h1 rfl (λ GI h1=>?_) λ GI h1=>?_)
 ·refine nx 3 Z (bd h1 λ Hu h2 h1=>?_);refine kN Hu (λ Kw=>⟨[(4,.ptr 4 0),(5,.ptr 5 0),(7,.vec 27 1 0 (Kw.map eS)),(11,.p (eL eS r1)),(12,.p (eI (r1.length:Int))),(13,.p (eI Gp))],[(4,(aa.cs before_1).map .p),(5,(aa.cs after_2).map .p)]⟩) ?_ ?_
  ·refine nx 2 Z (oA h1 Z Z λ H3 h1=>?_);exact nx 2 Z (eX (Hu,Gp+1) h1 (gE Z Z))
  refine nx 3 Z (oE h2 Y Z Z Y λ FI h2=>?_);refine nx 4 Z (bd h2 λ FT IR h2=>?_);refine bd h2 λ Hb J4 h2=>bd h2 λ r25 e26 h2=>mD [(4,.ptr 4 0),(5,.ptr 5 0),(7,.vec 27 1 0 (Gn.map eS)),(9,.p (eS (lat r1 Gp))),(11,.p (eL eS r1)),(12,.p (eI (r1.length:Int))),(13,.p (eI Gp))] Z ⟨Z,Z,Z,Z,Z,Z,Z,trivial⟩ Z (dR 2 Z ?_);refine dq (.p (.agg (aa.cs FT))) [17,18] Z (λ _ e _ q=>ae Z (bA (nZ _ before_1 (lat r1 Gp) _ IR) Z Z Z (az (e _ _ Z) (az (e _ _ Z) bz)) ⟨sr,sr,trivial⟩ Tryz.call100 Z q)) Z (dR 2 Z ?_);refine dq (.p (.agg (aa.cs Hb))) [20,21] Z (λ _ e _ q=>ae Z (bA (nZ _ after_2 (lat r1 Gp) _ J4) Z Z Z (az (e _ _ Z) (az (e _ _ Z) bz)) ⟨sr,sr,trivial⟩ Tryz.call100 Z q)) Z (dq (.p (eB r25)) [19,22] Z (λ _ e _ q=>ae Z (bA (pH _ FT Hb _ e26) Z Z Z (az (e _ _ Z) (az (e _ _ Z) bz)) ⟨sr,sr,trivial⟩ Tryz.call99 Z q)) Z ?_);refine dE Z (nx 1 Z ?_);refine fB [23] h2 Z (λ If h2=>?_) λ If h2=>?_
  ·refine nx 4 Z (mO Z (bM eS [lat r1 Gp] Z Z Z Z Z Z Z Z Z Z Z Z Z Z ?_));refine cc' h2 λ H4 h2=>mO Z (cW eS Gn [lat r1 Gp] Z Z Z Z Z Z Z Z Z Z Z Z Z Y Z Z Z Z H4 ?_);exact nx 2 Z (eX _ (oi h2).symm (gE Z Z))
  exact nx 2 Z (eX _ (oi h2).symm (gE Z Z))
 exact nx 2 Z (eXi _ (oi h1).symm (gE Z Z))
end Go.Ab.R06
end
