/- Texts of the proof, one behind the other. No statement is proved here. -/
import Derived.MapKept
import Derived.Lib.AppendZeros
import Derived.Lib.OthersKept
import Derived.Defers
import Derived.Lib.MapLaws
import Derived.Lib.ValidLaws
import Derived.Lib.ParseIntB
import Derived.Test.YtjaadgogdbkdfaaGreatDoorZ16Ba
import Derived.Test.YtjaadgogdbkdfaaGreatDoorZ16Bb
set_option maxHeartbeats 4000000
section
namespace Go.Ab
open Go.Proofs Go.RowKit
theorem bA.of_any {P:Program}{f:FuncId}{args:List PV}{r:AV}
  (h:∀ (w:World) (st:Nat->Nat->Prop) (vs:Array Value),Ok0 w st->vs.size=args.length->(∀ (i:Nat) c v,args[i]? = some c->vs[i]? = some v->PRep w st c v) ->
   Calls P f vs w λ e w'=>∃ v,e=.returned v/\Below w.heap.size w w'/\∀ g',ARep w' g' r v):bA P f args (·=r):=by
 intro w st vs hok U0 hargs;refine (h w st vs hok U0 hargs).mono ?_;rintro e w' ⟨v,rfl,hB,hr⟩;refine ⟨v,r,⟨st,λ _=>none⟩,rfl,rfl,hr _,⟨hB.os,hB.output,hB.tape,hB.size,λ b hb=>hB.block b hb,?_,?_,λ b o hb=>Nat.lt_of_lt_of_le (hok.lt b o hb) hB.size,λ b _ o=>Iff.rfl⟩⟩
 ·grind
 grind
theorem arr2 {vs:Array Value}(h:vs.size=2):∃ a b,vs=#[a,b]/\vs[0]? = some a/\vs[1]? = some b:=by
 refine ⟨vs[0],vs[1],?_,Array.getElem?_eq_getElem _,Array.getElem?_eq_getElem _⟩
 grind
def strings_HasSuffix (s p:Bk):Option Bool:=ck (s.length<=9223372036854775807)<|some (Lib.hasSuffix s p)
theorem rt (O' p_1:Bk)(r:Bool)(h0:strings_HasSuffix O' p_1=some r):bA Tryz.prog 55 [eS O',eS p_1] (·=.p (eB r)):=by
 obtain ⟨hl,h0⟩:=kZ h0
 cases h0
 refine bA.of_calls (l:=[.string (str O'),.string (str p_1)]) λ w st hok=>(Tryz.strings_HasSuffix _ _ w tj).mono ?_;rintro e w' ⟨rfl,rfl⟩;rw [eZ,eZ];exact vG
def strings_ReplaceAll (s o n:Bk):Option Bk:=ck (s.length<4294967281/\1<=o.length/\s.length+Lib.countB (str s) (str o)*n.length<=140737488355328)<|some (Lib.replaceAll s o n)
theorem re (O' old_1 new_2:Bk)(r:Bk)(h0:strings_ReplaceAll O' old_1 new_2=some r):bA Tryz.prog 110 [eS O',eS old_1,eS new_2] (·=.p (eS r)):=by
 obtain ⟨⟨h1,h2,h3⟩,h0⟩:=kZ h0
 cases h0
 refine bA.of_calls (l:=[.string (str O'),.string (str old_1),.string (str new_2)]) λ w st hok=>?_;obtain ⟨m,hm⟩:=zl hok.gl (g:=0) (k:=.i64) rfl;refine (Tryz.strings_ReplaceAll _ _ _ m w tj hm tj tj).mono ?_;rintro e w' ⟨rfl,hb⟩;rw [eZ,eZ,eZ];exact ⟨_,rfl,hb,λ _=>.p (.val _)⟩
def strings_Join (xs:List Bk)(sep:Bk):Option Bk:=ck (xs.length<=140737488355328/\(Lib.join xs sep).length<=140737488355328)<|some (Lib.join xs sep)
theorem wk (elems_0:List Bk)(sep_1:Bk)(r:Bk)(h0:strings_Join elems_0 sep_1=some r):bA Tryz.prog 56 [eL eS elems_0,eS sep_1] (·=.p (eS r)):=by
 obtain ⟨⟨h1,h2⟩,h0⟩:=kZ h0
 cases h0
 refine bA.of_any λ w st vs hok U0 hv=>?_;obtain ⟨a,b,rfl,ha,hb⟩:=arr2 U0;have hb1:=hv 1 (eS sep_1) b rfl hb;have ha2:PRep w st (.slice (elems_0.map eS)) a:=hv 0 (eL eS elems_0) a rfl ha
 clear ha hb hv U0
 cases hb1
 have hmap:((elems_0.map str).map (·.data.toList))=elems_0:=by
  rw [List.map_map]
  conv=>rhs; rw [<- List.map_id elems_0]
  grind [List.map_congr_left,eZ]
 have nil:∀ (a:Option Addr) (c:Nat),elems_0=[]->Calls Tryz.prog 56 #[.slice a 0 c,.string (str sep_1)] w λ e w'=>∃ v,e=.returned v/\Below w.heap.size w w'/\∀ g',ARep w' g' (.p (eS (Lib.join elems_0 sep_1))) v:=by
  rintro a c rfl;refine (Tryz.strings_Join_none a c (str sep_1) w).mono ?_;rintro e w' ⟨rfl,rfl⟩;exact vG
 generalize hes:elems_0.map eS=es at ha2
 cases ha2 with
 | nils=>simp_all
 | nile q=>simp_all
 | slice sz cf hcap hsz' Vh hc hr=>
  rename_i bk off cap;have Pn:es.length=elems_0.length:=by grind
  by_cases he:elems_0=[]
  ·grind
  obtain ⟨x0,hx0⟩:=List.exists_mem_of_ne_nil _ he
  have hs1:sz=1:=by
   have:=hsz' (eS x0) (by grind);exact this.symm
  subst hs1
  have U6:∀ (j:Nat) x,(elems_0.map str)[j]? = some x->w.cell? ⟨bk,off+j,none⟩=some (.string x)/\st bk (off+j):=by
   intro j x hx;rw [List.getElem?_map] at hx;obtain ⟨y,hy,rfl⟩:=ro.1 hx;have hj:es[j]? = some (eS y):=by grind
   have q1:=hc j (eS y) 0 (eS y) hj rfl;have q2:=hr j (eS y) 0 (eS y) hj rfl;rw [Nat.mul_one,Nat.add_zero] at q1;generalize hcv:cf j 0=z at q1 q2
   cases q2
   grind
  have hbk:bk<w.heap.size:=by
   obtain ⟨i,hi,e⟩:=List.getElem_of_mem hx0;exact hok.lt _ _ (U6 i (str x0) (by grind)).2
  have hJ:=Tryz.strings_Join bk off cap (elems_0.map str) (str sep_1) w (λ j x hx=>(U6 j x hx).1) hbk (by grind) (by grind) (by grind [eZ]);rw [List.length_map,<- Pn] at hJ;refine hJ.mono ?_;rintro e w' ⟨rfl,hbl⟩;rw [hmap,eZ];exact ⟨_,rfl,hbl,λ _=>.p (.val _)⟩
def strings_Contains (s p:Bk):Option Bool:=ck (s.length<4294967281)<|some (Lib.contains s p)
theorem kz (O' substr_1:Bk)(r:Bool)(h0:strings_Contains O' substr_1=some r):bA Tryz.prog 128 [eS O',eS substr_1] (·=.p (eB r)):=by
 obtain ⟨h1,h0⟩:=kZ h0
 cases h0
 refine bA.of_calls (l:=[.string (str O'),.string (str substr_1)]) λ w st hok=>?_;obtain ⟨m,hm⟩:=zl hok.gl (g:=0) (k:=.i64) rfl;refine (Tryz.strings_Contains (str O') (str substr_1) m w tj hm).mono ?_;rintro e w' ⟨rfl,rfl⟩;rw [eZ,eZ];exact vG
end Go.Ab
end
section
namespace Go.Ab
open Go.MapKept
section
variable {C:Cx} {o:Oper} {K:AS->Prop} {sl:List (Nat×AV)} {ob:List (Nat×List AV)} {d:Nat}
theorem JS {d:Nat}(hd:d<M1):∀ i,Nat.beq i d=true->i<M1:=λ i hi=>by simp_all
end
/- As 'dem',for identities of any size; what is known of maps of rows is given up. -/
mutual
def AV.dm2 (D:Nat->Bool):AV->AV|.undef=>.undef|.p x=>.p x|.agg cs=>.agg (HR D cs)|.vec tok sz ty es=>bif D tok then .p (.slice es) else .vec tok sz ty es|.arr id sz off n=>bif D id then .undef else .arr id sz off n|.ptr id off=>bif D id then .undef else .ptr id off|.bptr T sz id=>bif D id then .undef else .bptr T sz id|.rptr cs=>.rptr cs|.tuple cs=>.tuple (HR D cs)|.func f cs=>.func f (HR D cs)|.mp tok kvs=>bif D tok then .undef else .mp tok kvs|.mpr ..=>.undef|.stk tok sz es=>bif D tok then .undef else .stk tok sz es|.sem ..=>.undef|.it ..=>.undef|.vecp ..=>.undef|.elp ..=>.undef
def HR (D:Nat->Bool):List AV->List AV|[]=>[]|x::r=>x.dm2 D::HR D r
end
theorem wF (D:Nat->Bool):∀ l,HR D l=l.map (AV.dm2 D)
 | []=>rfl
 | x::r=>by simp [HR,wF D r]
theorem ARep.dm2 {D:Nat->Bool}{w w':World}{g g':Gh}(ev:Ev w g.st w' g'.st)(ow:∀ id b,D id=false->g.ow id=some b->g'.ow id=some b)
  (shape:∀ id b c e,D id=false->g.ow id=some b->w.heap[b]? = some (.cells c e (0,0))->∃ c':Array Value,w'.heap[b]? = some (.cells c' e (0,0))/\c'.size=c.size)
  (tip:∀ id b o,D id=false->g.ow id=some b->g'.st b o->g.st b o)
  (mp:∀ id b es k,D id=false->g.ow id=some b->w.heap[b]? = some (.map es k)->w'.heap[b]? = some (.map es k))
  (stab:∀ id b o,D id=false->g.ow id=some b->g.st b o->w'.heap[b]? = w.heap[b]?) {x:AV} {v:Value} (h:ARep w g x v):ARep w' g' (x.dm2 D) v:=by
 induction h with
 | undef v=>simp only [AV.dm2]; exact .undef _
 | p h=>simp only [AV.dm2]; exact .p (h.mono ev)
 | agg hl h ih=>
  simp only [AV.dm2,wF];refine .agg (by grind) λ i c v h1 h2=>?_
  grind
 | vecn tok sz ty=>
  simp only [AV.dm2]
  cases D tok
  ·exact .vecn _ _ _
  ·exact .p .nils
 | vece tok sz a=>
  simp only [AV.dm2]
  cases D tok
  ·exact .vece _ _ _
  ·exact .p (.nile a)
 | vec how hb U9 U0 Va hr hty=>
  simp only [AV.dm2]
  cases hD:D _
  ·obtain ⟨c',hb',hs'⟩:=shape _ _ _ _ hD how hb;exact .vec (ow _ _ hD how) hb' (hs'.trans U9) U0 (λ o=>⟨λ h=>(Va o).1 (tip _ _ o hD how h),λ h=>(ev _ _ ((Va o).2 h)).1⟩) (hr.mono ev) hty
  ·exact .p (hr.mono ev)
 | arr how hb U9 hn=>
  simp only [AV.dm2]
  cases hD:D _
  ·obtain ⟨c',hb',hs'⟩:=shape _ _ _ _ hD how hb;exact .arr (ow _ _ hD how) hb' (hs'.trans U9) hn
  ·exact gX
 | ptr how=>
  simp only [AV.dm2]
  cases hD:D _
  ·exact .ptr (ow _ _ hD how)
  ·exact gX
 | bptrn how hb U9=>
  simp only [AV.dm2]
  cases hD:D _
  ·obtain ⟨c',hb',hs'⟩:=shape _ _ _ _ hD how hb;exact .bptrn (ow _ _ hD how) hb' (hs'.trans U9)
  ·exact gX
 | bptr how hb U9=>
  simp only [AV.dm2]
  cases hD:D _
  ·obtain ⟨c',hb',hs'⟩:=shape _ _ _ _ hD how hb;exact .bptr (ow _ _ hD how) hb' (hs'.trans U9)
  ·exact gX
 | rptr cf hc hr=>
  simp only [AV.dm2];exact .rptr cf (λ j c h=>⟨(ev _ _ (hc j c h).1).1,(ev _ _ (hc j c h).1).2.trans (hc j c h).2⟩) (λ j c h=>(hr j c h).mono ev)
 | tuple hl h ih=>
  simp only [AV.dm2,wF];refine .tuple (by grind) λ i c v h1 h2=>?_
  grind
 | func hl h ih=>
  simp only [AV.dm2,wF];refine .func (by grind) λ i c v h1 h2=>?_
  grind
 | mp how hb hn hd hk hv=>
  simp only [AV.dm2]
  cases hD:D _
  ·exact .mp (ow _ _ hD how) (mp _ _ _ _ hD how hb) hn hd hk (λ i e kv h1 h2=>(hv i e kv h1 h2).mono ev)
  ·exact gX
 | mpr=>simp only [AV.dm2]; exact .undef _
 | stkn tok sz=>
  simp only [AV.dm2]
  cases D tok
  ·exact .stkn _ _
  ·exact gX
 | stke tok sz a=>
  simp only [AV.dm2]
  cases D tok
  ·exact .stke _ _ _
  ·exact gX
 | stk how hb U9 Pn U0 Vh Va hr=>
  simp only [AV.dm2]
  cases hD:D _
  ·exact .stk (ow _ _ hD how) ((stab _ _ _ hD how ((Va _).2 rfl)).trans hb) U9 Pn U0 Vh (λ o=>⟨λ h=>(Va o).1 (tip _ _ o hD how h),λ h=>(ev _ _ ((Va o).2 h)).1⟩) (λ i x j p h1 h2=>by obtain ⟨v,h3,h4⟩:=hr i x j p h1 h2; exact ⟨v,h3,h4.mono ev⟩)
  ·exact gX
 | sem=>simp only [AV.dm2]; exact .undef _
 | it=>simp only [AV.dm2]; exact .undef _
 | vecp=>simp only [AV.dm2]; exact .undef _
 | elp=>simp only [AV.dm2]; exact .undef _
def Uu (e t:Nat)(i:Nat):Bool:=Nat.beq i e||Nat.beq i t||Nat.ble MZ i
def tkA (tok e:Nat)(y x:AV):AV:=match x with
 | .mpr t _ _ _ _=>bif Nat.beq t tok then y else .undef
 | x=>x.dm2 (Uu e tok)
def tkS (tok e:Nat)(y:AV):List (Nat×AV)->Option (List (Nat×AV))
 | []=>some []
 | (i,x)::r=>(match frc (tkA tok e y x) with
  | some z=>(match tkS tok e y r with|some l=>some ((i,z)::l)|none=>none)
  | none=>none)
end Go.Ab
end
section
namespace Go.Ab
theorem Ru (D:Nat->Bool):∀ (l:List PV),dmC D (l.map .p)=some (l.map .p)
 | []=>rfl
 | x::r=>by
  have h:=Ru D r
  grind [dmC,AV.dem,frc]
theorem Pp {D:Nat->Bool}{i:Nat}{l:List PV}{r r':List (Nat×List AV)}(h:D i=false)(hr:dmO D r=some r'):dmO D ((i,l.map .p)::r)=some ((i,l.map .p)::r'):=by
 grind [dmO,Ru]
theorem LO {D:Nat->Bool}{i:Nat}{cs:List AV}{r r':List (Nat×List AV)}(h:D i=true)(hr:dmO D r=some r'):dmO D ((i,cs)::r)=some r':=by
 grind [dmO]
theorem Pl {D:Nat->Bool}{i:Nat}{cs ds:List AV}{r r':List (Nat×List AV)}(h:D i=false)(hc:dmC D cs=some ds)(hr:dmO D r=some r'):dmO D ((i,cs)::r)=some ((i,ds)::r'):=by
 grind [dmO]
@[irreducible] def ws (n:Nat):List UInt8:=List.replicate n 0
section
variable {C:Cx} {o:Oper} {K:AS->Prop} {sl:List (Nat×AV)} {ob:List (Nat×List AV)} {d:Nat}
theorem yS {α:Type} [Inhabited α] (f:α->PV)(l:List α){t m e:Nat}{x y:Operand}{i ie:TI}{k:IntKind}{n:Int}(ho:o.op=.index t x y)(hd:o.dst=some d)(hn:Nat.blt d C.n=true)
  (hi:look C.tt t=some i) (U7:i.k=.array m e) (hie:look C.tt e=some ie) (hia:ie.k.isAgg=false) (hs1:ie.size=1) (hm:Nat.beq m l.length=true) (hx:evo sl x=some (.p (.agg (l.map f))))
  (hy:evo sl y=some (.p (.val (.int k n)))) (hb:0<=n/\n<(l.length:Int)) (hK:K ⟨(d,.p (f (lat l n)))::sl,ob⟩):bu C o K ⟨sl,ob⟩:=by
 obtain ⟨u,h1,h2⟩:=bU C.good hi;have h3:=tS (h2.trans U7);subst h3;have hm':=cl hm;refine ok_one hd hn (λ g a w hs=>?_) hK;have h5:=bN hs hx;generalize hv:a.eval x=v at h5
 cases h5 with
 | p h5=>
  cases h5 with
  | agg hl hh=>
   rename_i vs;have hlt:n.toNat<l.length:=by omega
   have hlt2:n.toNat<vs.size:=by grind
   have hnm:n<(m:Int):=by omega
   refine ⟨vs[n.toNat],by simp [execOp,ho,hv,cm hs hy,Instr.index,asIntOf,run_underlying h1,hb.1,hnm,run_sizeOf C.good hie,hs1,part,oO C.good hie,hia,hlt2],.p (hh n.toNat (f (lat l n)) _ ?_ (Array.getElem?_eq_getElem hlt2))⟩
   grind [lat]
theorem bv {t:TypeId}{x:Operand}{i:TI}{id k:Nat}{cs:List AV}{y:AV}(ho:o.op=.load t x)(hd:o.dst=some d)(hn:Nat.blt d C.n=true)
  (hi:look C.tt t=some i) (hia:i.k.isAgg=false) (hx:evo sl x=some (.ptr id k)) (hob:look ob id=some cs) (hy:cs[k]? = some y) (hK:K ⟨(d,y)::sl,ob⟩):bu C o K ⟨sl,ob⟩ :=
 sy ho hd hn hi hia hx hob hy hK
theorem Hm {t:TypeId}{x:Operand}{i:TI}{id k:Nat}{cs:List AV}{y:AV}(ho:o.op=.load t x)(hd:o.dst=some d)(hn:Nat.blt d C.n=true)
  (hi:look C.tt t=some i) (hia:i.k.isAgg=true) (hx:evo sl x=some (.ptr id k)) (hob:look ob id=some cs) (hl:Nat.ble (k+i.size) cs.length=true) (hy:pf ((cs.drop k).take i.size)=y)
  (hK:K ⟨(d,y)::sl,ob⟩):bu C o K ⟨sl,ob⟩:=vB ho hd hn hi hia hx hob hl (congrArg some hy) hK
theorem iB {t:TypeId}{x v:Operand}{i:TI}{id k:Nat}{cs xs ds:List AV}{y:AV}(ho:o.op=.store t x v)(hd:o.dst=none)
  (hi:look C.tt t=some i) (hx:evo sl x=some (.ptr id k)) (hv:evo sl v=some y) (hc:y.cellsA=some xs) (U0:Nat.beq xs.length i.size=true) (hob:look ob id=some cs) (hl:k+xs.length<=cs.length) (hu:qu cs k xs=ds)
  (hK:K ⟨sl,(id,ds)::ob⟩):bu C o K ⟨sl,ob⟩:=by
 grind [qw,Nat.eq_of_beq_eq_true]
theorem y3 {α:Type}(f:α->PV)(hf:∀ x,(f x).one=true):∀ l:List α,AV.onesB ((l.map f).map .p)=true
 | []=>rfl
 | x::r=>by simp only [n7,AV.onesB,AV.one,hf x,y3 f hf r,Bool.and_self]
theorem zu {α:Type}(f:α->PV)(l:List α){t:TypeId}{i:TI}{sl':List (Nat×AV)}{ob':List (Nat×List AV)}(hf:∀ x,(f x).one=true)(ho:o.op=.alloc t)(hd:o.dst=some d)(hn:Nat.blt d C.n=true)
  (hi:look C.tt t=some i) (hz:ib i=(l.map f).map .p) (h1:dmS (λ i=>Nat.beq i d) sl=some sl') (h2:dmO (λ i=>Nat.beq i d) ob=some ob') (hK:K ⟨(d,.ptr d 0)::sl',(d,(l.map f).map .p)::ob'⟩):bu C o K ⟨sl,ob⟩:=by
 grind [ny,AV.cellsA,y3,AZ,cW,sZ,tB]
theorem Qc (cs:List PV){t:TypeId}{v:Operand}{sl':List (Nat×AV)}{ob':List (Nat×List AV)}(ho:o.op=.box t v)(hd:o.dst=some d)(hn:Nat.blt d C.n=true)(hx:evo sl v=some (.p (.agg cs)))(h0:PV.onesB cs=true)
  (h1:dmS (λ i=>Nat.beq i d) sl=some sl') (h2:dmO (λ i=>Nat.beq i d) ob=some ob') (hK:K ⟨(d,.ptr d 0)::sl',(d,cs.map .p)::ob'⟩):bu C o K ⟨sl,ob⟩:=by
 refine EG ho hd hn hx (cs:=cs.map .p) (by grind [AV.cellsA]) ?_
 grind [AZ,cW,sZ,tB]
theorem H5 {α:Type}(f:α->PV)(l:List α){t:TypeId}{x:Operand}{i:TI}{id:Nat}(ho:o.op=.load t x)(hd:o.dst=some d)(hn:Nat.blt d C.n=true)
  (hi:look C.tt t=some i) (hia:i.k.isAgg=true) (hx:evo sl x=some (.ptr id 0)) (hob:look ob id=some ((l.map f).map .p)) (hl:Nat.beq i.size l.length=true)
  (hK:K ⟨(d,.p (.agg (l.map f)))::sl,ob⟩):bu C o K ⟨sl,ob⟩:=by
 have hl':=cl hl;refine vB ho hd hn hi hia hx hob (by simp [hl']) (y:=.p (.agg (l.map f))) (congrArg some ?_) hK
 have e:(((l.map f).map AV.p).drop 0).take i.size=(l.map f).map AV.p:=by
  grind [List.take_of_length_le]
 rw [e]
 have ha:∀ q:List PV,Ak (q.map .p)=some q:=by
  intro q
  induction q with
  | nil=>rfl
  | cons x r ih=>grind [Ak]
 grind [pf]
theorem xi:∀ q:List PV,Ak (q.map .p)=some q
 | []=>rfl
 | x::r=>by simp only [n7,Ak,xi r]
theorem QV {α:Type}(f:α->PV)(l:List α){tt:List (Nat×TI)}{rs:List ResultVar}{s:AS}{c id:Nat}{t:TypeId}{i:TI}(hr:rs=[.cell c t])(hc:look s.sl c=some (.ptr id 0))(hob:look s.ob id=some ((l.map f).map .p))(hi:look tt t=some i)(hia:i.k.isAgg=true)
  (hl:Nat.beq i.size l.length=true):po tt rs s=some [.p (.agg (l.map f))]:=by
 have hl':=cl hl;subst hr
 have e:(((l.map f).map AV.p).drop 0).take i.size=(l.map f).map AV.p:=by
  grind [List.take_of_length_le]
 have e2:Nat.ble (0+i.size) ((l.map f).map AV.p).length=true:=by simp [hl']
 grind [po,pf,xi]
theorem E8 {α:Type}(f:α->PV)(l l2:List α){t:TypeId}{x v:Operand}{i:TI}{id:Nat}(ho:o.op=.store t x v)(hd:o.dst=none)
  (hi:look C.tt t=some i) (hx:evo sl x=some (.ptr id 0)) (hv:evo sl v=some (.p (.agg (l2.map f)))) (hob:look ob id=some ((l.map f).map .p)) (hf:∀ x,(f x).one=true) (hl:Nat.beq i.size l.length=true) (hl2:Nat.beq i.size l2.length=true)
  (hK:K ⟨sl,(id,(l2.map f).map .p)::ob⟩):bu C o K ⟨sl,ob⟩:=by
 have e1:=cl hl;have e2:=cl hl2
 have ho1:∀ q:List α,PV.onesB (q.map f)=true:=by
  intro q
  induction q with
  | nil=>rfl
  | cons x r ih=>grind [PV.onesB]
 refine iB (xs:=(l2.map f).map .p) ho hd hi hx hv (by grind [AV.cellsA]) (by simp [e2]) hob jW ?_ hK;unfold qu;split
 ·rename_i y hy;have h3:=congrArg List.length hy;simp only [List.length_map,aq,List.length_nil] at h3;rw [hy]
  match l,e1 with
  | [z],_=>rfl
  | [],e1=>grind
  | _::_::_,e1=>grind
 simp_all
theorem JB {t:TypeId}{x:Operand}{s:List UInt8}{i:TI}{sl':List (Nat×AV)}{ob':List (Nat×List AV)}(ho:o.op=.range t x)(hd:o.dst=some d)(hn:Nat.blt d C.n=true)
  (hi:look C.tt t=some i) (U7:i.k=.string) (hx:evo sl x=some (.p (.val (.string ⟨s.toArray⟩)))) (h1:dmS (Nat.beq · d) sl=some sl') (h2:dmO (Nat.beq · d) ob=some ob')
  (hK:K ⟨(d,.it d s 0)::sl',ob'⟩):bu C o K ⟨sl,ob⟩:=by
 obtain ⟨u,hu1,hu2⟩:=bU C.good hi;have h3:=jk (hu2.trans U7);subst h3;intro g a w hs;have hdl:d<M1:=by have h1:=Nat.le_of_ble_eq_true C.nl; grind [Nat.blt_eq]
 unfold Oper.wp
 have hrun:(execOp a.eval o).run C.P w=.ok (.value (.pointer (some ⟨w.heap.size,0,none⟩))) (w.alloc (.stringIter ⟨s.toArray⟩ 0)):=by
  simp [execOp,ho,Instr.range,cm hs hx,run_underlying hu1,newObj,Sem.run,Result.andThen]
 rw [hrun];obtain ⟨g',hg'⟩:∃ g':Gh,g'=⟨λ b o=>g.st b o\/(b=w.heap.size/\o=0),λ i=>if i=d then some w.heap.size else g.ow i⟩:=⟨_,rfl⟩
 have U0:(w.alloc (.stringIter ⟨s.toArray⟩ 0)).heap.size=w.heap.size+1:=by simp
 have U4:Ev w g.st (w.alloc (.stringIter ⟨s.toArray⟩ 0)) g'.st:=λ b o h=>⟨by simp_all,World.cell?_alloc_lt w _ _ (hs.lt b o h)⟩
 have hs':St C.n C.w0 C.F g' (cW (Nat.beq · d) ⟨sl,ob⟩) a (w.alloc (.stringIter ⟨s.toArray⟩ 0)):=by
  subst hg';refine hs.evolve (Nat.beq · d) (JS hdl) U4 (λ id b hD h=>?_) (λ i j b hi hj=>?_) (λ i b hi=>?_) (λ b o h=>?_) (λ b hb=>?_) Z Z Z O (λ b hb o=>?_) (λ i hi=>?_)
  ·have Vs:id≠d:=λ e=>by simp_all
   exact EH
  ·dsimp only at hi hj;by_cases e1:i=d <;> by_cases e2:j=d
   ·omega
   ·rw [if_pos e1] at hi; rw [if_neg e2] at hj; cases hi; have:=(hs.own j _ hj).1; omega
   ·rw [if_neg e1] at hi; rw [if_pos e2] at hj; cases hj; have:=(hs.own i _ hi).1; omega
   ·rw [if_neg e1] at hi; rw [if_neg e2] at hj; exact hs.inj i j b hi hj
  ·dsimp only at hi;by_cases e1:i=d
   ·rw [if_pos e1] at hi; cases hi;exact ⟨by omega,λ hF=>by have:=hs.fl _ hF; have:=hs.size; omega⟩
   ·rw [if_neg e1] at hi; have:=hs.own i b hi; grind
  ·rcases h with h|h
   ·have:=hs.lt b o h; omega
   ·omega
  ·exact iM (by have:=hs.fl b hb; have:=hs.size; omega)
  ·have h1:=hs.fl b hb;have h2:=hs.size
   grind
  grind
 refine ⟨g',⟨(d,.it d s 0)::sl',ob'⟩,?_,hK⟩
 have hp:=hs'.put (d:=o.dst) (λ t ht=>by simp_all) (x:=.it d s 0) (v:=.pointer (some ⟨w.heap.size,0,none⟩))
  (.it (by simp_all) gP (by grind))
 rw [hd] at hp ⊢;rw [sZ h1,tB h2];exact hp
theorem Cw {n:Nat}{w0:Base}{w:World}{F:Nat->Prop}{g:Gh}{s:AS}{a:Act}(_hs:St n w0 F g s a w){tok pos:Nat}{l:List UInt8}{v:Value}(h:ARep w g (.it tok l pos) v) :
  ∃ b,v=.pointer (some ⟨b,0,none⟩)/\g.ow tok=some b/\w.heap[b]? = some (.stringIter ⟨l.toArray⟩ pos)/\g.st b 0:=by
 cases h with
 | it how hb hm=>grind
theorem K5 {x:Operand}{s:List UInt8}{tok pos:Nat}(ho:o.op=.next x true)(hd:o.dst=some d)(hn:Nat.blt d C.n=true)
  (hx:evo sl x=some (.it tok s pos)) (hp:¬ pos<s.length) (hK:K ⟨(d,.tuple [.p (eB false)])::sl,ob⟩):bu C o K ⟨sl,ob⟩:=by
 refine ok_one hd hn (λ g a w hs=>?_) hK;obtain ⟨b,hv,_,hb,_⟩:=Cw hs (bN hs hx);refine ⟨.tuple #[.bool false],?_,.tuple rfl λ i c v h1 h2=>?_⟩
 ·have U0:¬ pos<(⟨s.toArray⟩:ByteArray).size:=by grind [ByteArray.size]
  have:=Go.Lib.run_next_end_at (P:=C.P) w b ⟨s.toArray⟩ pos o.type hb U0
  simp_all [execOp]
 ·match i,h1,h2 with
  | 0,h1,h2=>simp at h1 h2; subst h1 h2; exact .p (.val _)
theorem KC {j:Nat}{s:List UInt8}{tok pos:Nat}{sl':List (Nat×AV)}{ob':List (Nat×List AV)}(ho:o.op=.next (.tmp j) true)(hd:o.dst=some d)(hn:Nat.blt d C.n=true)(hj:Nat.blt j C.n=true)
  (hx:evo sl (.tmp j)=some (.it tok s pos)) (htok:Nat.blt tok M1=true) (hp:pos<s.length) (ha:(s.getD pos 0).toNat<128) (h1:dmS (Nat.beq · tok) sl=some sl') (h2:dmO (Nat.beq · tok) ob=some ob')
  (hdj:Nat.beq d j=false) (hK:K ⟨(d,.tuple [.p (eB true),.p (eI (pos:Int)),.p (eK .i32 ((s.getD pos 0).toNat:Int))])::(j,.it tok s (pos+1))::sl',ob'⟩):bu C o K ⟨sl,ob⟩:=by
 intro g a w hs;obtain ⟨b,hv,how,hb,hm⟩:=Cw hs (bN hs hx);have htl:tok<M1:=Nat.blt_eq ▸ htok;have hbl:=(hs.own tok b how).1;unfold Oper.wp;have U0:pos<(⟨s.toArray⟩:ByteArray).size:=by grind [ByteArray.size]
 have hg0:(⟨s.toArray⟩:ByteArray)[pos]'U0=s.getD pos 0:=by
  rw [List.getD_eq_getElem?_getD,List.getElem?_eq_getElem hp]; rfl
 have hnx:=Go.Lib.run_next_ascii_at (P:=C.P) w b ⟨s.toArray⟩ pos o.type hb U0 (by grind);rw [hg0] at hnx
 have hrun:(execOp a.eval o).run C.P w=.ok (.value (.tuple #[.bool true,.int .i64 pos,.int .i32 (s.getD pos 0).toNat])) (w.iterAt b ⟨s.toArray⟩ (pos+1)):=by
  simp_all [execOp]
 rw [hrun]
 have hheap:∀ b',b'≠b->(w.iterAt b ⟨s.toArray⟩ (pos+1)).heap[b']? = w.heap[b']?:=λ b' Vs=>by
  grind [World.iterAt]
 have hheapb:=Go.Lib.iterAt_heap w b ⟨s.toArray⟩ pos (pos+1) hb;have hwsz:(w.iterAt b ⟨s.toArray⟩ (pos+1)).heap.size=w.heap.size:=by simp [World.iterAt]
 have U6:∀ b' o',(w.iterAt b ⟨s.toArray⟩ (pos+1)).cell? ⟨b',o',none⟩=w.cell? ⟨b',o',none⟩:=λ b' o'=>by
  grind [World.cell?]
 have hs':St C.n C.w0 C.F g (cW (Nat.beq · tok) ⟨sl,ob⟩) a (w.iterAt b ⟨s.toArray⟩ (pos+1)):=by
  refine hs.evolve (Nat.beq · tok) (JS htl) (λ b' o' h=>⟨h,U6 b' o'⟩) (λ id b' hD h=>⟨h,hheap b' λ e=>?_,λ o h=>h⟩) hs.inj (λ i b' h=>by rw [hwsz]; exact hs.own i b' h) (λ b' o' h=>by rw [hwsz]; exact hs.lt b' o' h) (λ b' hb'=>hheap b' λ e=>?_) Z Z Z O (λ b' _ o'=>Iff.rfl) (λ i _=>rfl)
  ·subst e;have:=hs.inj id tok b' h how
   simp_all
  ·subst e;exact (hs.own tok b' how).2 hb'
 have hjd:j<C.n:=Nat.blt_eq ▸ hj;refine ⟨g,⟨(d,.tuple [.p (eB true),.p (eI (pos:Int)),.p (eK .i32 ((s.getD pos 0).toNat:Int))])::(j,.it tok s (pos+1))::sl',ob'⟩,?_,hK⟩
 have hs2:St C.n C.w0 C.F g ⟨(j,.it tok s (pos+1))::sl',ob'⟩ a (w.iterAt b ⟨s.toArray⟩ (pos+1)):=by
  rw [sZ h1,tB h2];refine { hs' with sl:=λ i=>?_ };simp only [AS.get,aZ];by_cases e:j=i
  ·subst e;rw [if_pos rfl];simp only [Option.getD_some];have:a.eval (.tmp j)=a.tmps.getD j Go.undef:=rfl;rw [<- this,hv];exact .it how hheapb hm
  ·rw [if_neg e];exact hs'.sl i
 have hp2:=hs2.put (d:=o.dst) (λ t ht=>by simp_all) (x:=.tuple [.p (eB true),.p (eI (pos:Int)),.p (eK .i32 ((s.getD pos 0).toNat:Int))]) (v:=.tuple #[.bool true,.int .i64 pos,.int .i32 (s.getD pos 0).toNat])
  (.tuple Z λ i c v h1 h2=>by
   match i,h1,h2 with
   | 0,h1,h2=>simp at h1 h2; subst h1 h2; exact .p (.val _)
   | 1,h1,h2=>simp at h1 h2; subst h1 h2; exact .p (.val _)
   | 2,h1,h2=>simp at h1 h2; subst h1 h2; exact .p (.val _))
 rw [hd] at hp2 ⊢;exact hp2
end
variable {p:Prop}
theorem zI (h:p:=by rw [ae.hd_len]; decide):p:=h
def kd:List UInt8:=[0,0,0,0,0,0,0,0,0,1,6,0,0,1,0,0,0,0,0,0,0,0,0,0,0,0,0,0,0,0,0,0,1,4,5,7,0,4,4,0,4,4,4,4,4,4,4,4,3,3,3,3,3,3,3,3,3,3,4,0,4,4,4,4,0,2,2,2,2,2,2,2,2,2,2,2,2,2,2,2,2,2,2,2,2,2,2,2,2,2,2,4,0,4,0,2,0,2,2,2,2,2,2,2,2,2,2,2,2,2,2,2,2,2,2,2,2,2,2,2,2,2,2,4,4,4,0,0,0,0,0,0,0,0,0,0,0,0,0,0,0,0,0,0,0,0,0,0,0,0,0,0,0,0,0,0,0,0,0,0,0,0,0,0,0,0,0,0,0,0,0,0,0,0,0,0,0,0,0,0,0,0,0,0,0,0,0,0,0,0,0,0,0,0,0,0,0,0,0,0,0,0,0,0,0,0,0,0,0,0,0,0,0,0,0,0,0,0,0,0,0,0,0,0,0,0,0,0,0,0,0,0,0,0,0,0,0,0,0,0,0,0,0,0,0,0,0,0,0,0,0,0,0,0,0,0]
theorem BX:kd.length=256:=by kernel_rfl
def JY:List PV:=kd.map eU
theorem oY:JY.length=256:=by rw [JY,List.length_map,BX]
structure ae where
 fs:Bk
 fat:Int
 N':Int
 AI:az
 deriving Inhabited
def ae.cs (x:ae):List PV:=eS x.fs::eI x.fat::(JY++[eI x.N',eI x.AI.Ar,eI x.AI.fAt,eS x.AI.AT])
theorem ae.len (x:ae):((ae.cs x).map AV.p).length=262:=by simp [ae.cs,oY]
theorem ae.g_s (x:ae):((ae.cs x).map AV.p)[0]? = some (.p (eS x.fs)):=rfl
theorem ae.g_at (x:ae):((ae.cs x).map AV.p)[1]? = some (.p (eI x.fat)):=rfl
theorem ae.g_outer (x:ae):((ae.cs x).map AV.p)[2+256]? = some (.p (eI x.N')):=by
 simp only [ae.cs,n7,List.map_append,List.getElem?_cons_succ];rw [List.getElem?_append_right (by simp [oY])];simp [oY]
theorem ae.g_class (x:ae){n:Int}(h:0<=n/\n<256):((ae.cs x).map AV.p)[2+n.toNat*1]? = some (.p (eU (lat kd n))):=by
 have hn:n.toNat<256:=by omega
 have e:2+n.toNat*1=n.toNat+1+1:=by omega
 rw [e];simp only [ae.cs,n7,List.map_append,List.getElem?_cons_succ];rw [List.getElem?_append_left (by simp [oY]; omega)];simp [JY,lat,List.getElem?_map,List.getElem?_eq_getElem (show n.toNat<kd.length by rw [BX]; exact hn)]
def ae.hd (x:ae):List AV:=(eS x.fs::eI x.fat::(JY++[eI x.N'])).map .p
theorem ae.hd_len (x:ae):x.hd.length=259:=by simp [ae.hd,oY]
theorem ae.cs_hd (x:ae):(ae.cs x).map AV.p=x.hd++(az.cs x.AI).map .p:=by
 simp [ae.cs,ae.hd,az.cs]
theorem ae.l_bad (x:ae):Nat.ble (2+256+1+3) ((ae.cs x).map AV.p).length=true:=by rw [ae.len]; rfl
theorem ae.g_bad (x:ae):pf ((((ae.cs x).map AV.p).drop (2+256+1)).take 3)=.p (.agg (az.cs x.AI)):=by
 rw [ae.cs_hd,List.drop_append_of_le_length zI,List.drop_eq_nil_of_le zI]
 rfl
theorem ae.b_at (x:ae):1+1<=((ae.cs x).map AV.p).length:=by rw [ae.len]; decide
theorem ae.b_outer (x:ae):2+256+1<=((ae.cs x).map AV.p).length:=by rw [ae.len]; decide
theorem ae.b_bad (x:ae):2+256+1+3<=((ae.cs x).map AV.p).length:=by rw [ae.len]; decide
theorem ae.u_at (x:ae){v:Int}:qu ((ae.cs x).map AV.p) 1 [.p (eI v)]=(ae.cs (.mk x.fs v x.N' x.AI)).map .p:=by
 simp only [qu,ae.cs,n7,List.set_cons_succ,List.set_cons_zero]
theorem ae.u_outer (x:ae){v:Int}:qu ((ae.cs x).map AV.p) (2+256) [.p (eI v)]=(ae.cs (.mk x.fs x.fat v x.AI)).map .p:=by
 simp only [qu,ae.cs,n7,List.map_append,List.set_cons_succ];rw [List.set_append_right _ _ (by simp [oY])];simp [oY]
theorem ae.u_bad (x:ae){k a:Int}{n:Bk}:qu ((ae.cs x).map AV.p) (2+256+1) [.p (eI k),.p (eI a),.p (eS n)]=(ae.cs (.mk x.fs x.fat x.N' (.mk k a n))).map .p:=by
 have e:qu ((ae.cs x).map AV.p) 259 [.p (eI k),.p (eI a),.p (eS n)]=((ae.cs x).map AV.p).take 259++(az.cs (.mk k a n)).map .p++((ae.cs x).map AV.p).drop (259+3):=rfl;show qu ((ae.cs x).map AV.p) 259 [.p (eI k),.p (eI a),.p (eS n)]=_;rw [e,ae.cs_hd,ae.cs_hd,List.take_append_of_le_length zI,List.take_of_length_le zI,List.drop_eq_nil_of_le (by rw [n8,ae.hd_len]; simp [az.cs]),List.append_nil]
 rfl
end Go.Ab
end
section
namespace Go.Ab.R06
open Go.Proofs Go.Ab Go.Ab.RB
variable {p:Prop}
theorem Fo (h:p:=by
  exact nx 2 Z (eXi _ (oi h1).symm (gE Z Z))):p:=h
theorem Eq (h:p:=by repeat (first|apply Pp Z|apply LO Z|apply Pl Z Z|exact rfl)):p:=h
attribute [local irreducible] awp iH bu bA cj AV.sub M cN
def iS:Nat->Int->(List UInt8)->Option (List UInt8)|0,_,_=>none|m+1,c8,l9=>if c8<=122 then ck ((0:Int)<=c8/\(c8:Int)<256)<|ck ((c8:Int)<(l9.length:Int))<|ck ((0:Int)<=IntKind.wrap .i32 ((IntKind.wrap .i32 (c8-97))+65)/\(IntKind.wrap .i32 ((IntKind.wrap .i32 (c8-97))+65):Int)<256)<|ck ((IntKind.wrap .i32 ((IntKind.wrap .i32 (c8-97))+65):Int)<((l9.set c8.toNat (2:UInt8)).length:Int))<|iS m (IntKind.wrap .i32 (c8+1)) ((l9.set c8.toNat (2:UInt8)).set ((IntKind.wrap .i32 ((IntKind.wrap .i32 (c8-97))+65)).toNat) (2:UInt8))else some l9
def iZ:Nat->Int->(List UInt8)->Option (List UInt8)|0,_,_=>none|m+1,XR,l24=>if XR<=57 then ck ((0:Int)<=XR/\(XR:Int)<256)<|ck ((XR:Int)<(l24.length:Int))<|iZ m (IntKind.wrap .i32 (XR+1)) (l24.set XR.toNat (3:UInt8))else some l24
def iR:Nat->Nat->(List UInt8)->Option (List UInt8)|0,_,_=>none|m+1,t37,l38=>if t37<([123,125,91,93,40,41,44,61,60,62,43,45,42,47,37,33,38,124,63,58,46]:Bk).length then ck ((([123,125,91,93,40,41,44,61,60,62,43,45,42,47,37,33,38,124,63,58,46]:Bk).getD t37 0).toNat<128)<|ck ((0:Int)<=((([123,125,91,93,40,41,44,61,60,62,43,45,42,47,37,33,38,124,63,58,46]:Bk).getD t37 0).toNat:Int)/\(((([123,125,91,93,40,41,44,61,60,62,43,45,42,47,37,33,38,124,63,58,46]:Bk).getD t37 0).toNat:Int):Int)<256)<|ck ((((([123,125,91,93,40,41,44,61,60,62,43,45,42,47,37,33,38,124,63,58,46]:Bk).getD t37 0).toNat:Int):Int)<(l38.length:Int))<|iR m (t37+1) (l38.set (((([123,125,91,93,40,41,44,61,60,62,43,45,42,47,37,33,38,124,63,58,46]:Bk).getD t37 0).toNat:Int).toNat) (4:UInt8))else some l38
def qb (n:Nat):Option (List UInt8) :=(iS n 97 (ws 256)).bind λ l17=>(iZ n 48 l17).bind λ l30=>(iR n 0 l30).bind λ l45=>ck ((0:Int)<=95/\(95:Int)<256)<|ck ((95:Int)<(l45.length:Int))<|ck ((0:Int)<=34/\(34:Int)<256)<|ck ((34:Int)<((l45.set ((95:Int).toNat) (2:UInt8)).length:Int))<|ck ((0:Int)<=35/\(35:Int)<256)<|ck ((35:Int)<(((l45.set ((95:Int).toNat) (2:UInt8)).set ((34:Int).toNat) (5:UInt8)).length:Int))<|ck ((0:Int)<=10/\(10:Int)<256)<|ck ((10:Int)<((((l45.set ((95:Int).toNat) (2:UInt8)).set ((34:Int).toNat) (5:UInt8)).set ((35:Int).toNat) (7:UInt8)).length:Int))<|ck ((0:Int)<=32/\(32:Int)<256)<|ck ((32:Int)<(((((l45.set ((95:Int).toNat) (2:UInt8)).set ((34:Int).toNat) (5:UInt8)).set ((35:Int).toNat) (7:UInt8)).set ((10:Int).toNat) (6:UInt8)).length:Int))<|ck ((0:Int)<=9/\(9:Int)<256)<|ck ((9:Int)<((((((l45.set ((95:Int).toNat) (2:UInt8)).set ((34:Int).toNat) (5:UInt8)).set ((35:Int).toNat) (7:UInt8)).set ((10:Int).toNat) (6:UInt8)).set ((32:Int).toNat) (1:UInt8)).length:Int))<|ck ((0:Int)<=13/\(13:Int)<256)<|ck ((13:Int)<(((((((l45.set ((95:Int).toNat) (2:UInt8)).set ((34:Int).toNat) (5:UInt8)).set ((35:Int).toNat) (7:UInt8)).set ((10:Int).toNat) (6:UInt8)).set ((32:Int).toNat) (1:UInt8)).set ((9:Int).toNat) (1:UInt8)).length:Int))<|ck (Nat.beq 256 (((((((l45.set ((95:Int).toNat) (2:UInt8)).set ((34:Int).toNat) (5:UInt8)).set ((35:Int).toNat) (7:UInt8)).set ((10:Int).toNat) (6:UInt8)).set ((32:Int).toNat) (1:UInt8)).set ((9:Int).toNat) (1:UInt8)).set ((13:Int).toNat) (1:UInt8)).length=true)<|ck (Nat.beq 256 (ws 256).length=true/\Nat.beq 256 (((((((l45.set ((95:Int).toNat) (2:UInt8)).set ((34:Int).toNat) (5:UInt8)).set ((35:Int).toNat) (7:UInt8)).set ((10:Int).toNat) (6:UInt8)).set ((32:Int).toNat) (1:UInt8)).set ((9:Int).toNat) (1:UInt8)).set ((13:Int).toNat) (1:UInt8)).length=true)<|some (((((((l45.set ((95:Int).toNat) (2:UInt8)).set ((34:Int).toNat) (5:UInt8)).set ((35:Int).toNat) (7:UInt8)).set ((10:Int).toNat) (6:UInt8)).set ((32:Int).toNat) (1:UInt8)).set ((9:Int).toNat) (1:UInt8)).set ((13:Int).toNat) (1:UInt8))
theorem vD (n:Nat)(r:(List UInt8))(h0:qb n=some r):bA Tryz.prog 92 [] (·=.p (.agg (r.map eU))):=by
 unfold qb at h0;refine KS good Tryz.func92 Z Z Z λ w0=>mP (λ v:(List UInt8)=>.p (.agg (v.map eU))) ?_;refine nx 2 Z (mO Z (zu eU (ws 256) Y Z Z Z Z (by kernel_rfl) Z Z ?_));refine nx 3 Z (mO Z (zu eU (ws 256) Y Z Z Z Z (by kernel_rfl) Z Eq ?_));refine nx 7 Z (bd h0 λ o65 h1 h0=>?_);refine kE 0 o65 (λ v66=>⟨[(0,.ptr 0 0),(1,.ptr 1 0)],[(0,((ws 256).map eU).map .p),(1,(v66.map eU).map .p)]⟩) ?_ ?_
 ·refine nx 7 Z (bd h0 λ VA h1 h0=>?_);refine kE 2 VA (λ v68=>⟨[(0,.ptr 0 0),(1,.ptr 1 0)],[(0,((ws 256).map eU).map .p),(1,(v68.map eU).map .p)]⟩) ?_ ?_
  ·refine nx 4 Z (mO Z (JB Z Z Z Z Z Z Z Eq ?_));refine nx 2 Z (bd h0 λ Wm h1 h0=>?_);refine kE 4 Wm (λ ZR=>⟨[(0,.ptr 0 0),(1,.ptr 1 0)],[(0,((ws 256).map eU).map .p),(1,(ZR.map eU).map .p)]⟩) ?_ ?_
   ·refine nx 3 Z (cc' h0 λ hk46 h0=>?_);refine cc' h0 λ YO h0=>mO Z (cI Z Z Z Z Z Z Z Z Z hk46 ?_);refine mO Z (iW (f:=eU) (l:=Wm) (b:=(2:UInt8)) Z Z Z Z Z Z Z Z (by grind) ?_);refine cc' h0 λ XD h0=>cc' h0 λ Zs h0=>mO Z (cI Z Z Z Z Z Z Z Z Z XD ?_);refine mO Z (iW (f:=eU) (l:=Wm.set ((95:Int).toNat) (2:UInt8)) (b:=(5:UInt8)) Z Z Z Z Z Z Z Z (by grind) ?_);refine cc' h0 λ Zq h0=>cc' h0 λ YN h0=>mO Z (cI Z Z Z Z Z Z Z Z Z Zq ?_);refine mO Z (iW (f:=eU) (l:=(Wm.set ((95:Int).toNat) (2:UInt8)).set ((34:Int).toNat) (5:UInt8)) (b:=(7:UInt8)) Z Z Z Z Z Z Z Z (by grind) ?_);refine cc' h0 λ YM h0=>cc' h0 λ aas h0=>mO Z (cI Z Z Z Z Z Z Z Z Z YM ?_);refine mO Z (iW (f:=eU) (l:=((Wm.set ((95:Int).toNat) (2:UInt8)).set ((34:Int).toNat) (5:UInt8)).set ((35:Int).toNat) (7:UInt8)) (b:=(6:UInt8)) Z Z Z Z Z Z Z Z (by grind) ?_);refine nx 3 Z (cc' h0 λ hk54 h0=>?_);refine cc' h0 λ aar h0=>mO Z (cI Z Z Z Z Z Z Z Z Z hk54 ?_);refine mO Z (iW (f:=eU) (l:=(((Wm.set ((95:Int).toNat) (2:UInt8)).set ((34:Int).toNat) (5:UInt8)).set ((35:Int).toNat) (7:UInt8)).set ((10:Int).toNat) (6:UInt8)) (b:=(1:UInt8)) Z Z Z Z Z Z Z Z (by grind) ?_);refine cc' h0 λ YL h0=>cc' h0 λ X3 h0=>mO Z (cI Z Z Z Z Z Z Z Z Z YL ?_);refine mO Z (iW (f:=eU) (l:=((((Wm.set ((95:Int).toNat) (2:UInt8)).set ((34:Int).toNat) (5:UInt8)).set ((35:Int).toNat) (7:UInt8)).set ((10:Int).toNat) (6:UInt8)).set ((32:Int).toNat) (1:UInt8)) (b:=(1:UInt8)) Z Z Z Z Z Z Z Z (by grind) ?_);refine cc' h0 λ aaq h0=>cc' h0 λ X2 h0=>mO Z (cI Z Z Z Z Z Z Z Z Z aaq ?_);refine mO Z (iW (f:=eU) (l:=(((((Wm.set ((95:Int).toNat) (2:UInt8)).set ((34:Int).toNat) (5:UInt8)).set ((35:Int).toNat) (7:UInt8)).set ((10:Int).toNat) (6:UInt8)).set ((32:Int).toNat) (1:UInt8)).set ((9:Int).toNat) (1:UInt8)) (b:=(1:UInt8)) Z Z Z Z Z Z Z Z (by grind) ?_);refine nx 3 Z (cc' h0 λ Xj h0=>?_);refine mO Z (H5 eU (((((((Wm.set ((95:Int).toNat) (2:UInt8)).set ((34:Int).toNat) (5:UInt8)).set ((35:Int).toNat) (7:UInt8)).set ((10:Int).toNat) (6:UInt8)).set ((32:Int).toNat) (1:UInt8)).set ((9:Int).toNat) (1:UInt8)).set ((13:Int).toNat) (1:UInt8)) Z Z Z Z Z Z Z Xj ?_);refine cc' h0 λ aap h0=>mO Z (E8 eU (ws 256) (((((((Wm.set ((95:Int).toNat) (2:UInt8)).set ((34:Int).toNat) (5:UInt8)).set ((35:Int).toNat) (7:UInt8)).set ((10:Int).toNat) (6:UInt8)).set ((32:Int).toNat) (1:UInt8)).set ((9:Int).toNat) (1:UInt8)).set ((13:Int).toNat) (1:UInt8)) Z Z Z Z Z Z Y aap.1 aap.2 ?_);exact nx 2 Z (mQ (oi h0) (QV eU (((((((Wm.set ((95:Int).toNat) (2:UInt8)).set ((34:Int).toNat) (5:UInt8)).set ((35:Int).toNat) (7:UInt8)).set ((10:Int).toNat) (6:UInt8)).set ((32:Int).toNat) (1:UInt8)).set ((9:Int).toNat) (1:UInt8)).set ((13:Int).toNat) (1:UInt8)) Z Z Z Z Z Xj) (sr))
   refine lG (λ (Zi:Nat×(List UInt8))=>⟨[(0,.ptr 0 0),(1,.ptr 1 0),(22,.it 22 ([123,125,91,93,40,41,44,61,60,62,43,45,42,47,37,33,38,124,63,58,46]:Bk) Zi.1)],[(0,((ws 256).map eU).map .p),(1,(Zi.2.map eU).map .p)]⟩) (λ m (Zi:Nat×(List UInt8))=>iR m Zi.1 Zi.2) Y (0,VA) h1 (gE rfl rfl) ?_;rintro m ⟨t37,l38⟩ h1;replace h1:iR (m+1) t37 l38=some Wm:=h1;rw [iR] at h1;refine nx 2 rfl (fD (p:=t37<([123,125,91,93,40,41,44,61,60,62,43,45,42,47,37,33,38,124,63,58,46]:Bk).length) [] h1 rfl (λ YU h1=>?_) λ YU h1=>?_)
   ·refine cc' h1 λ XE h1=>mO Z (KC Z Z Z Z Z Z YU XE Z Eq Z ?_);refine nx 13 Z (cc' h1 λ W6 h1=>?_);refine cc' h1 λ aat h1=>mO Z (cI Z Z Z Z Z Z Z Z Z W6 ?_);refine mO Z (iW (f:=eU) (l:=l38) (b:=(4:UInt8)) Z Z Z Z Z Z Z Z (by grind) ?_);exact nx 1 Z (eX (t37+1,l38.set (((([123,125,91,93,40,41,44,61,60,62,43,45,42,47,37,33,38,124,63,58,46]:Bk).getD t37 0).toNat:Int).toNat) (4:UInt8)) h1 (gE Z Z))
   refine mO Z (K5 Z Z Z Z YU ?_);exact nx 5 Z (eXi _ (oi h1).symm (gE Z Z))
  refine lG (λ (q72:Int×(List UInt8))=>⟨[(0,.ptr 0 0),(1,.ptr 1 0),(3,.p (eK .i32 q72.1))],[(0,((ws 256).map eU).map .p),(1,(q72.2.map eU).map .p)]⟩) (λ m (q72:Int×(List UInt8))=>iZ m q72.1 q72.2) Y (48,o65) h1 (gE rfl rfl) ?_;rintro m ⟨XR,l24⟩ h1;replace h1:iZ (m+1) XR l24=some VA:=h1;rw [iZ] at h1;refine nx 6 rfl (fD [17] h1 rfl (λ c25 h1=>?_) λ c25 h1=>?_)
  ·refine nx 6 Z (cc' h1 λ YQ h1=>?_);refine cc' h1 λ Zv h1=>mO Z (cI Z Z Z Z Z Z Z Z Z YQ ?_);refine mO Z (iW (f:=eU) (l:=l24) (b:=(3:UInt8)) Z Z Z Z Z Z Z Z (by grind) ?_);exact nx 6 Z (eX (IntKind.wrap .i32 (XR+1),l24.set XR.toNat (3:UInt8)) h1 (gE Z Z))
  exact Fo
 refine lG (λ (Xw:Int×(List UInt8))=>⟨[(0,.ptr 0 0),(1,.ptr 1 0),(2,.p (eK .i32 Xw.1))],[(0,((ws 256).map eU).map .p),(1,(Xw.2.map eU).map .p)]⟩) (λ m (Xw:Int×(List UInt8))=>iS m Xw.1 Xw.2) Y (97,ws 256) h1 (gE rfl rfl) ?_;rintro m ⟨c8,l9⟩ h1;replace h1:iS (m+1) c8 l9=some o65:=h1;rw [iS] at h1;refine nx 6 rfl (fD [7] h1 rfl (λ c10 h1=>?_) λ c10 h1=>?_)
 ·refine nx 9 Z (cc' h1 λ WP h1=>?_);refine cc' h1 λ W9 h1=>mO Z (cI Z Z Z Z Z Z Z Z Z WP ?_);refine mO Z (iW (f:=eU) (l:=l9) (b:=(2:UInt8)) Z Z Z Z Z Z Z Z (by grind) ?_);refine cc' h1 λ W8 h1=>cc' h1 λ XH h1=>mO Z (cI Z Z Z Z Z Z Z Z Z W8 ?_);refine mO Z (iW (f:=eU) (l:=l9.set c8.toNat (2:UInt8)) (b:=(2:UInt8)) Z Z Z Z Z Z Z Z (by grind) ?_);exact nx 6 Z (eX (IntKind.wrap .i32 (c8+1),(l9.set c8.toNat (2:UInt8)).set ((IntKind.wrap .i32 ((IntKind.wrap .i32 (c8-97))+65)).toNat) (2:UInt8)) h1 (gE Z Z))
 exact Fo
theorem Kb (h:p:=by exact mQo (oi h0) (aQ _) Z Z Z (aD Z (aF _) Z) (sr) ⟨⟨_,Z,bf _⟩,trivial⟩):p:=h
theorem uW:qb 64=some kd:=by kernel_rfl
def iQ (O':Bk):Option ae:=some (.mk O' 0 (-1) (.mk 0 0 []))
theorem ae.ones (x:ae):PV.onesB (ae.cs x)=true:=by kernel_rfl
theorem od (O':Bk)(r:ae)(h0:iQ O'=some r):cj Tryz.prog 63 [.p (eS O')] [] (λ x y=>x=.ptr 2000000 0/\y=[(2000000,(ae.cs r).map .p)]):=by
 unfold iQ at h0;refine qV good [6] [6] Tryz.func63 Z Z Z Z Z λ w0 F=>mPo (λ _:ae=>.ptr 2000000 0) (λ v=>[(2000000,(ae.cs v).map .p)]) ?_;refine nx 7 Z ?_;refine oK (vD 64 _ uW) Z trivial Tryz.call92 Z ?_;refine mO Z (rV (cs:=(ae.cs (.mk O' 0 (-1) (.mk 0 0 []))).map .p) (y:=.p (.agg (ae.cs (.mk O' 0 (-1) (.mk 0 0 []))))) Z Z Z Z Z Z Z (by kernel_rfl) (by simp only [pf,xi]) ?_);refine mO Z (Qc (ae.cs (.mk O' 0 (-1) (.mk 0 0 []))) Z Z Z Z (ae.ones _) Z Z ?_);exact nx 4 Z Kb
end Go.Ab.R06
end
section
namespace Go.Ab
structure PreO (w:World)(g:Gh):Prop where
 ok:Ok0 w g.st
 own:∀ i b,g.ow i=some b->b<w.heap.size/\i<2*M1
 inj:∀ i j b,g.ow i=some b->g.ow j=some b->i=j
 nst:∀ i b,M1<=i->g.ow i=some b->∀ o,¬ g.st b o
def Rs (w:World)(g:Gh)(R:AV->List (Nat×List AV)->Prop)(v:Value)(w':World):Prop :=∃ r obs' g',R r obs'/\ARep w' g' r v/\(∀ p∈obs',jJ w' g' p.1 p.2)/\pV w g w' g'
def D1 (P:Program)(f:FuncId)(args:List AV)(Ve:List (Nat×List AV))(R:AV->List (Nat×List AV)->Prop):Prop :=∀ (w:World) (g:Gh) (vs:Array Value) (u:FrameMode),PreO w g->vs.size=args.length->(∀ (i:Nat) c v,args[i]? = some c->vs[i]? = some v->ARep w g c v)->(∀ id cs,look Ve id=some cs->jJ w g id cs) -> CallsD P f vs u w λ e u' w'=>u'=u/\∃ v,e=.returned v/\Rs w g R v w'
theorem SZ {P:Program}{tt:List (Nat×TI)}(good:dp P tt){f:FuncId}{fn:Func}{c:Code}{args:List AV}{Ve rob:List (Nat×List AV)}{r:AV}(ts ids:List Nat)(hf:P.funcs[f]? = some fn)(hb:fn.body=some c)
  (hn:Nat.ble args.length fn.ntmps=true) (hnl:Nat.ble fn.ntmps M1=true) (hts:ts.all (λ i=>Nat.blt i M1)=true) (hnd:nodupB ts=true)
  (h:∀ w0 F,awp ⟨P,tt,good,fn.ntmps,hnl,w0,F⟩ c (w6 ⟨P,tt,good,fn.ntmps,hnl,w0,F⟩ tt fn ts ids r rob) ⟨gR args,Ve⟩):D1 P f args Ve (λ x y=>x.sub r/\leO y rob) :=
 λ _ _ _ _ hp h1 h2 h3=>(callsD_of_wp hf hb (ub good ts ids (Nat.le_of_ble_eq_true hn) hnl hts hnd (λ w0 F=>u9 (h w0 F)) hp.ok hp.own hp.inj hp.nst h1 h2 h3)).mono
  λ _ _ _ ⟨hu,v,r,obs',g',he,hR,e1,e2,e3⟩=>⟨hu,v,he,r,obs',g',hR,e1,e2,e3⟩
def Uf:Option Code->Code|some (.seq _ (.seq _ B))=>B|_=>.skip
def KZ (P:Program)(fn:Func)(B:Code)(sl:List (Nat×AV))(Ve:List (Nat×List AV))(R:AV->List (Nat×List AV)->Prop):Prop :=∀ (w:World) (g:Gh) (a:Act),PreO w g->a.tmps.size=fn.ntmps->(∀ i,ARep w g ((⟨sl,Ve⟩:AS).get i) (a.tmps.getD i Go.undef))->(∀ id cs,look Ve id=some cs->jJ w g id cs) -> B.wp P (λ e a' w'=>(e=.normal\/e=.ret)/\a'.defers=a.defers/\∃ v,(∀ w2,(results fn a'.tmps).run P w2=.ok v w2)/\Rs w g R v w') a w
theorem La {P:Program}{tt:List (Nat×TI)}(good:dp P tt){fn:Func}{B:Code}{t:Nat}{sl:List (Nat×AV)}{Ve rob:List (Nat×List AV)}{r:AV}(ids:List Nat)(hres:fn.results.toList=[.tmp t])(hnl:Nat.ble fn.ntmps M1=true)
  (h:∀ w0 F,awp ⟨P,tt,good,fn.ntmps,hnl,w0,F⟩ B (w6 ⟨P,tt,good,fn.ntmps,hnl,w0,F⟩ tt fn [] ids r rob) ⟨sl,Ve⟩):KZ P fn B sl Ve (λ x y=>x.sub r/\leO y rob):=by
 intro w g a hp U0 UT hobs
 have hs:St fn.ntmps ⟨w,g.st,g.ow,hp.ok.gl,(λ i b h=>Nat.lt_of_lt_of_le (hp.own i b h).2 GV),a.defers⟩ (λ b=>b<w.heap.size/\∀ i,g.ow i≠some b) g ⟨sl,Ve⟩ a w :=
  ⟨Z,U0,UT,hobs,hp.inj,λ i b hi=>⟨(hp.own i b hi).1,λ h=>h.2 i hi⟩,hp.ok.lt,λ b h=>h.1,λ b h=>rfl,Z,Z,Z,bt _,λ b _ o=>Iff.rfl,λ _ _ _=>rfl,kS.refl _ _,λ i b hi h=>hp.nst i b hi h,Ev.refl _ _⟩
 refine wp_mono (u9 (h _ _) g a w hs) ?_;rintro e a' w' ⟨g1,s',h3,he,l,r1,obs1,obs',hl,hr,hpk,hm,hR⟩;obtain ⟨v,hv,hvr⟩:=qW good h3 fn l hl
 have hrun:∀ w2,(results fn a'.tmps).run P w2=.ok (a'.tmps.getD t Go.undef) w2:=λ w2=>by
  simp_all [xj,Array.mapM_eq_mapM_toList,Ap]
 obtain ⟨g',e1,e2,e3⟩:=Bg [] ids Z Z hp.own h3 hvr hr hpk hm
 have:v=a'.tmps.getD t Go.undef:=by
  grind
 exact ⟨he,h3.nd,v,λ w2=>by grind,_,_,g',hR,e1,e2,e3⟩
theorem CJ:∀ {js:List Nat} {q:List AV} {i:Nat} {c:AV},look (js.zip q) i=some c->∃ k:Nat,js[k]? = some i/\q[k]? = some c
 | [],_,_,_,h=>by simp [look] at h
 | _::_,[],_,_,h=>by simp [look] at h
 | j::js,x::q,i,c,h=>by
  rw [List.zip_cons_cons,aZ] at h;by_cases e:j=i
  ·rw [if_pos e] at h; cases h; exact ⟨0,by simp [e],rfl⟩
  ·rw [if_neg e] at h;obtain ⟨k,h1,h2⟩:=CJ h;exact ⟨k+1,by grind,by grind⟩
theorem uP:∀ l:List AV,qB l l
 | []=>trivial
 | x::r=>⟨AV.sub_refl x,uP r⟩
theorem Jy {C:Cx}{fn:Func}{B:Code}{sl:List (Nat×AV)}{ob:List (Nat×List AV)}(ids UY:List Nat)(NB NE:Nat)(js:List Nat){l l':List AV}{Ve qo rob ob':List (Nat×List AV)}{r r':AV}(hnt:C.n=fn.ntmps)
  (hB:KZ C.P fn B (js.zip l') qo (λ x y=>x.sub r/\leO y rob)) (hl:kM sl (js.map .tmp)=some l) (hl':AV.mapA.go (mF ids UY) l=some l') (hpk:jm ob ids=some Ve) (hmo:iT (mF ids UY) Ve=some qo) (hqq:leO qo qo)
  (hnd:nodupB ids=true) (hids:ids.all (λ i=>Nat.blt i (2*M1))=true) (hil:Nat.ble ids.length M1=true) (hdl:Nat.ble NE M1=true) (hdis:ids.all (λ i=>!(dk UY NB NE i))=true)
  (hvd:nodupB UY=true) (hvl:UY.all (λ i=>Nat.blt i M1)=true) (hvn:Nat.ble UY.length 100000=true) (hr:r.mapA (md ids NB NE)=some r') (hro:iT (md ids NB NE) rob=some ob')
  {g:Gh} {a a2:Act} {w:World} (hs:St C.n C.w0 C.F g ⟨sl,ob⟩ a w) (ht:a2.tmps=a.tmps) :
  B.wp C.P (λ e a' w'=>(e=.normal\/e=.ret)/\a'.defers=a2.defers/\∃ v,(∀ w2,(results fn a'.tmps).run C.P w2=.ok v w2)/\∃ g2,St C.n C.w0 C.F g2 ⟨(cW (dk UY NB NE) ⟨sl,ob⟩).sl,ob'++(cW (dk UY NB NE) ⟨sl,ob.filter λ p=>!(ids.any (Nat.beq p.1))⟩).ob⟩ a w'/\ARep w' g2 r' v) a2 w:=by
 obtain ⟨a1,a1'⟩:=lf hs _ l hl;have Pn:(js.map λ j=>a.eval (.tmp j)).length=l.length:=by grind
 obtain ⟨gc,⟨k1,k2,k3,k4,k5,k6,k7⟩,hpost⟩:=tI ids UY NB NE hl' (uP l') hpk hmo hqq hnd hids hil hdl hdis hvd hvl hvn hs (avs:=(js.map λ j=>a.eval (.tmp j)).toArray) (by grind)
  (λ i c v hc hv=>a1' i c v hc (by grind))
 refine wp_mono (hB w gc a2 ⟨k1,k2,k3,k4⟩ (by rw [ht,hs.sz,hnt]) (λ i=>?_) k7) ?_
 ·unfold AS.get
  cases hq:look (js.zip l') i with
  | none=>exact .undef _
  | some c=>
   obtain ⟨k,h1,h2⟩:=CJ hq;simp only [Option.getD_some];refine k6 k c _ h2 ?_;have:a2.tmps.getD i Go.undef=a.eval (.tmp i):=by rw [ht]; rfl
   grind
 ·rintro e a' w' ⟨he,hd,v,hv,x,y,g',⟨hx,hy⟩,e1,e2,e3⟩
  obtain ⟨g2,f1,f2⟩:=hpost w' v r r' rob ob' g' (hx _ _ _ e1) (λ p hp=>by
   obtain ⟨ds,m1,m2⟩:=wM hy p hp
   exact ss (e2 (p.1,ds) (iX m1)) m2) e3 hr hro
  grind
theorem TP {C:Cx}{k:FuncId}{sl:List (Nat×AV)}{ob:List (Nat×List AV)}(ids UY:List Nat)(NB NE:Nat)(j:Nat){x:AV}{l':List AV}{Ve qo rob ob':List (Nat×List AV)}{r r':AV}{u:FrameMode}
  (hD:D1 C.P k l' qo (λ x y=>x.sub r/\leO y rob)) (hl:look sl j=some x) (hl':AV.mapA.go (mF ids UY) [x]=some l') (hpk:jm ob ids=some Ve) (hmo:iT (mF ids UY) Ve=some qo) (hqq:leO qo qo)
  (hnd:nodupB ids=true) (hids:ids.all (λ i=>Nat.blt i (2*M1))=true) (hil:Nat.ble ids.length M1=true) (hdl:Nat.ble NE M1=true) (hdis:ids.all (λ i=>!(dk UY NB NE i))=true)
  (hvd:nodupB UY=true) (hvl:UY.all (λ i=>Nat.blt i M1)=true) (hvn:Nat.ble UY.length 100000=true) (hr:r.mapA (md ids NB NE)=some r') (hro:iT (md ids NB NE) rob=some ob')
  {g:Gh} {a:Act} {w:World} (hs:St C.n C.w0 C.F g ⟨sl,ob⟩ a w) :
  CallsD C.P k #[a.eval (.tmp j)] u w λ e u' w'=>u'=u/\∃ v,e=.returned v/\∃ g2,St C.n C.w0 C.F g2 ⟨(cW (dk UY NB NE) ⟨sl,ob⟩).sl,ob'++(cW (dk UY NB NE) ⟨sl,ob.filter λ p=>!(ids.any (Nat.beq p.1))⟩).ob⟩ a w':=by
 have hx:ARep w g x (a.eval (.tmp j)):=bN hs (x:=.tmp j) hl
 obtain ⟨gc,⟨k1,k2,k3,k4,k5,k6,k7⟩,hpost⟩:=tI ids UY NB NE hl' (uP l') hpk hmo hqq hnd hids hil hdl hdis hvd hvl hvn hs (avs:=#[a.eval (.tmp j)]) rfl
  (λ i c v hc hv=>by
   grind)
 refine (hD w gc _ u ⟨k1,k2,k3,k4⟩ k5 k6 k7).mono ?_;rintro e u' w' ⟨hu,v,he,x,y,g',⟨hx,hy⟩,e1,e2,e3⟩
 obtain ⟨g2,f1,_⟩:=hpost w' v r r' rob ob' g' (hx _ _ _ e1) (λ p hp=>by
   obtain ⟨ds,m1,m2⟩:=wM hy p hp
   exact ss (e2 (p.1,ds) (iX m1)) m2) e3 hr hro
 grind
theorem OW {P:Program}{tt:List (Nat×TI)}(good:dp P tt){f k:FuncId}{fn:Func}{args:List AV}{Ve rob:List (Nat×List AV)}{c:Value}{R0 R1 R2 B:Code}{rid t j q:Nat}{o1 o2:Oper}{s0 s1 s2:AS}{b:Bool}(ids:List Nat)
  (hf:P.funcs[f]? = some fn) (hb:fn.body=some (.seq R0 (.seq (.seq R1 (.cond (.tmp t) (.seq R2 (.region rid #[o1,o2] false)) .skip)) B)))
  (hn:Nat.ble args.length fn.ntmps=true) (hnl:Nat.ble fn.ntmps M1=true)
  (h0:∀ w0 F,awp ⟨P,tt,good,fn.ntmps,hnl,w0,F⟩ R0 (λ e s=>e=.normal/\s=s0) ⟨gR args,Ve⟩)
  (h1:∀ w0 F,awp ⟨P,tt,good,fn.ntmps,hnl,w0,F⟩ R1 (λ e s=>e=.normal/\s=s1) s0) (hc:evo s1.sl (.tmp t)=some (.p (eB b)))
  (hF:b=false->∃ sE obs1 obs2,jm sE.ob ids=some obs1/\iT (pD []) obs1=some obs2/\leO obs2 rob/\∀ w0 F g a a2 w,St fn.ntmps w0 F g s1 a w->a2.tmps=a.tmps ->
   B.wp P (λ e a' w'=>(e=.normal\/e=.ret)/\a'.defers=a2.defers/\∃ v,(∀ w2,(results fn a'.tmps).run P w2=.ok v w2)/\∃ g2,St fn.ntmps w0 F g2 sE a w'/\ARep w' g2 (.p (.val c)) v) a2 w)
  (hT:b=true->(∀ w0 F,awp ⟨P,tt,good,fn.ntmps,hnl,w0,F⟩ R2 (λ e s=>e=.normal/\s=s2) s1)/\(o1.op=.makeFunc (.func k) #[] #[.tmp j]/\o1.dst=some q/\Nat.blt q fn.ntmps=true/\o1.guard=none/\o2.op=.defer { callee:=.value (.tmp q),args:=#[],argTypes:=#[] }/\o2.dst=none/\o2.guard=none/\Nat.beq j q=false) /\
   (∀ vs w,(callFunc k vs).run P w=.ok (.enter k vs) w)/\∃ sE sD obs1 obs2 x,look s2.sl j=some x/\jm sD.ob ids=some obs1/\iT (pD []) obs1=some obs2/\leO obs2 rob /\
    (∀ w0 F g a a2 w,St fn.ntmps w0 F g ⟨(q,.func (.func k) [x])::s2.sl,s2.ob⟩ a w->a2.tmps=a.tmps ->
     B.wp P (λ e a' w'=>(e=.normal\/e=.ret)/\a'.defers=a2.defers/\∃ v,(∀ w2,(results fn a'.tmps).run P w2=.ok v w2)/\∃ g2,St fn.ntmps w0 F g2 sE a w'/\ARep w' g2 (.p (.val c)) v) a2 w) /\
    ∀ w0 F g a w u,St fn.ntmps w0 F g sE a w->CallsD P k #[a.eval (.tmp j)] u w λ e u' w'=>u'=u/\∃ v,e=.returned v/\∃ g2,St fn.ntmps w0 F g2 sD a w') :
  cj P f args Ve (λ x y=>x=.p (.val c)/\y=rob):=by
 refine cj.of_sub ?_;intro w g vs hlt hown hinj hnst k1 k2 hobs;refine calls_of_wp_defers hf hb ?_;have hn':=Nat.le_of_ble_eq_true hn
 have hs:St fn.ntmps ⟨w,g.st,g.ow,hlt.gl,(λ i b h=>Nat.lt_of_lt_of_le (hown i b h).2 GV),[]⟩ (λ b=>b<w.heap.size/\∀ i,g.ow i≠some b) g ⟨gR args,Ve⟩ { tmps:=vs++Array.replicate (fn.ntmps-vs.size) Go.undef,defers:=[] } w:=by
  refine ⟨Z,?_,?_,hobs,hinj,?_,hlt.lt,?_,?_,Z,Z,Z,bt _,λ b _ o=>Iff.rfl,λ _ _ _=>rfl,kS.refl _ _,λ i b hi h=>hnst i b hi h,Ev.refl _ _⟩
  ·grind
  ·intro i;have:=rk args 0 i;simp only [AS.get,gR,this,ph,if_true,Nat.sub_zero]
   cases ha:args[i]? with
   | none=>exact .undef _
   | some x=>
    have hi:i<args.length:=(List.getElem?_eq_some_iff.1 ha).1;have hi2:i<vs.size:=by omega
    have e:(vs++Array.replicate (fn.ntmps-vs.size) Go.undef).getD i Go.undef=vs[i]:=by
     simp [Array.getD_eq_getD_getElem?,Array.getElem?_append,hi2]
    simp only [Option.getD_some];rw [e];exact k2 i x _ ha (Array.getElem?_eq_getElem hi2)
  ·grind
  ·grind
  grind
 -- behind everything: what is handed back
 have fin:∀ {sE:AS} {obs1 obs2:List (Nat×List AV)} {a:Act} {w':World} {g2:Gh} {v:Value},jm sE.ob ids=some obs1->iT (pD []) obs1=some obs2->leO obs2 rob ->
   St fn.ntmps ⟨w,g.st,g.ow,hlt.gl,(by grind),[]⟩ (λ b=>b<w.heap.size/\∀ i,g.ow i≠some b) g2 sE a w'->ARep w' g2 (.p (.val c)) v ->
   ∃ v1 r obs' g',Ending.returned v=.returned v1/\(AV.sub r (.p (.val c))/\leO obs' rob)/\ARep w' g' r v1/\(∀ p∈obs',jJ w' g' p.1 p.2)/\pV w g w' g':=by
  intro sE obs1 obs2 a w' g2 v p1 p2 p3 hS hv;obtain ⟨g',e1,e2,e3⟩:=Bg [] ids Z Z hown hS hv rfl p1 p2
  grind [AV.sub_refl]
 refine wp_seq (wp_mono (h0 _ _ g _ w hs) ?_);rintro e a0 w0 ⟨g0,s0',hs0,rfl,rfl⟩;refine wp_seq (wp_seq (wp_mono (h1 _ _ g0 a0 w0 hs0) ?_));rintro e a1 w1 ⟨g1,s1',hs1,rfl,rfl⟩;have hcv:a1.eval (.tmp t)=.bool b:=cm hs1 hc
 cases hbb:b with
 | false=>
  subst hbb;refine wp_cond_false hcv (wp_skip ?_);obtain ⟨sE,obs1,obs2,p1,p2,p3,hB⟩:=hF rfl;refine wp_mono (hB _ _ g1 a1 a1 w1 hs1 rfl) ?_;rintro e a' w' ⟨he,hd,v,hv,g2,hS,hr⟩;have hd':a'.defers=[]:=hd.trans hs1.nd;rcases he with rfl|rfl
  ·grind [bodyPostD,Leaves]
  grind [bodyPostD,Leaves]
 | true=>
  subst hbb;obtain ⟨h2,⟨m1,m2,m3,m4,m5,m6,m7,m8⟩,hen,sE,sD,obs1,obs2,x,hj,p1,p2,p3,hB,hD⟩:=hT rfl;refine wp_cond_true hcv (wp_seq (wp_mono (h2 _ _ g1 a1 w1 hs1) ?_));rintro e a2 w2 ⟨g2,s2',hs2,rfl,rfl⟩;refine wp_region ?_;have hx:ARep w2 g2 x (a2.eval (.tmp j)):=bN hs2 (x:=.tmp j) hj;have hq:q<fn.ntmps:=Nat.blt_eq ▸ m3;have e1:(execOp a2.eval o1).run P w2=.ok (.value (.func (.func k) #[] #[a2.eval (.tmp j)])) w2:=by simp [execOp,m1,Instr.makeFunc,Act.eval]
  have hs3:=hs2.put (d:=some q) (λ t ht=>by grind) (x:=.func (.func k) [x]) (v:=.func (.func k) #[] #[a2.eval (.tmp j)]) (.func Z λ i c v hc hv=>by
   grind)
  obtain ⟨a3,ha3⟩:∃ a3,a3=a2.put (some q) (.func (.func k) #[] #[a2.eval (.tmp j)]):=⟨_,rfl⟩
  rw [<- ha3] at hs3
  have hqv:a3.eval (.tmp q)=.func (.func k) #[] #[a2.eval (.tmp j)]:=by
   have:q<a2.tmps.size:=by rw [hs2.sz]; exact hq
   rw [ha3]; simp [Act.put,Act.eval,Array.getD,this]
  have hjq:a3.eval (.tmp j)=a2.eval (.tmp j):=by
   have Vs:q≠j:=λ e=>by subst e; simp at m8
   rw [ha3]; simp only [Act.put,Act.eval,Array.getD_eq_getD_getElem?,Array.getElem?_setIfInBounds,if_neg Vs]
  have e2:(execOp a3.eval o2).run P w2=.ok (.defer { target:=.fn (.func k) #[a2.eval (.tmp j)],args:=#[] }) w2:=by simp [execOp,m5,resolve,hqv,Deferred.ofValue]
  have hr:List.range (#[o1,o2]:Array Oper).size=[0,1]:=rfl;rw [hr];have g0':(#[o1,o2]:Array Oper)[0]? = some o1:=rfl;have g1':(#[o1,o2]:Array Oper)[1]? = some o2:=rfl;simp only [wpOps,g0',g1',Region.wanted,m4,m7,if_true];refine .inl ?_;unfold Oper.wp;rw [e1];simp only [Oper.upon,m2];rw [<- ha3];refine .inl ?_;rw [e2];simp only [Oper.upon,m6,Act.put];refine wp_mono (hB _ _ g2 a3 { a3 with defers:={ target:=.fn (.func k) #[a2.eval (.tmp j)],args:=#[] }::a3.defers } w2 hs3 rfl) ?_;rintro e a' w' ⟨he,hd,v,hv,g3,hS,hrv⟩;have hnd:a3.defers=[]:=hs3.nd;rw [hnd] at hd
  have key:Leaves P fn a'.tmps (λ e w'=>∃ v r obs' g',e=.returned v/\(AV.sub r (.p (.val c))/\leO obs' rob)/\ARep w' g' r v/\(∀ p∈obs',jJ w' g' p.1 p.2)/\pV w g w' g') a'.defers .returning w':=by
   rw [hd];refine leaves_cons (f:=k) (args:=#[a2.eval (.tmp j)]) G (by simp [invoke,hen]) ?_;have:=hD _ _ g3 a3 w' .returning hS;rw [hjq] at this;refine this.mono ?_;rintro e u' w'' ⟨hu,v2,he2,g4,hS4⟩;subst hu he2;simp only [settle,Leaves];refine ⟨v,hv w'',fin p1 p2 p3 hS4 ?_⟩
   cases hrv with
   | p hrv=>cases hrv; exact .p (.val _)
  rcases he with rfl|rfl
  ·exact key
  ·exact key
theorem mR {C:Cx}{c:Code}{s t:AS}(h:M C (λ e s=>e=.normal/\s=t) ⟨.cd c,[],s⟩):awp C c (λ e s=>e=.normal/\s=t) s:=u9 h
theorem mE {C:Cx}{s t:AS}(h:cN C s t):M C (λ e s=>e=.normal/\s=t) ⟨.ex .normal,[],s⟩:=⟨t,h,Z,Z⟩
end Go.Ab
end
section
namespace Go.Ab.R06
open Go.Proofs Go.Ab Go.Ab.RB
attribute [local irreducible] awp iH bu bA cj AV.sub M cN
theorem pG (x:ae):D1 Tryz.prog 121 [.ptr 1000000 0] [(1000000,[.ptr 1000001 0]),(1000001,(ae.cs x).map .p)] (λ a b=>a.sub (.tuple [])/\leO b [(1000000,[.ptr 1000001 0]),(1000001,(ae.cs (.mk x.fs x.fat (-1) x.AI)).map .p)]):=by
 refine SZ good [] [1000000,1000001] Tryz.func121 Z Z Z Z Z λ w0 F=>mPo (v0:=ae.mk x.fs x.fat (-1) x.AI) (λ _:ae=>.tuple []) (λ v=>[(1000000,[.ptr 1000001 0]),(1000001,(ae.cs v).map .p)]) ?_;refine nx 4 Z (mO Z (iB Z Z Z Z Z Z Z Z (ae.b_outer _) (ae.u_outer _) ?_));exact nx 1 Z (Jd Z (aQ _) Z Z Z (aD Z Z (aD Z (aF _) Z)) (sr) ⟨⟨_,Z,⟨sr,trivial⟩⟩,⟨_,Z,bf _⟩,trivial⟩)
end Go.Ab.R06
end
section
namespace Go.Ab
variable {p:Prop}
theorem Lk (h:p:=by
 have h:=hs.sl j;simp only [AS.get,kI];simp only [AS.get] at h
 cases hl:look sl j with
 | none=>simp only [Option.map_none,Option.getD_none]; exact .undef _
 | some x=>grind):p:=h
theorem Nq (h:p:=by
 have Vs:b2≠b:=λ e=>(hs.own tok b how).2 (e ▸ h)
 exact (setRow_other w b b2 c' Vs).trans (hs.fr b2 h)):p:=h
theorem N9 (h:p:=by
 intro u hu;obtain ⟨j,hj,rfl⟩:=List.getElem_of_mem hu;simp only [Array.length_toList] at hj
 exact (hs2 j ((z.cells.map AV.p)[j]'(by simp; omega)) _ (by grind) (by simp [hj])).2):p:=h
theorem Ju (h:p:=by
 simp only [AV.cellsA] at hc
 cases ho:PV.onesB cs
 ·grind
 ·exact .inl ho):p:=h
theorem Kq (h:p:=by
 rcases h9 with h9|h9
 ·grind [kp]
 ·have:z.cells=[z]:=by cases z <;> first|rfl|grind [PV.one]
  grind):p:=h
theorem Mx (h:p:=by
 simp only [AV.cellsA] at hc;rename_i v0
 cases ho:v0.oneCell'
 ·grind
 ·exact .inr ho):p:=h
theorem M7 (h:p:=by
 cases hq:Nat.beq i tok
 ·rfl
 ·have:=cl hq; have:=Hc hi; omega):p:=h
theorem Mj (h:p:=by exact ⟨c2,(setRow_other w b b2 c' (Xi id b2 hD h)).trans h2,Z⟩):p:=h
theorem F6 {w:World}{g:Gh}{tok sz ty:Nat}{es:List PV}{b off cap:Nat}(h:ARep w g (.vec tok sz ty es) (.slice (some ⟨b,off,none⟩) es.length cap))(hc:es.length+1<=cap) :
  ARep w g (.vecp tok sz ty es) (.slice (some ⟨b,off,none⟩) (es.length+1) cap):=by
 generalize hv:Value.slice (some ⟨b,off,none⟩) es.length cap=v at h
 cases h with
 | vecn=>cases hv
 | vece _ _ a=>grind
 | vec how hb U9 U0 Va hr hty=>
  injection hv with h1 h2 h3
  injection h1 with h1
  injection h1 with h4 h5
  subst h3 h4 h5;exact .vecp how hb U9 hc U0 Va hr hty
section
variable {C:Cx} {o:Oper} {K:AS->Prop} {sl:List (Nat×AV)} {ob:List (Nat×List AV)} {d:Nat}
theorem p8 (ty0:Nat){es ys:List PV}{t tx e:TypeId}{i ie:TI}{y:Operand}(D:Nat->Bool)(hDl:∀ i,D i=true->i<M1)(hDd:D d=true)(hy1:ys.length=1)
  (hi:look C.tt t=some i) (U7:i.k=.slice e) (hie:look C.tt e=some ie)
  (hS:xB C sl ob tx y ie.size ys) (hzl:ie.zero.length=ie.size)
  (Pn:(es.length+ys.length)*ie.bytes<=140737488355328) (hlen':es.length+ys.length<=9223372036854775807)
  {g:Gh} {a:Act} {w:World} (hs:St C.n C.w0 C.F g ⟨sl,ob⟩ a w) (base:Option Addr) (cap:Nat) (olds:List Value)
  (hold:(Builtin.firstCells ie.size es.length (.slice base es.length cap)).run C.P w.drew=.ok olds.toArray w.drew) (hol:olds.length=es.length*ie.size)
  (hes:∀ e,e∈es->e.cells.length=ie.size)
  (hoc:∀ (i:Nat) y (j:Nat) x,es[i]? = some y->y.cells[j]? = some x->x.one=true/\∃ u,olds[i*ie.size+j]? = some u/\PRep w g.st x u)
  (hg:cap<es.length+ys.length) (ty:TypeId) (hn:Nat.blt d C.n=true) (hty:ty0=0\/ty0=e+1) :
  ∃ v w' g',(Builtin.append_ #[t,tx] ty #[.slice base es.length cap,a.eval y]).run C.P w=.ok v w' /\
   St C.n C.w0 C.F g' ⟨(d,.vecp d ie.size ty0 es)::(cW D ⟨sl,ob⟩).sl,(cW D ⟨sl,ob⟩).ob⟩ (a.put (some d) v) w':=by
 obtain ⟨u,h1,h2⟩:=bU C.good hi;have h3:=cu (h2.trans U7);subst h3;obtain ⟨info,hf1,hf2,hf3,z,hf4,hf5⟩:=kg C.good hie;obtain ⟨news,hsrc,hnews⟩:=hS g a w hs;have hfit:=growslice_fits (bytes:=ie.bytes) hg Pn;have hrun:=run_append_grow_src w t tx ty e info z h1 hf1 hf4 base es.length cap olds (by grind) (a.eval y) ys.length news (by grind) hg O (by grind);obtain ⟨q,hq⟩:∃ q,q=grownCap w (es.length+ys.length) cap e:=⟨_,rfl⟩
 rw [<- hq] at hrun
 have hqn:es.length+ys.length<=q:=by
  grind [grownCap,Question.cut]
 have hzs:z.cells.size=ie.size:=by grind
 obtain ⟨c,hc⟩:∃ c,c=(olds++news).toArray++Builtin.zeroCells z.cells (q-(es.length+ys.length)):=⟨_,rfl⟩
 rw [<- hc] at hrun
 have U9:c.size=q*ie.size:=by
  exact D7
 have hget:∀ m,m<es.length*ie.size->c[m]? = olds[m]?:=by
  grind
 have hf:=hs.drew.fresh D hDl d hDd (λ o=>o<es.length*ie.size) c e
 have hv:ARep (w.drew.alloc (.cells c e)) ⟨λ b o=>g.st b o\/(b=w.drew.heap.size/\o<es.length*ie.size),λ i=>if i=d then some w.drew.heap.size else if D i then none else g.ow i⟩
   (.vec d ie.size ty0 es) (.slice (some ⟨w.drew.heap.size,0,none⟩) es.length q):=by
  refine J8 G gP U9 O hes (λ o=>⟨λ h=>?_,λ h=>.inr ⟨Z,h⟩⟩) (λ i y j x hy hx=>?_) hty
  ·exact Mq
  ·have U4:=o9 (w:=w.drew) (T:=λ o=>o<es.length*ie.size) (ob:=.cells c e) hs.drew.lt;have hcl:=hes y (List.mem_of_getElem? hy);have hjl:j<ie.size:=by grind
   have hil:i<es.length:=(List.getElem?_eq_some_iff.1 hy).1;have hm1:(i+1)*ie.size<=es.length*ie.size:=Nat.mul_le_mul_right _ O;rw [Nat.add_mul] at hm1;obtain ⟨k1,u,hu,hr⟩:=hoc i y j x hy hx;exact KR
 have hp:=hf.put (d:=some d) (λ t ht=>by simp_all) (F6 hv O);rw [hy1] at hrun;exact ⟨_,_,_,hrun,hp⟩
theorem Ch {t tx e:TypeId}{x y:Operand}{k sz ty:Nat}{es:List PV}{ys:List PV}{i ie:TI}(ho:o.op=.call { callee:=.builtin .append,args:=#[x,y],argTypes:=#[t,tx] })(hd:o.dst=some d)(hn:Nat.blt d C.n=true)
  (hi:look C.tt t=some i) (U7:i.k=.slice e) (hie:look C.tt e=some ie) (hx:evo sl x=some (.vec k sz ty es)) (hk:Nat.blt k M1=true) (hiz:ie.size=sz) (hy1:ys.length=1)
  (hS:xB C sl ob tx y ie.size ys) (U0:∀ y∈ys,y.cells.length=ie.size) (h0:Nat.blt 0 ie.size=true) (hzl:Nat.beq ie.zero.length ie.size=true)
  (Pn:(es.length+1)*ie.bytes<=140737488355328) (hlen':es.length+1<=9223372036854775807) (hty:(Nat.beq ty 0||Nat.beq ty (e+1))=true)
  (hK:K ⟨(d,.vecp d sz ty es)::(cW (λ i=>Nat.beq i k||Nat.beq i d) ⟨sl,ob⟩).sl,(cW (λ i=>Nat.beq i k||Nat.beq i d) ⟨sl,ob⟩).ob⟩):bu C o K ⟨sl,ob⟩:=by
 subst hiz;rw [<- hy1] at Pn hlen';have h0':0<ie.size:=by simp_all
 have hzl':=cl hzl;have hk':k<M1:=Nat.blt_eq ▸ hk;have hdl:d<M1:=by have h1:=Nat.le_of_ble_eq_true C.nl; grind [Nat.blt_eq]
 have hty':=JJ hty
 have hDl:∀ i,(Nat.beq i k||Nat.beq i d)=true->i<M1:=by
  simp_all
 intro g a w hs;have hxr:=bN hs hx;generalize hxv:a.eval x=xv at hxr
 have hrun0:∀ v w',(Builtin.append_ #[t,tx] o.type #[xv,a.eval y]).run C.P w=.ok v w'->(execOp a.eval o).run C.P w=.ok (.value v) w':=by
  exact EL
 cases hxr with
 | vecn=>
  obtain ⟨v,w',g',hr,Va⟩:=p8 ty (es:=[]) (λ i=>Nat.beq i k||Nat.beq i d) hDl G hy1 hi U7 hie hS hzl' (by grind) (by grind) hs none 0 []
   (run_firstCells_none w.drew ie.size 0 0 0) G G G (by simp [hy1]) o.type hn hty'
  grind [Oper.wp,Oper.upon]
 | vece tok sz a0=>
  obtain ⟨v,w',g',hr,Va⟩:=p8 0 (es:=[]) (λ i=>Nat.beq i k||Nat.beq i d) hDl G hy1 hi U7 hie hS hzl' (by grind) (by grind) hs (some a0) 0 []
   (run_firstCells_some w.drew ie.size 0 a0 0 0 [] G G) G G G (by simp [hy1]) o.type hn hty'
  grind [Oper.wp,Oper.upon]
 | vec how hb U9 hsz' Va hr hty0=>
  rename_i b off cap c e0;have hinv:=uj hsz' hb hr;have hcapE:es.length<=cap:=by cases hr with|nile _=>grind|slice _ _ hcap=>exact hcap
  by_cases hroom:es.length+ys.length<=cap
  ·obtain ⟨u,h1,h2⟩:=bU C.good hi;have h3:=cu (h2.trans U7);subst h3;obtain ⟨info,hf1,hf2,hf3,z,hf4,hf5⟩:=kg C.good hie;obtain ⟨news,hsrc,hnews⟩:=hS g a w hs
   have hfit:(off+es.length*ie.size)+news.length<=c.size:=by
    exact Kl
   have hstc:=run_storeCells_at C.P b (off+es.length*ie.size) e0 news 0 c w hb (by grind) hsrc.one;simp only [Nat.add_zero] at hstc;obtain ⟨c',hc'⟩:∃ c',c'=(c.toList.take (off+es.length*ie.size)++news++c.toList.drop (off+es.length*ie.size+news.length)).toArray:=⟨_,rfl⟩
   rw [<- hc'] at hstc;have hrr:=qv t tx o.type e info h1 hf1 b off es.length cap (a.eval y) ys.length news (by rw [hf2]; exact hsrc) hroom (by rw [hf2]; exact hstc)
   have U6:∀ j,c'[j]? = if off+es.length*ie.size<=j/\j<off+es.length*ie.size+news.length then news[j-(off+es.length*ie.size)]? else c[j]?:=by
    exact K4
   have hcs':c'.size=off+cap*ie.size:=by grind
   have hin:=hs.inplace (λ i=>Nat.beq i k||Nat.beq i d) hDl (k:=k) (d:=d) how G G  hb (c':=c') (hcs'.trans U9.symm) (λ o h=>by
    grind) (λ o=>o<off+es.length*ie.size) (λ o h=>(Va o).1 h)
   have hEv:Ev w g.st (w.setRow b c') (λ b' o=>(b'=b/\o<off+es.length*ie.size)\/(b'≠b/\g.st b' o)):=by
    intro b' o h;by_cases e:b'=b
    ·subst e;have h5:=(Va o).1 h;refine ⟨.inl ⟨rfl,h5⟩,?_⟩;exact Fb
    grind [World.cell?,setRow_other]
   have hv:ARep (w.setRow b c') ⟨λ b' o=>(b'=b/\o<off+es.length*ie.size)\/(b'≠b/\g.st b' o),λ i=>if i=d then some b else if (Nat.beq i k||Nat.beq i d) then none else g.ow i⟩
     (.vec d ie.size ty es) (.slice (some ⟨b,off,none⟩) es.length cap):=by
    refine wI G (setRow_heap w b c c' e0 (0,0) hb) hcs' hcapE hsz' (λ o=>⟨λ h=>?_,λ h=>.inl ⟨Z,h⟩⟩) (λ i y j x hy hx=>?_) hty0
    ·grind
    ·have hcl:=hsz' y (List.mem_of_getElem? hy);have hjl:j<ie.size:=by grind
     have hil:i<es.length:=(List.getElem?_eq_some_iff.1 hy).1;exact Mz
   have hp:=hin.put (d:=some d) (λ t ht=>by simp_all) (F6 hv O);rw [hy1] at hrr;exact NW
  ·obtain ⟨olds,hol,hocell⟩:∃ olds:List Value,olds.length=es.length*ie.size/\∀ m,m<es.length*ie.size->olds[m]? = c[off+m]? :=
    ⟨((c.toList.drop off).take (es.length*ie.size)),by
     grind,λ m hm=>by grind⟩
   have hold:(Builtin.firstCells ie.size es.length (.slice (some ⟨b,off,none⟩) es.length cap)).run C.P w.drew=.ok olds.toArray w.drew:=by
    grind [run_firstCells_some,add_lit,World.cell?_drew,World.cell?]
   obtain ⟨v,w',g',hr',hst'⟩:=p8 ty (es:=es) (λ i=>Nat.beq i k||Nat.beq i d) hDl G hy1 hi U7 hie hS hzl' Pn hlen' hs (some ⟨b,off,none⟩) cap olds
    hold hol hsz' (λ i y j x hy hx=>by
     grind) O o.type hn hty'
   grind [Oper.wp,Oper.upon]
theorem yw {α:Type}(f:α->PV)(l0:List α){z:PV}{t tx e e':TypeId}{x y:Operand}{k sz ty:Nat}{i ie j:TI}(ho:o.op=.call { callee:=.builtin .append,args:=#[x,y],argTypes:=#[t,tx] })(hd:o.dst=some d)(hn:Nat.blt d C.n=true)
  (hi:look C.tt t=some i) (U7:i.k=.slice e) (hie:look C.tt e=some ie) (hj:look C.tt tx=some j) (hjk:j.k=.slice e') (hx:evo sl x=some (.vec k sz ty (l0.map f))) (hk:Nat.blt k M1=true) (hiz:ie.size=sz)
  (hy:evo sl y=some (.p (eL (λ x:PV=>x) [z]))) (U0:Nat.beq z.cells.length ie.size=true) (h0:Nat.blt 0 ie.size=true) (hzl:Nat.beq ie.zero.length ie.size=true) (hby:Nat.blt 0 ie.bytes=true)
  (hty:(Nat.beq ty 0||Nat.beq ty (e+1))=true) (Pn:(l0.length+1)*ie.bytes<=140737488355328)
  (hK:K ⟨(d,.vecp d sz ty (l0.map f))::(cW (λ i=>Nat.beq i k||Nat.beq i d) ⟨sl,ob⟩).sl,(cW (λ i=>Nat.beq i k||Nat.beq i d) ⟨sl,ob⟩).ob⟩):bu C o K ⟨sl,ob⟩:=by
 have hby':1<=ie.bytes:=Nat.succ_le_of_lt (by simp_all);have h1:(l0.length+1)*1<=(l0.length+1)*ie.bytes:=Nat.mul_le_mul_left _ hby';have hs':∀ y∈[z],y.cells.length=ie.size:=λ y hy=>by simp_all
 exact Ch (ys:=[z]) ho hd hn hi U7 hie hx hk hiz Z (rS hj hjk hy Z hs' (by simp_all)) hs' h0 hzl (by grind) (by grind) hty hK
theorem Qz {t e:TypeId}{x y:Operand}{i ie:TI}{tok sz ty:Nat}{es:List PV}{k:IntKind}{n:Int}(ho:o.op=.indexAddr t x y)(hd:o.dst=some d)(hn:Nat.blt d C.n=true)
  (hi:look C.tt t=some i) (U7:i.k=.slice e) (hie:look C.tt e=some ie) (hiz:ie.size=sz) (hx:evo sl x=some (.vecp tok sz ty es)) (hy:evo sl y=some (.p (.val (.int k n)))) (hnn:n=(es.length:Int))
  (hK:K ⟨(d,.elp tok sz)::sl,ob⟩):bu C o K ⟨sl,ob⟩:=by
 subst hiz hnn;obtain ⟨u,h1,h2⟩:=bU C.good hi;have h3:=cu (h2.trans U7);subst h3;refine ok_one hd hn (λ g a w hs=>?_) hK;have h5:=bN hs hx;generalize hv:a.eval x=v at h5
 cases h5 with
 | vecp how hb U9 hcap U0 Va hr hty=>
  rename_i b off cap c e0;refine ⟨.pointer (some ⟨b,off+es.length*ie.size,none⟩),?_,.elp how hb ?_ Va⟩
  ·have h6:(es.length:Int)<((es.length+1:Nat):Int):=by omega
   simp [execOp,ho,hv,cm hs hy,Instr.indexAt,asIntOf,run_underlying h1,h6,run_sizeOf C.good hie,add_lit]
  ·rw [U9];have:=Nat.mul_le_mul_right ie.size hcap
   grind
def upP (tok sz:Nat)(z:PV)(x:AV):AV:=match x with
 | .vecp t s ty es=>bif Nat.beq t tok&&Nat.beq s sz then .vec t s ty (es++[z]) else .undef
 | x=>x.dem (Nat.beq · tok)
def upPS (tok sz:Nat)(z:PV):List (Nat×AV)->Option (List (Nat×AV))
 | []=>some []
 | (i,x)::r=>(match frc (upP tok sz z x) with
  | some y=>(match upPS tok sz z r with|some l=>some ((i,y)::l)|none=>none)
  | none=>none)
def Pd (tok sz:Nat)(z:PV):List AV->Option (List AV)
 | []=>some []
 | x::r=>(match frc (upP tok sz z x) with
  | some y=>(match Pd tok sz z r with|some l=>some (y::l)|none=>none)
  | none=>none)
theorem GG {tok sz:Nat}{z:PV}:∀ {l l':List AV},Pd tok sz z l=some l'->l'=l.map (upP tok sz z)
 | [],l',h=>by cases h; rfl
 | x::r,l',h=>by
  unfold Pd at h;split at h
  ·rename_i y hy;split at h
   ·rename_i m hm; cases h; rw [zQ hy,GG hm]; rfl
   ·cases h
  ·cases h
def H9 (tok sz:Nat)(z:PV):List (Nat×List AV)->Option (List (Nat×List AV))
 | []=>some []
 | (i,cs)::r=>(match Nat.beq i tok with
  | true=>H9 tok sz z r
  | false=>(match Pd tok sz z cs with
   | some ds=>(match H9 tok sz z r with|some l=>some ((i,ds)::l)|none=>none)
   | none=>none))
theorem vw {tok sz:Nat}{z:PV}:∀ {l l':List (Nat×List AV)},H9 tok sz z l=some l'->∀ id cs,look l' id=some cs->id≠tok/\∃ ds,look l id=some ds/\cs=ds.map (upP tok sz z)
 | [],l',h,id,cs,hc=>by cases h; cases hc
 | (i,xs)::r,l',h,id,cs,hc=>by
  unfold H9 at h;split at h
  ·rename_i hb;obtain ⟨h1,ds,h2,h3⟩:=vw h id cs hc
   grind [Nat.eq_of_beq_eq_true,aZ]
  ·rename_i hb;have hi:i≠tok:=λ e=>by simp_all
   split at h
   ·rename_i ds hds;split at h
    ·rename_i m hm
     cases h
     rw [aZ] at hc ⊢;by_cases e1:i=id
     ·grind [GG]
     ·rw [if_neg e1] at hc ⊢;exact vw hm id cs hc
    ·cases h
   ·cases h
theorem OQ {t:TypeId}{x v:Operand}{i:TI}{tok sz:Nat}{z:PV}{Y0z:AV}{sl':List (Nat×AV)}{ob':List (Nat×List AV)}(ho:o.op=.store t x v)(hd:o.dst=none)
  (hi:look C.tt t=some i) (hiz:i.size=sz) (hx:evo sl x=some (.elp tok sz)) (hv:evo sl v=some Y0z) (hY:Y0z.sub (.p z)) (hc:(AV.p z).cellsA=some (z.cells.map .p)) (hcl:Nat.beq z.cells.length sz=true) (htok:Nat.blt tok M1=true)
  (h1:sl'=sl.map λ p=>(p.1,upP tok sz z p.2)) (h2:H9 tok sz z ob=some ob') (hK:K ⟨sl',ob'⟩):bu C o K ⟨sl,ob⟩:=by
 subst hiz h1;have htl:tok<M1:=Nat.blt_eq ▸ htok;have hcl':=cl hcl;intro g a w hs;have h5:=bN hs hx;have h6:ARep w g (.p z) (a.eval v):=hY _ _ _ (bN hs hv);obtain ⟨hs1,hs2⟩:=lF hc h6;rw [List.length_map] at hs1;generalize U4:a.eval x=u at h5
 cases h5 with
 | elp how k2 hp Va=>
  rename_i b p c e
  have Vh:∀ u∈(a.eval v).cells.toList,u.oneCell'=true:=by
   exact N9
  have hstc:=run_storeCells_at C.P b p e (a.eval v).cells.toList 0 c w k2 jW Vh;simp only [Nat.add_zero,Array.length_toList] at hstc;obtain ⟨c',hc'⟩:∃ c',c'=(c.toList.take p++(a.eval v).cells.toList++c.toList.drop (p+(a.eval v).cells.size)).toArray:=⟨_,rfl⟩
  rw [<- hc'] at hstc;have hsz':=run_sizeOf C.good hi w;have Vs:(a.eval v).cells.size=i.size:=hs1.trans hcl';unfold Oper.wp
  have hrun:(execOp a.eval o).run C.P w=.ok .skip (w.setRow b c'):=by
   simp_all [execOp,Instr.storeAt,Instr.sureAddr,storeVar]
  rw [hrun];simp only [Oper.upon,hd,Act.put]
  have U6:∀ j,c'[j]? = if p<=j/\j<p+i.size then (a.eval v).cells[j-p]? else c[j]?:=by
   grind [mJ]
  have hsize':c'.size=c.size:=by
   grind
  obtain ⟨g',hg'⟩:∃ g':Gh,g'=⟨λ b' o=>(b'=b/\o<p+i.size)\/(b'≠b/\g.st b' o),g.ow⟩:=⟨_,rfl⟩
  have hst':∀ b' o,g'.st b' o↔(b'=b/\o<p+i.size)\/(b'≠b/\g.st b' o):=λ b' o=>by rw [hg']
  have how':g'.ow=g.ow:=by rw [hg']
  have hev':Ev w g.st (w.setRow b c') g'.st:=by
   intro b2 o2 h2;by_cases e1:b2=b
   ·subst e1;have:=(Va o2).1 h2;refine ⟨(hst' _ _).2 (.inl ⟨rfl,by omega⟩),?_⟩;simp only [World.cell?,k2,setRow_heap w b2 c c' e (0,0) k2]
    grind
   grind [World.cell?,setRow_other]
  have Xi:∀ id b2,Nat.beq id tok=false->g.ow id=some b2->b2≠b:=λ id b2 hD h e=>by
   subst e;have:=hs.inj id tok b2 h how
   simp_all
  have hE:EvO (Nat.beq · tok) w g (w.setRow b c') g':=by
   refine ⟨hev',λ id b2 _ h=>by grind,λ id b2 c2 e2 hD h h2=>Mj,λ id b2 o2 hD h h3=>?_,λ id b2 es2 k2' hD h h2=>(setRow_other w b b2 c' (Xi id b2 hD h)).trans h2,λ i hi=>?_,λ id b2 o2 hD h _=>setRow_other w b b2 c' (Xi id b2 hD h)⟩
   ·grind
   ·exact M7
  have hup:∀ {y:AV} {u:Value},ARep w g y u->ARep (w.setRow b c') g' (upP tok i.size z y) u:=by
   intro y u h;unfold upP;split
   ·rename_i t s ty es
    cases hq:(Nat.beq t tok&&Nat.beq s i.size)
    ·exact gX
    ·simp only [py] at hq;have e1:=cl hq.1;have e2:=cl hq.2;subst e1 e2;rw [cond_true]
     cases h with
     | vecp how2 hb2 hcs2 hcap2 hsz2 hst2 hr2 hty2=>
      rename_i b2 off cap c2 e2;rw [how] at how2; cases how2;rw [k2] at hb2; cases hb2
      have hpo:p=off+es.length*i.size:=by
       rcases Nat.lt_trichotomy p (off+es.length*i.size) with h7|h7|h7
       ·grind
       ·exact h7
       grind
      have hinv:=uj hsz2 k2 hr2;have Pn:(es++[z]).length=es.length+1:=by simp
      have:=wI (w:=w.setRow b c') (g:=g') (tok:=t) (es:=es++[z]) (cap:=cap) (by grind) (setRow_heap w b c c' e (0,0) k2) (hsize'.trans hcs2) (by grind) (λ x hx=>by
       grind) (λ o=>by
       rw [hst',Pn,Nat.add_mul,Nat.one_mul]
       grind) (λ k y j x hy hx=>?_) hty2
      ·grind
      ·have hcl2:y.cells.length=i.size:=by
        grind
       have hjl:j<i.size:=by grind
       rw [List.getElem?_append] at hy;split at hy
       ·rename_i hlt;obtain ⟨q1,u,hu,hr⟩:=hinv k y j x hy hx;have hm2:(k+1)*i.size<=es.length*i.size:=Nat.mul_le_mul_right _ O;rw [Nat.add_mul] at hm2;refine ⟨q1,u,?_,hr.mono hev'⟩
        grind
       ·rename_i hge
        have hk0:k-es.length=0:=by
         grind
        rw [hk0] at hy;simp only [List.getElem?_cons_zero,bx] at hy;subst hy;have hke:k=es.length:=by omega
        subst hke;have hjc:j<(a.eval v).cells.size:=by omega
        have h8:=hs2 j (.p x) _ (by simp [hx]) (Array.getElem?_eq_getElem hjc);refine ⟨?_,(a.eval v).cells[j],?_,?_⟩
        ·have h9:PV.onesB z.cells=true\/z.one=true:=by
          cases z with
          | agg cs=>
           exact Ju
          | val _=>
           exact Mx
          | slice _=>exact .inr Z
          | ifc=>exact .inr Z
          | aint _=>exact .inr Z
         exact Kq
        ·simp_all
        ·cases h8.1 with
         | p hr=>exact hr.mono hev'
   ·exact h.dem hE
  refine ⟨g',⟨sl.map λ p=>(p.1,upP tok i.size z p.2),ob'⟩,?_,hK⟩;refine ⟨hs.nd,hs.sz,λ j=>?_,λ id' cs' h'=>?_,by rw [how']; exact hs.inj,λ j b2 h=>?_,λ b2 o2 h=>?_,hs.fl,λ b2 h=>?_,hs.os,hs.out,hs.tape,?_,λ b2 h o2=>?_,by rw [how']; exact hs.owf,hs.shf.next (λ _ b c e _ _ h=>(pZ k2 hsize').1 b c e h),λ j b2 hj h o2 h3=>?_,hs.ev0.trans hev'⟩
  ·exact Lk
  ·obtain ⟨hne',ds,m1,rfl⟩:=vw h2 id' cs' h';obtain ⟨b2,c2,e2,n1,n2,n3,n4,n5⟩:=hs.ob id' ds m1
   have hD:Nat.beq id' tok=false:=by
    grind [Nat.eq_of_beq_eq_true]
   have hb2:=Xi id' b2 hD n1;refine ⟨b2,c2,e2,by grind,(setRow_other w b b2 c' hb2).trans n2,by grind,λ o2 h3=>?_,λ j y hy=>?_⟩
   ·grind
   grind
  ·rw [how'] at h;have:=hs.own j b2 h; simp_all
  ·rcases (hst' _ _).1 h with h4|h4
   ·have:=(hs.own tok b how).1; simp_all
   ·have:=hs.lt b2 o2 h4.2; simp_all
  ·exact Nq
  ·have:=hs.size; simp_all
  ·have Vs:b2≠b:=λ e=>(hs.own tok b how).2 (e ▸ h)
   exact ⟨λ h3=>by
    rcases (hst' _ _).1 h3 with h4|h4
    ·grind
    ·exact (hs.stf b2 h o2).1 h4.2,λ h3=>(hst' _ _).2 (.inr ⟨Vs,(hs.stf b2 h o2).2 h3⟩)⟩
  ·rcases (hst' _ _).1 h3 with h4|h4
   ·have h7:g.ow j=some b2:=(hs.owf j hj (C.w0.lo j b2 h)).trans h;have:=hs.inj j tok b2 h7 (by grind);omega
   ·exact hs.nst j b2 hj h o2 h4.2
theorem EC {t:TypeId}{x v:Operand}{i:TI}{tok sz:Nat}{z:PV}{sl':List (Nat×AV)}{ob':List (Nat×List AV)}(ho:o.op=.store t x v)(hd:o.dst=none)
  (hi:look C.tt t=some i) (hiz:i.size=sz) (hx:evo sl x=some (.elp tok sz)) (hv:evo sl v=some (.p z)) (hc:(AV.p z).cellsA=some (z.cells.map .p)) (hcl:Nat.beq z.cells.length sz=true) (htok:Nat.blt tok M1=true)
  (h1:sl'=sl.map λ p=>(p.1,upP tok sz z p.2)) (h2:H9 tok sz z ob=some ob') (hK:K ⟨sl',ob'⟩):bu C o K ⟨sl,ob⟩:=OQ ho hd hi hiz hx hv (AV.sub_refl _) hc hcl htok h1 h2 hK
end
def vK (c:Nat)(imp:List Nat):gf->gf->Prop|(k,d,v)::r,(k',d',v')::r'=>(k=k'/\d=d'/\(imp.any (Nat.beq k)=true\/v c=v' c))/\vK c imp r r'|[],[]=>True|_,_=>False
theorem vZ {c:Nat}{imp:List Nat}:∀ {r1 r2:gf},vK c imp r1 r2->∀ k p,imp.any (Nat.beq k)=false->dH r2 k=some p->∃ v,dH r1 k=some (p.1,v)/\v c=p.2 c
 | [],[],_,k,p,_,h=>by cases h
 | (k1,d1,v1)::r,(k2,d2,v2)::r',⟨⟨e1,e2,e3⟩,hr⟩,k,p,hk,h=>by
  subst e1 e2;simp only [dH] at h ⊢
  cases hb:Nat.beq k1 k
  ·rw [hb,cond_false] at h;rw [cond_false];exact vZ hr k p hk h
  ·rw [hb,cond_true] at h
   cases h
   grind [Nat.eq_of_beq_eq_true]
 | [],_::_,h,_,_,_,_=>h.elim
 | _::_,[],h,_,_,_,_=>h.elim
theorem A8 {C:Cx}{ops:Array Oper}{S1 S2:fy}{c k:Nat}{r1 r2:gf}{imp:List Nat}(h1:lks (d4 r2 S2.m++S2.bas S2.m) ((d4 r1 S1.m++S1.bas S1.m).map (·.1))=some ((d4 r1 S1.m++S1.bas S1.m).map (·.2)))
  (h2:lkE (S1.obj S1.m) (S2.obj S2.m) (S1.obj S1.m)) (h3:vK c imp r1 r2) :
  DS C ops S2 (λ rev2=>(⟨d4 rev2 S2.m++S2.bas S2.m,S2.obj S2.m⟩:AS).le ⟨d4 r1 S1.m++S1.bas S1.m,S1.obj S1.m⟩/\vK c imp r1 rev2) [] k r2:=by
 exact NL
theorem Fg {C:Cx}{id:Nat}{ops:Array Oper}{Q:Exit->AS->Prop}{sl:List (Nat×AV)}{ob:List (Nat×List AV)}(S1 S2:fy){k0 k1 k2:Nat}{r:List Nat}(hm:C.P.follows .mixedOrders=true)
  (hi1:S1.imp=k0::k1::k2::r) (hi2:S2.imp=k0::k2::k1::r) (hlen1:S1.imp.length=S1.m) (hlen2:S2.imp.length=S2.m) (hob1:S1.obj 0=ob) (hob2:S2.obj 1=S1.obj 1) (hb:fu sl (S1.bas 0)) (hb2:S2.bas 1=S1.bas 1)
  (hbas1:∀ j,j<S1.m->fu (trL (S1.D j) (S1.bas j)) (S1.bas (j+1))) (hbas2:∀ j,j<S2.m->fu (trL (S2.D j) (S2.bas j)) (S2.bas (j+1)))
  (hnd:nodupB (k0::k1::k2::r)=true) (hin:(k0::k1::k2::r).all (λ i=>Nat.blt i ops.size)=true) (hch1:chainB ops (k0::k1::r)=true) (hch2:chainB ops (k0::k2::r)=true)
  (hord:(ops.toList.zipIdx.all λ p=>p.1.after.toList.all λ e=>!(Region.binds .any e)||Nat.blt e.on p.2)=true)
  (h:DS C ops S1 (λ rev1=>Q .normal ⟨d4 rev1 S1.m++S1.bas S1.m,S1.obj S1.m⟩/\DS C ops S2 (λ rev2=>(⟨d4 rev2 S2.m++S2.bas S2.m,S2.obj S2.m⟩:AS).le ⟨d4 rev1 S1.m++S1.bas S1.m,S1.obj S1.m⟩/\vK 1 (k1::k2::r) rev1 rev2) ops.toList 0 []) ops.toList 0 []):awp C (.region id ops true) Q ⟨sl,ob⟩:=by
 intro g a w hs
 have hnd2:nodupB S2.imp=true:=by
  grind [nodupB,Nat.eq_of_beq_eq_true]
 have hin2:S2.imp.all (λ i=>Nat.blt i ops.size)=true:=by
  grind
 obtain ⟨fin1,⟨hf1,h2⟩,hP1⟩:=CG.mk' hlen1 hbas1 (by grind) (by grind) hord h;obtain ⟨fin2,⟨hf2,hag⟩,hP2⟩:=CG.mk' hlen2 hbas2 hnd2 hin2 hord h2
 have chain:∀ (x y:Nat) (S:fy),S.imp=k0::x::y::r->chainB ops (k0::y::r)=true->chainB ops (k0::x::r)=true->∀ (listed:Array Bool) (j i q:Nat),H3 ops S listed j->i∈Region.ready .any ops listed->S.imp[q]? = some i->j<q->q=2/\j=1:=by
  intro x y S hS hcy hcx listed j i q hI hi hq hjq;obtain ⟨h1,o,ho,hafter⟩:=mem_ready.1 hi
  have use:∀ z zi,S.imp[z]? = some zi->pq ops 4 o zi=true->z<j:=by
   exact MY
  match q,hq,hjq with
  | 0,_,hjq=>omega
  | 1,hq,hjq=>
   exfalso;rw [hS] at hq;have b1:=nQ hcx 0 k0 i o Z (by grind) ho;have:=use 0 k0 (by grind) b1;omega
  | 2,hq,hjq=>
   rw [hS] at hq;have b1:=nQ hcy 0 k0 i o rfl (by grind) ho;have:=use 0 k0 (by grind) b1
   grind
  | q+3,hq,hjq=>
   exfalso;rw [hS] at hq;simp only [List.getElem?_cons_succ] at hq;have hql:q<r.length:=(List.getElem?_eq_some_iff.1 hq).1
   cases q with
   | zero=>
    have b1:=nQ hcy 1 y i o Z (by grind) ho;have:=use 2 y (by grind) b1;omega
   | succ q=>
    have b1:=nQ hcy (q+2) r[q] i o (by grind) (by grind) ho;have:=use (q+3) r[q] (by grind) b1;omega
 have two:=qp hP2 hf2 hf1 2 (λ fuel listed g a w sl' j hj VD i q hi hq hjq=>by
  have:=chain k2 k1 S2 hi2 hch1 hch2 listed j i q VD.inv hi hq hjq; omega)
 refine wp_region_any hm ?_;refine (qp hP1 (AS.le_refl _) hf1 0 ?_).1 _ _ g a _ sl 0 (ph _) (PAt.start hb (by rw [hob1]; exact hs.drew));intro fuel listed g a w sl' j _ VD i q hi hq hjq;obtain ⟨rfl,rfl⟩:=chain k1 k2 S1 hi1 hch2 hch1 listed j i q VD.inv hi hq hjq;have U7:i=k2:=by rw [hi1] at hq; simpa using hq.symm
 subst U7
 have hno:∀ k,(k1::i::r).any (Nat.beq k)=true->listed.getD k false=false:=by
  intro k hk;obtain ⟨x,hx,hkx⟩:=List.any_eq_true.1 hk;have:=cl hkx;subst this;obtain ⟨z,hz⟩:=List.mem_iff_getElem?.1 hx;have:=VD.inv.2.1 (z+1) k (by grind)
  grind
 have hm2:1<=S2.m:=by grind
 refine two.2 fuel listed g a w sl' 1 i (.inr ⟨bt _,by grind⟩) hi ⟨VD.sz,VD.un,⟨hm2,λ z k hz=>?_,VD.inv.2.2⟩,⟨λ z x hx=>VD.kn.1 z x (by grind),λ k p hk hp=>?_⟩,by rw [hob2]; exact VD.st⟩
 ·cases z with
  | zero=>
   have hz0:k=k0:=by grind
   subst hz0;have:=VD.inv.2.1 0 k (by grind);exact this
  | succ z=>
   constructor
   ·intro hl
    have hmem:k∈(k1::i::r):=by
     have:=List.mem_of_getElem? (show (i::k1::r)[z]? = some k by grind);simp only [qr] at this ⊢
     grind
    rw [hno k (List.any_eq_true.2 ⟨k,hmem,by simp⟩)] at hl
    cases hl
   grind
 ·have hk':(k1::i::r).any (Nat.beq k)=false:=by
   exact Nf
  obtain ⟨v,hv1,hv2⟩:=vZ hag k p hk' hp;have:=VD.kn.2 k _ hk hv1
  grind
theorem mSP {C:Cx}{Q:Exit->AS->Prop}{k:List Fr}{ops:Array Oper}{sl:List (Nat×AV)}{ob:List (Nat×List AV)}(S1 S2:fy){id k0 k1 k2:Nat}{r:List Nat}(hm:C.P.follows .mixedOrders=true)
  (hi1:S1.imp=k0::k1::k2::r) (hi2:S2.imp=k0::k2::k1::r) (hlen1:S1.imp.length=S1.m) (hlen2:S2.imp.length=S2.m) (hob1:S1.obj 0=ob) (hob2:S2.obj 1=S1.obj 1) (hb:fu sl (S1.bas 0)) (hb2:S2.bas 1=S1.bas 1)
  (hbas1:∀ j,j<S1.m->fu (trL (S1.D j) (S1.bas j)) (S1.bas (j+1))) (hbas2:∀ j,j<S2.m->fu (trL (S2.D j) (S2.bas j)) (S2.bas (j+1)))
  (hnd:nodupB (k0::k1::k2::r)=true) (hin:(k0::k1::k2::r).all (λ i=>Nat.blt i ops.size)=true) (hch1:chainB ops (k0::k1::r)=true) (hch2:chainB ops (k0::k2::r)=true)
  (hord:(ops.toList.zipIdx.all λ p=>p.1.after.toList.all λ e=>!(Region.binds .any e)||Nat.blt e.on p.2)=true)
  (h:DS C ops S1 (λ rev1=>M C Q ⟨.ex .normal,k,⟨d4 rev1 S1.m++S1.bas S1.m,S1.obj S1.m⟩⟩/\DS C ops S2 (λ rev2=>(⟨d4 rev2 S2.m++S2.bas S2.m,S2.obj S2.m⟩:AS).le ⟨d4 rev1 S1.m++S1.bas S1.m,S1.obj S1.m⟩/\vK 1 (k1::k2::r) rev1 rev2) ops.toList 0 []) ops.toList 0 []) :
  M C Q ⟨.cd (.region id ops true),k,⟨sl,ob⟩⟩ :=
 Fg S1 S2 hm hi1 hi2 hlen1 hlen2 hob1 hob2 hb hb2 hbas1 hbas2 hnd hin hch1 hch2 hord h
open Go
theorem NA (h:p:=by
 by_cases hj:j<S.m
 ·grind [Rv]
 ·have:look (S.bas (j-S.m+S.m)) d=none:=congrFun e8 (j-S.m)
  grind):p:=h
def tmO:Operand->List Nat|.tmp t=>[t]|_=>[]
def tmL:List (Nat×Operand)->List Nat|[]=>[]|(_,x)::r=>tmO x++tmL r
def opR (o:Oper):List Nat:=match o.op with
 | .move x=>tmO x
 | .assign x=>tmO x
 | .pick c x y=>tmO c++(tmO x++tmO y)
 | .binOp _ _ x y _=>tmO x++tmO y
 | .unOp _ _ x=>tmO x
 | .fieldAddr _ x _=>tmO x
 | .load _ x=>tmO x
 | .nilCheck x=>tmO x
 | .extract x _=>tmO x
 | .field _ x _=>tmO x
 | .convert _ _ x=>tmO x
 | .build _ parts=>tmL parts.toList
 | .store _ x v=>tmO x++tmO v
 | _=>[]
def tq (o:Oper):Bool:=match o.op with
 | .call _=>false
 | _=>true
def knKS:gf->Nat->Option Nat|[],_=>none|(k,d,_)::r,i=>bif Nat.beq d i then some k else knKS r i
def R6 (bas:List (Nat×AV))(o:Oper)(rev:gf)(j i:Nat):Option AV:=match look bas i with
 | some x=>some x
 | none=>(match knKS rev i with
  | some k=>(match jI o k with
   | true=>(match dH rev k with
    | some (i',v)=>(match Nat.beq i' i with
     | true=>some (v j)
     | false=>none)
    | none=>none)
   | false=>none)
  | none=>none)
def xf (bas:List (Nat×AV))(o:Oper)(rev:gf)(j:Nat):List Nat->List (Nat×AV)
 | []=>[]
 | i::r=>(match R6 bas o rev j i with
  | some x=>(i,x)::xf bas o rev j r
  | none=>xf bas o rev j r)
theorem Rb {bas:List (Nat×AV)}{o:Oper}{rev:gf}{j i:Nat}{x:AV}(h:R6 bas o rev j i=some x):look bas i=some x\/∃ k v,jI o k=true/\dH rev k=some (i,v)/\v j=x:=by
 grind [R6,Nat.eq_of_beq_eq_true]
theorem nj {bas:List (Nat×AV)}{o:Oper}{rev:gf}{j:Nat}:∀ (l:List Nat),KnS bas o rev j (xf bas o rev j l)
 | []=>trivial
 | i::r=>by
  unfold xf;split
  ·rename_i x hx; exact ⟨Rb hx,nj r⟩
  ·exact nj r
section
variable {kn sl:List (Nat×AV)} {ob:List (Nat×List AV)} {C:Cx} {o:Oper}
theorem Es {F:Option AV->Option AV}{x:Operand}{y:AV}(hs:∀ i x,look kn i=some x->look sl i=some x)(hF:F none=none)(h:F (evo kn x)=some y):F (evo sl x)=some y:=by
 cases hx:evo kn x with
 | none=>grind
 | some v=>grind [kY]
theorem Py {c x y:Operand}{z:AV}(hs:∀ i x,look kn i=some x->look sl i=some x)(h:pkP kn x y (evo kn c)=some z):pkP sl x y (evo sl c)=some z:=by
 cases hc:evo kn c with
 | none=>rw [hc] at h; cases h
 | some v=>
  rw [hc] at h;rw [kY hs hc];unfold pkP at h ⊢
  grind [kY]
theorem Pj {op:BinOp}{t:TypeId}(Y0z:Option AV):bnP C op t none Y0z=none:=by
 grind [bnP]
theorem Oa {op:BinOp}{t:TypeId}(X:Option AV):bnP C op t X none=none:=by
 grind [bnP]
theorem Re {op:BinOp}{t:TypeId}{x y:Operand}{z:AV}(hs:∀ i x,look kn i=some x->look sl i=some x)(h:bnP C op t (evo kn x) (evo kn y)=some z):bnP C op t (evo sl x) (evo sl y)=some z:=by
 cases hx:evo kn x with
 | none=>grind [Pj]
 | some v=>
  cases hy:evo kn y with
  | none=>grind [Oa]
  | some u=>
   rw [hx,hy] at h;rw [kY hs hx,kY hs hy]; exact h
theorem yh (hs:∀ i x,look kn i=some x->look sl i=some x):∀ {ps:List (Nat×Operand)} {l:List (Nat×AV)},gw kn ps=some l->gw sl ps=some l
 | [],l,h=>h
 | (i,x)::r,l,h=>by
  unfold gw at h ⊢
  cases hx:evo kn x with
  | none=>grind
  | some v=>
   cases hr:gw kn r with
   | none=>grind
   | some m=>
    rw [hx,hr] at h;rw [kY hs hx,yh hs hr]; exact h
theorem Pf {t f:Nat}:faP C t f none=none:=by
 unfold faP
 repeat' split
 all_goals grind
theorem P7 {t:Nat}:ldP C ob t none=none:=by
 grind [ldP]
theorem PD {t f:Nat}:flP C t f none=none:=by
 unfold flP
 grind
theorem Pt {t f:Nat}:cvP C t f none=none:=by
 unfold cvP
 grind
theorem O4 {t:Nat}:buP C t none=none:=by
 grind [buP]
theorem Ph {t:Nat}{ps:List (Nat×Operand)}{y:AV}(hs:∀ i x,look kn i=some x->look sl i=some x)(h:buP C t (gw kn ps)=some y):buP C t (gw sl ps)=some y:=by
 cases hp:gw kn ps with
 | none=>grind [O4]
 | some l=>grind [yh]
theorem CH {y:AV}(hs:∀ i x,look kn i=some x->look sl i=some x)(hc:tq o=true)(h:opV C o kn ob=some y):opV C o sl ob=some y:=by
 unfold opV tq at *
 cases ho:o.op <;> simp only [ho] at h hc ⊢
 all_goals first
  | (cases h; done)
  | exact kY hs h
  | exact Py hs h
  | exact Re hs h
  | exact Es (F:=faP C _ _) hs Pf h
  | exact Es (F:=ldP C ob _) hs P7 h
  | exact Es (F:=ncP) hs Z h
  | exact Es (F:=xtP _) hs Z h
  | exact Es (F:=flP C _ _) hs PD h
  | exact Es (F:=cvP C _ _) hs Pt h
  | exact Ph hs h
  | (cases hc; done)
  | skip
 all_goals (rename_i op _ _; cases op <;> simp only at h ⊢)
 all_goals first
  | (cases h; done)
  | exact Es (F:=ntP) hs Z h
def stV (C:Cx)(o:Oper)(kn:List (Nat×AV))(ob:List (Nat×List AV)):Option (List (Nat×List AV)):=match o.op with
 | .store t x v=>(match look C.tt t with
  | some i=>(match evo kn x with
   | some (.ptr id k)=>(match evo kn v with
    | some y=>(match y.cellsA with
     | some xs=>(match Nat.beq xs.length i.size with
      | true=>(match look ob id with
       | some cs=>(match Nat.ble (k+xs.length) cs.length with
        | true=>some ((id,qu cs k xs)::ob)
        | false=>none)
       | none=>none)
      | false=>none)
     | none=>none)
    | none=>none)
   | _=>none)
  | none=>none)
 | _=>none
theorem TQ {ops:Array Oper}{ob':List (Nat×List AV)}{K:AS->Prop}(h:stV C o kn ob=some ob')(hg:o.guard=none)(hd:o.dst=none)(hs:∀ i x,look kn i=some x->look sl i=some x)(hK:K ⟨sl,ob'⟩):One C ops o K ⟨sl,ob⟩:=by
 unfold stV at h;split at h
 ·rename_i t x v ho;split at h
  ·rename_i i hi;split at h
   ·grind [al,qw,kY,Nat.eq_of_beq_eq_true,Nat.le_of_ble_eq_true]
   ·cases h
  ·cases h
 ·cases h
end
section
variable {C:Cx} {ops:Array Oper} {S:fy} {K:gf->Prop} {o:Oper} {k:Nat} {rev:gf} {d:Nat}
def sV (C:Cx)(ops:Array Oper)(S:fy)(o:Oper)(R:List Nat)(k:Nat)(rev:gf)(v:Nat->AV)(j:Nat):Option AV:=match pA ops S.imp o k j with
 | true=>opV C o (xf (S.bas j) o rev j R) (S.obj j)
 | false=>some (v j)
def sL (C:Cx)(ops:Array Oper)(S:fy)(o:Oper)(R:List Nat)(k:Nat)(rev:gf)(v:Nat->AV):Nat->List (Option AV)|0=>[]|j+1=>sV C ops S o R k rev v j::sL C ops S o R k rev v j
def gL (ops:Array Oper)(S:fy)(o:Oper)(R:List Nat)(k:Nat)(rev:gf)(t:Nat)(x:AV):Nat->List (Option AV)
 | 0=>[]
 | j+1=>(match pA ops S.imp o k j with
  | true=>look (xf (S.bas j) o rev j R) t
  | false=>some x)::gL ops S o R k rev t x j
def vL (v:Nat->AV):Nat->List (Option AV)|0=>[]|j+1=>some (v j)::vL v j
theorem Rz {v:Nat->AV}(hg:o.guard=none)(hd:o.dst=some d)(hn:Nat.blt d C.n=true)(hc:tq o=true):∀ {m:Nat},sL C ops S o (opR o) k rev v m=vL v m->Stg C ops S o k rev d v m
 | 0,_=>trivial
 | j+1,h=>by
  have h1:sV C ops S o (opR o) k rev v j=some (v j):=(ur h).1;refine ⟨λ ha=>?_,Rz hg hd hn hc (ur h).2⟩;unfold sV at h1;rw [ha] at h1;exact ⟨_,nj _,λ sl hs K hK=>al hg (xz (CH hs hc h1) hd hn hK)⟩
def cL (S:fy)(d:Nat):Nat->List (Option AV)|0=>[]|j+1=>look (S.bas j) d::cL S d j
def nL:Nat->List (Option AV)|0=>[]|j+1=>none::nL j
def aL (v:Nat->AV):Nat->List AV|0=>[]|j+1=>v (j+1)::aL v j
def bL (S:fy)(v:Nat->AV):Nat->List AV|0=>[]|j+1=>trA (S.D j) (v j)::bL S v j
theorem Rv:∀ {m:Nat},cL S d m=nL m->∀ j,j<m->look (S.bas j) d=none
 | 0,_,j,h=>absurd h (Nat.not_lt_zero _)
 | m+1,h,j,hj=>by
  by_cases e:j=m
  ·subst e; exact (ur h).1
  ·exact Rv (ur h).2 j O
theorem xg {v:Nat->AV}:∀ {m:Nat},aL v m=bL S v m->∀ j,j<m->v (j+1)=trA (S.D j) (v j)
 | 0,_,j,h=>absurd h (Nat.not_lt_zero _)
 | m+1,h,j,hj=>by
  by_cases e:j=m
  ·subst e; exact (ur h).1
  ·exact xg (ur h).2 j O
theorem dP {rest:List Oper}(v:Nat->AV)
  (e:(o.dst,S.imp.findIdx? (Nat.beq k),o.guard,tq o,(rev.all λ p=>!(Nat.beq p.2.1 d)),Nat.blt d C.n,cL S d S.m,(λ j=>look (S.bas (j+S.m)) d),aL v S.m,sL C ops S o (opR o) k rev v (S.m+1))=(some d,none,none,true,true,true,nL S.m,(λ _=>none),bL S v S.m,vL v (S.m+1)))
  (h:DS C ops S K rest (k+1) ((k,d,v)::rev)):DS C ops S K (o::rest) k rev:=by
 simp only [Prod.mk.injEq] at e;obtain ⟨e1,e2,e3,e4,e5,e6,e7,e8,e9,Xv⟩:=e;refine kQ v e2 e1 e5 (λ j=>?_) (xg e9) (Rz e3 e1 e6 e4 Xv) h;exact NA
theorem dPc {rest:List Oper}(y:AV)
  (e:(o.dst,S.imp.findIdx? (Nat.beq k),o.guard,tq o,(rev.all λ p=>!(Nat.beq p.2.1 d)),Nat.blt d C.n,cL S d S.m,(λ j=>look (S.bas (j+S.m)) d),aL (λ _=>y) S.m,sL C ops S o (opR o) k rev (λ _=>y) (S.m+1))=(some d,none,none,true,true,true,nL S.m,(λ _=>none),bL S (λ _=>y) S.m,vL (λ _=>y) (S.m+1)))
  (h:DS C ops S K rest (k+1) ((k,d,λ _=>y)::rev)):DS C ops S K (o::rest) k rev:=dP (λ _=>y) e h
theorem dS {rest:List Oper}{i:Nat}
  (e:(S.imp.findIdx? (Nat.beq k),o.dst,o.guard,S.D i,stV C o (xf (S.bas i) o rev i (opR o)) (S.obj i))=(some i,none,none,Tr.none,some (S.obj (i+1))))
  (h:DS C ops S K rest (k+1) rev):DS C ops S K (o::rest) k rev:=by
 simp only [Prod.mk.injEq] at e;obtain ⟨e1,e2,e3,e4,e5⟩:=e;refine kG _ e1 (nj (opR o)) e2 (λ sl hs K hK=>?_) h;rw [e4] at hK;exact TQ e5 e3 e2 hs hK
theorem vM (e7:cL S d S.m=nL S.m)(e8:(λ j=>look (S.bas (j+S.m)) d)=λ _=>none)(j:Nat):look (S.bas j) d=none:=by
 exact NA
theorem Lq {v:Nat->AV}{R:List Nat}{w b:Bool}{g t:Nat}(hb:b=w)(hg:o.guard=some (g,w))(hj:(ops.toList[g]?).bind (·.dst)=some t)(hd:o.dst=some d)(hn:Nat.blt d C.n=true)(hc:tq o=true) :
  ∀ {m:Nat},gL ops S o R k rev t (.p (.val (.bool b))) m=vL (λ _=>.p (.val (.bool b))) m->sL C ops S o R k rev v m=vL v m->Stg C ops S o k rev d v m
 | 0,_,_=>trivial
 | j+1,hG,h=>by
  have h1:sV C ops S o R k rev v j=some (v j):=(ur h).1;have h2:=(ur hG).1;refine ⟨λ ha=>?_,Lq hb hg hj hd hn hc (ur hG).2 (ur h).2⟩;unfold sV at h1;rw [ha] at h1 h2;exact ⟨_,nj _,λ sl hs K hK=>cO (xz (CH hs hc h1) hd hn hK) hg hj (hs _ _ h2) hb⟩
theorem dPy {rest:List Oper}{w b:Bool}{g t:Nat}(v:Nat->AV)(hb:b=w)
  (e:(o.dst,o.guard,(ops.toList[g]?).bind (·.dst),S.imp.findIdx? (Nat.beq k),tq o,(rev.all λ p=>!(Nat.beq p.2.1 d)),Nat.blt d C.n,cL S d S.m,(λ j=>look (S.bas (j+S.m)) d),aL v S.m,gL ops S o (t::opR o) k rev t (.p (.val (.bool b))) (S.m+1),sL C ops S o (t::opR o) k rev v (S.m+1))=(some d,some (g,w),some t,none,true,true,true,nL S.m,(λ _=>none),bL S v S.m,vL (λ _=>.p (.val (.bool b))) (S.m+1),vL v (S.m+1)))
  (h:DS C ops S K rest (k+1) ((k,d,v)::rev)):DS C ops S K (o::rest) k rev:=by
 simp only [Prod.mk.injEq] at e;obtain ⟨e1,e2,e3,e4,e5,e6,e7,e8,e9,Xv,XI,YT⟩:=e;exact kQ v e4 e1 e6 (vM e8 e9) (xg Xv) (Lq hb e2 e3 e1 e7 e5 XI YT) h
theorem MH {R:List Nat}{w b:Bool}{g t:Nat}(hb:b=!w)(hg:o.guard=some (g,w))(hj:(ops.toList[g]?).bind (·.dst)=some t)(hd:o.dst=some d)(hn:Nat.blt d C.n=true) :
  ∀ {m:Nat},gL ops S o R k rev t (.p (.val (.bool b))) m=vL (λ _=>.p (.val (.bool b))) m->Stg C ops S o k rev d (λ _=>.p (.val Go.undef)) m
 | 0,_=>trivial
 | j+1,hG=>by
  have h2:=(ur hG).1;refine ⟨λ ha=>?_,MH hb hg hj hd hn (ur hG).2⟩;rw [ha] at h2;exact ⟨_,nj _,λ sl hs K hK=>Lj hg hj (hs _ _ h2) hb hd hn hK⟩
theorem dPn {rest:List Oper}{w b:Bool}{g t:Nat}(hb:b=!w)
  (e:(o.dst,o.guard,(ops.toList[g]?).bind (·.dst),S.imp.findIdx? (Nat.beq k),(rev.all λ p=>!(Nat.beq p.2.1 d)),Nat.blt d C.n,cL S d S.m,(λ j=>look (S.bas (j+S.m)) d),aL (λ _=>.p (.val Go.undef)) S.m,gL ops S o [t] k rev t (.p (.val (.bool b))) (S.m+1))=(some d,some (g,w),some t,none,true,true,nL S.m,(λ _=>none),bL S (λ _=>.p (.val Go.undef)) S.m,vL (λ _=>.p (.val (.bool b))) (S.m+1)))
  (h:DS C ops S K rest (k+1) ((k,d,λ _=>.p (.val Go.undef))::rev)):DS C ops S K (o::rest) k rev:=by
 simp only [Prod.mk.injEq] at e;obtain ⟨e1,e2,e3,e4,e6,e7,e8,e9,Xv,XI⟩:=e;exact kQ _ e4 e1 e6 (vM e8 e9) (xg Xv) (MH hb e2 e3 e1 e7 XI) h
theorem Ko {R:List Nat}{w:Bool}{g t:Nat}(hg:o.guard=some (g,w))(hj:(ops.toList[g]?).bind (·.dst)=some t)(hd:o.dst=some d)(hn:Nat.blt d C.n=true) :
  ∀ {m:Nat},gL ops S o R k rev t (.p (.val Go.undef)) m=vL (λ _=>.p (.val Go.undef)) m->Stg C ops S o k rev d (λ _=>.p (.val Go.undef)) m
 | 0,_=>trivial
 | j+1,hG=>by
  have h2:=(ur hG).1;refine ⟨λ ha=>?_,Ko hg hj hd hn (ur hG).2⟩;rw [ha] at h2;exact ⟨_,nj _,λ sl hs K hK=>Cz hg hj (hs _ _ h2) hd hn hK⟩
theorem dPx {rest:List Oper}{w:Bool}{g t:Nat}
  (e:(o.dst,o.guard,(ops.toList[g]?).bind (·.dst),S.imp.findIdx? (Nat.beq k),(rev.all λ p=>!(Nat.beq p.2.1 d)),Nat.blt d C.n,cL S d S.m,(λ j=>look (S.bas (j+S.m)) d),aL (λ _=>.p (.val Go.undef)) S.m,gL ops S o [t] k rev t (.p (.val Go.undef)) (S.m+1))=(some d,some (g,w),some t,none,true,true,nL S.m,(λ _=>none),bL S (λ _=>.p (.val Go.undef)) S.m,vL (λ _=>.p (.val Go.undef)) (S.m+1)))
  (h:DS C ops S K rest (k+1) ((k,d,λ _=>.p (.val Go.undef))::rev)):DS C ops S K (o::rest) k rev:=by
 simp only [Prod.mk.injEq] at e;obtain ⟨e1,e2,e3,e4,e6,e7,e8,e9,Xv,XI⟩:=e;exact kQ _ e4 e1 e6 (vM e8 e9) (xg Xv) (Ko e2 e3 e1 e7 XI) h
end
def lkM (s:List (Nat×List AV)):List (Nat×List AV)->List (Option (List AV))|[]=>[]|(j,_)::r=>look s j::lkM s r
def smM:List (Nat×List AV)->List (Option (List AV))|[]=>[]|(_,cs)::r=>some cs::smM r
theorem w5 {s:List (Nat×List AV)}:∀ {t:List (Nat×List AV)},lkM s t=smM t->leO s t
 | [],_=>trivial
 | (j,cs)::r,h=>⟨⟨cs,(ur h).1,bf cs⟩,w5 (ur h).2⟩
theorem wZ:∀ l:List AV,qB l l
 | []=>trivial
 | x::r=>⟨AV.sub_refl x,wZ r⟩
def lkB (sl:List (Nat×AV)):List (Nat×AV)->List (Option AV)|[]=>[]|(i,_)::r=>look sl i::lkB sl r
def smB:List (Nat×AV)->List (Option AV)|[]=>[]|(_,x)::r=>some x::smB r
theorem va {sl:List (Nat×AV)}:∀ {b:List (Nat×AV)},lkB sl b=smB b->fu sl b
 | [],_=>trivial
 | (i,x)::r,h=>⟨(ur h).1,va (ur h).2⟩
def lkS (S:fy):Nat->List (List (Option AV))|0=>[]|j+1=>lkB (trL (S.D j) (S.bas j)) (S.bas (j+1))::lkS S j
def smS (S:fy):Nat->List (List (Option AV))|0=>[]|j+1=>smB (S.bas (j+1))::smS S j
theorem wT {S:fy}:∀ {m:Nat},lkS S m=smS S m->∀ j,j<m->fu (trL (S.D j) (S.bas j)) (S.bas (j+1))
 | 0,_,j,h=>absurd h (Nat.not_lt_zero _)
 | m+1,h,j,hj=>by
  by_cases e:j=m
  ·subst e; exact va (ur h).1
  ·exact wT (ur h).2 j O
section
variable {C:Cx} {Q:Exit->AS->Prop} {K:AS->Prop} {sl:List (Nat×AV)} {ob:List (Nat×List AV)} {o:Oper} {d:Nat} {s:AS} {k:List Fr} {ops:Array Oper}
theorem cVq (ids UY:List Nat)(NB NE:Nat){f:FuncId}{args:Array Operand}{ts:Array TypeId}{l q:List AV}{Ve qo rob ob':List (Nat×List AV)}{r r':AV}(hc:cj C.P f q qo (λ x y=>x=r/\y=rob))(henter:∀ vs w,(callFunc f vs).run C.P w=.ok (.enter f vs) w)
  (e:(o.op,o.dst,Nat.blt d C.n,kM sl args.toList,AV.mapA.go (mF ids UY) l,jm ob ids,iT (mF ids UY) Ve,lkM qo qo,nodupB ids,ids.all (λ i=>Nat.blt i (2*M1)),Nat.ble ids.length M1,Nat.ble NE M1,ids.all (λ i=>!(dk UY NB NE i)),nodupB UY,UY.all (λ i=>Nat.blt i M1),Nat.ble UY.length 100000,r.mapA (md ids NB NE),iT (md ids NB NE) rob)=(.call { callee:=.value (.func f),args:=args,argTypes:=ts },some d,true,some l,some q,some Ve,some qo,smM qo,true,true,true,true,true,true,true,true,some r',some ob'))
  (hK:K ⟨(d,r')::(cW (dk UY NB NE) ⟨sl,ob⟩).sl,ob'++(cW (dk UY NB NE) ⟨sl,ob.filter λ p=>!(ids.any (Nat.beq p.1))⟩).ob⟩):bu C o K ⟨sl,ob⟩:=by
 simp only [Prod.mk.injEq] at e;obtain ⟨e1,e2,e3,e4,e5,e6,e7,e8,e9,Xv,XI,YT,Y9,e14,X9,Zx,e17,e18⟩:=e;exact bq ids UY NB NE hc e1 e2 e3 e4 e5 (wZ _) e6 e7 (w5 e8) e9 Xv XI YT Y9 e14 X9 Zx henter e17 e18 hK
theorem mQoq {β:Type}{v v0:β}{tt:List (Nat×TI)}{fn:Func}{ts ids:List Nat}{mk:β->AV}{mo:β->List (Nat×List AV)}{Ve:List (Nat×List AV)}{l:List AV}(e:some v=some v0)
  (h:(po tt fn.results.toList s,(tg l).mapA (pD ts),jm s.ob ids,iT (pD ts) Ve,lkM (mo v) (mo v))=(some l,some (mk v),some Ve,some (mo v),smM (mo v))):M C (λ e s=>∃ v,v=v0/\w6 C tt fn ts ids (mk v) (mo v) e s) ⟨.ex .ret,[],s⟩:=by
 simp only [Prod.mk.injEq] at h;obtain ⟨h1,h2,h3,h4,h5⟩:=h;exact mQo (Option.some.inj e) (aQ _) h1 h2 h3 h4 (AV.sub_refl _) (w5 h5)
theorem mSq (S:fy){id:Nat}
  (e:(C.P.follows .mixedOrders,S.imp.length,S.obj 0,lkB sl (S.bas 0),lkS S S.m,nodupB S.imp,S.imp.all (λ i=>Nat.blt i ops.size),chainB ops S.imp,(ops.toList.zipIdx.all λ p=>p.1.after.toList.all λ e=>!(Region.binds .any e)||Nat.blt e.on p.2))=(true,S.m,ob,smB (S.bas 0),smS S S.m,true,true,true,true))
  (h:DS C ops S (λ rev=>M C Q ⟨.ex .normal,k,⟨d4 rev S.m++S.bas S.m,S.obj S.m⟩⟩) ops.toList 0 []):M C Q ⟨.cd (.region id ops true),k,⟨sl,ob⟩⟩:=by
 grind [mS,va,wT]
end
def ob2 (A:List (Nat×List AV))(x:Nat×List AV):Nat->List (Nat×List AV)|0=>A|_+1=>x::A
def ob3 (A:List (Nat×List AV))(x y:Nat×List AV):Nat->List (Nat×List AV)|0=>A|1=>x::A|_+2=>y::x::A
def ob5 (A:List (Nat×List AV))(x y z u:Nat×List AV):Nat->List (Nat×List AV)|0=>A|1=>x::A|2=>y::x::A|3=>z::y::x::A|_+4=>u::z::y::x::A
class HP (h:Prop) (P:outParam Program) (f:outParam FuncId) (q:outParam (List PV)) (x:outParam AV):Prop where
 c:h->bA P f q (·=x)
class HO (h:Prop) (P:outParam Program) (f:outParam FuncId) (q:outParam (List AV)) (qo:outParam (List (Nat×List AV))) (x:outParam AV) (y:outParam (List (Nat×List AV))):Prop where
 c:h->cj P f q qo (λ a b=>a=x/\b=y)
class HC {α:Type} (f:α->PV) (cs:outParam (α->List PV)):Prop where
 c:∀ x,(f x).cells=cs x
class HE (P:Program) (f:FuncId):Prop where
 e:∀ vs w,(callFunc f vs).run P w=.ok (.enter f vs) w
def wo {α:Type}:List Nat->List (Nat×α)->Option (List (Nat×α))
 | _,[]=>some []
 | seen,(i,x)::r=>(match seen.any (Nat.beq i) with
  | true=>wo seen r
  | false=>(match wo (i::seen) r with
   | some l=>some ((i,x)::l)
   | none=>none))
theorem Al:∀ {sl:List (Nat×AV)} {seen:List Nat} {b:List (Nat×AV)},wo seen sl=some b->∀ p∈b,seen.any (Nat.beq p.1)=false/\look sl p.1=some p.2
 | [],seen,b,h,p,hp=>by simp only [wo,bx] at h; subst h; simp at hp
 | (i,x)::r,seen,b,h,p,hp=>by
  unfold wo at h;split at h
  ·rename_i hs;obtain ⟨h1,h2⟩:=Al h p hp;refine ⟨h1,?_⟩;rw [aZ,if_neg (λ e=>by subst e; rw [h1] at hs; cases hs)]; exact h2
  ·rename_i hs;split at h
   ·rename_i l hl
    cases h
    rcases qr.1 hp with rfl|hp
    ·exact ⟨hs,by rw [aZ,if_pos Z]⟩
    ·obtain ⟨h1,h2⟩:=Al hl p hp;rw [List.any_cons,Bool.or_eq_false_iff] at h1;refine ⟨h1.2,?_⟩;rw [aZ,if_neg (λ e=>by have:=h1.1; rw [<- e] at this; simp at this)]; exact h2
   ·cases h
theorem base_of {sl:List (Nat×AV)}:∀ {b:List (Nat×AV)},(∀ p∈b,look sl p.1=some p.2)->fu sl b
 | [],_=>trivial
 | (i,x)::r,h=>⟨h (i,x) (th ..),base_of λ p hp=>h p (List.mem_cons_of_mem _ hp)⟩
theorem BA {sl b:List (Nat×AV)}(h:wo [] sl=some b):fu sl b:=base_of λ p hp=>(Al h p hp).2
def tkZ:Nat->List (Nat×AV)->Option (List Nat)
 | 0,_=>some []
 | n+1,(i,_)::r=>(match tkZ n r with
  | some l=>some (i::l)
  | none=>none)
 | _,[]=>none
def Q5:List AV->List Nat->Option (List Nat)
 | [],_=>some []
 | .ptr i _::r,s=>(match s.any (Nat.beq i) with
  | true=>Q5 r s
  | false=>(match Q5 r (i::s) with
   | some l=>some (i::l)
   | none=>none))
 | .p _::r,s=>Q5 r s
 | _::_,_=>none
def idsO (sl:List (Nat×AV))(o:Oper):Option (List Nat):=match o.op with
 | .call c=>(match kM sl c.args.toList with
  | some l=>Q5 l []
  | none=>none)
 | _=>none
def gdS (ops:Array Oper)(o:Oper):Option Nat:=match o.guard with
 | some (j,_)=>(ops.toList[j]?).bind (·.dst)
 | none=>none
def biK (o:Oper)(kn:List (Nat×AV)):Option (BinOp×AV×AV):=match o.op with
 | .binOp op _ x y _=>(match evo kn x with
  | some X=>(match evo kn y with
   | some Y0z=>some (op,X,Y0z)
   | none=>none)
  | none=>none)
 | _=>none
theorem Hk:∀ {b:List (Nat×AV)},nodupB (b.map (·.1))=true->∀ {p},p∈b->look b p.1=some p.2
 | [],_,p,hp=>by simp at hp
 | (i,x)::r,h,p,hp=>by
  simp only [n7,nodupB,py,Bool.not_eq_true'] at h;rcases qr.1 hp with rfl|hp
  ·rw [aZ,if_pos rfl]
  ·rw [aZ,if_neg ?_]
   ·exact Hk h.2 hp
   ·intro e;have h1:=h.1;rw [List.any_eq_false] at h1;exact h1 p.1 (List.mem_map.2 ⟨p,hp,rfl⟩) (by simp [e])
def rgG (C:Cx)(ops:Array Oper):List Oper->Nat->List (Nat×AV)->List (Nat×List AV)->Option (List Nat×List (List (Nat×List AV)))
 | [],_,_,_=>some ([],[])
 | o::r,k,sl,ob=>(match o.dst with
  | some d=>(match oV C ops o sl ob with
   | some y=>rgG C ops r (k+1) ((d,y)::sl) ob
   | none=>(match biK o sl with
    | some (op,.p (.val (.int .i64 x)),.p (.val (.int .i64 y)))=>(match arI op x y with
     | some c=>rgG C ops r (k+1) ((d,.p (eI c))::sl) ob
     | none=>none)
    | _=>none))
  | none=>(match stV C o sl ob with
   | some ob'=>(match rgG C ops r (k+1) sl ob' with
    | some (im,Ve)=>some (k::im,ob'::Ve)
    | none=>none)
   | none=>none))
def Qy (A:List (Nat×List AV)):List (List (Nat×List AV))->Nat->List (Nat×List AV)|_,0=>A|[],_+1=>A|x::r,n+1=>Qy x r n
section
variable {C:Cx} {Q:Exit->AS->Prop} {K:AS->Prop} {k:List Fr} {sl b:List (Nat×AV)} {ob:List (Nat×List AV)} {ops:Array Oper} {r:List Oper} {o:Oper} {d:Nat}
def goOn:Ct->List Fr->Bool|.ex _,[]=>false|.ex .normal,.jo _::_=>false|.ex (.exit i),.je id _::_=>!(Nat.beq i id)|_,_=>true
theorem nxg (n:Nat){c:Ct}{s:AS}{c':Cf}(_:goOn c k=true)(h:run C n ⟨c,k,s⟩=some c')(hM:M C Q c'):M C Q ⟨c,k,s⟩:=nx n h hM
theorem mDa {id:Nat}(hn:wo [] sl=some b)(e:(C.P.follows .mixedOrders,ops.toList.all (λ o=>o.dst.isSome),(ops.toList.zipIdx.all λ p=>p.1.after.toList.all λ e=>!(Region.binds .any e)||Nat.blt e.on p.2))=(true,true,true))
  (h:DQ C ops b ob (λ s'=>M C Q ⟨.ex .normal,k,s'⟩) ops.toList 0 []):M C Q ⟨.cd (.region id ops true),k,⟨sl,ob⟩⟩:=by
 simp only [Prod.mk.injEq] at e;exact mD b e.1 (BA hn) e.2.2 h
theorem mA {id:Nat}{im:List Nat}{Ve:List (List (Nat×List AV))}{Z0z:Prop}(hn:wo [] sl=some b)(hr:rgG C ops ops.toList 0 b ob=some (im,Ve))
  (e:(C.P.follows .mixedOrders,nodupB (b.map (·.1)),nodupB im,im.all (λ i=>Nat.blt i ops.size),chainB ops im,(ops.toList.zipIdx.all λ p=>p.1.after.toList.all λ e=>!(Region.binds .any e)||Nat.blt e.on p.2))=(true,true,true,true,true,true)) (z:Z0z)
  (h:Z0z->DS C ops ⟨im.length,im,λ _=>.none,λ _=>b,Qy ob Ve⟩ (λ rev=>M C Q ⟨.ex .normal,k,⟨d4 rev im.length++b,Qy ob Ve im.length⟩⟩) ops.toList 0 []:=by
   intro z
   repeat first|exact d5 z|refine dPc _ Z ?_|refine dS Z ?_|refine dPn Z Z ?_|refine dPx Z ?_|refine dPy (λ _=>_) Z Z ?_|refine dPa Z Z (by assumption) Z ?_):M C Q ⟨.cd (.region id ops true),k,⟨sl,ob⟩⟩:=by
 simp only [Prod.mk.injEq] at e;obtain ⟨e1,e0,e2,e3,e4,e5⟩:=e;exact mS ⟨im.length,im,λ _=>.none,λ _=>b,Qy ob Ve⟩ e1 rfl (by cases Ve <;> rfl) (BA hn) (λ j _=>base_of λ p hp=>Hk e0 hp) e2 e3 e4 e5 (h z)
theorem cVa {ids:List Nat}{f:FuncId}{args:Array Operand}{ts:Array TypeId}{l q:List AV}{Ve qo rob ob':List (Nat×List AV)}{r r':AV}(hc:cj C.P f q qo (λ x y=>x=r/\y=rob))(henter:∀ vs w,(callFunc f vs).run C.P w=.ok (.enter f vs) w)
  (hi:idsO sl o=some ids)
  (e:(o.op,o.dst,Nat.blt d C.n,kM sl args.toList,AV.mapA.go (mF ids []) l,jm ob ids,iT (mF ids []) Ve,lkM qo qo,nodupB ids,ids.all (λ i=>Nat.blt i (2*M1)),Nat.ble ids.length M1,Nat.ble 101000 M1,ids.all (λ i=>!(dk [] 101000 101000 i)),nodupB [],([]:List Nat).all (λ i=>Nat.blt i M1),Nat.ble ([]:List Nat).length 100000,r.mapA (md ids 101000 101000),iT (md ids 101000 101000) rob)=(.call { callee:=.value (.func f),args:=args,argTypes:=ts },some d,true,some l,some q,some Ve,some qo,smM qo,true,true,true,true,true,true,true,true,some r',some ob'))
  (hK:K ⟨(d,r')::(cW (dk [] 101000 101000) ⟨sl,ob⟩).sl,ob'++(cW (dk [] 101000 101000) ⟨sl,ob.filter λ p=>!(ids.any (Nat.beq p.1))⟩).ob⟩):bu C o K ⟨sl,ob⟩:=cVq ids [] 101000 101000 hc henter e hK
variable {p:Prop} [Decidable p] {α:Type} {x y:Option α} {v:α} {T:List Nat} {c:Ct} {q:Bool}
theorem fDn (n:Nat)(h:(if p then x else y)=some v)(hn:tkZ n sl=some T)(hT:lks sl T=some (T.map λ _=>.p (.val (.bool (decide p)))))
  (h1:p->x=some v->M C Q ⟨c,k,⟨stB true sl T,ob⟩⟩) (h2:¬p->y=some v->M C Q ⟨c,k,⟨stB false sl T,ob⟩⟩):M C Q ⟨c,k,⟨sl,ob⟩⟩:=fD T h hT h1 h2
theorem fNn (n:Nat)(h:(if p then x else y)=some v)(hn:tkZ n sl=some T)(hT:lks sl T=some (T.map λ _=>.p (.val (.bool (!decide p)))))
  (h1:p->x=some v->M C Q ⟨c,k,⟨stB false sl T,ob⟩⟩) (h2:¬p->y=some v->M C Q ⟨c,k,⟨stB true sl T,ob⟩⟩):M C Q ⟨c,k,⟨sl,ob⟩⟩:=fN T h hT h1 h2
theorem fBn (n:Nat)(h:(if q=true then x else y)=some v)(hn:tkZ n sl=some T)(hT:lks sl T=some (T.map λ _=>.p (.val (.bool q))))
  (h1:q=true->x=some v->M C Q ⟨c,k,⟨stB true sl T,ob⟩⟩) (h2:q=false->y=some v->M C Q ⟨c,k,⟨stB false sl T,ob⟩⟩):M C Q ⟨c,k,⟨sl,ob⟩⟩:=fB T h hT h1 h2
def ON (ops:Array Oper):Ct->Option (List Nat)
 | .cd (.cond (.tmp t) _ _)=>some [t]
 | .op _ (o::_)=>(match gdS ops o with
  | some t=>some [t]
  | none=>none)
 | _=>none
def PU:Ct->Array Oper|.op ops _=>ops|_=>#[]
theorem fDc (h:(if p then x else y)=some v)(hn:ON (PU c) c=some T)(hT:lks sl T=some (T.map λ _=>.p (.val (.bool (decide p)))))
  (h1:p->x=some v->M C Q ⟨c,k,⟨stB true sl T,ob⟩⟩) (h2:¬p->y=some v->M C Q ⟨c,k,⟨stB false sl T,ob⟩⟩):M C Q ⟨c,k,⟨sl,ob⟩⟩:=fD T h hT h1 h2
theorem fNc (h:(if p then x else y)=some v)(hn:ON (PU c) c=some T)(hT:lks sl T=some (T.map λ _=>.p (.val (.bool (!decide p)))))
  (h1:p->x=some v->M C Q ⟨c,k,⟨stB false sl T,ob⟩⟩) (h2:¬p->y=some v->M C Q ⟨c,k,⟨stB true sl T,ob⟩⟩):M C Q ⟨c,k,⟨sl,ob⟩⟩:=fN T h hT h1 h2
theorem fBc (h:(if q=true then x else y)=some v)(hn:ON (PU c) c=some T)(hT:lks sl T=some (T.map λ _=>.p (.val (.bool q))))
  (h1:q=true->x=some v->M C Q ⟨c,k,⟨stB true sl T,ob⟩⟩) (h2:q=false->y=some v->M C Q ⟨c,k,⟨stB false sl T,ob⟩⟩):M C Q ⟨c,k,⟨sl,ob⟩⟩:=fB T h hT h1 h2
theorem lTc {q b:Bool}{t:Nat}(hn:ON (PU c) c=some [t])(hT:look sl t=some (.p (.val (.bool q))))(hb:q=b)(h:M C Q ⟨c,k,⟨stB b sl [t],ob⟩⟩):M C Q ⟨c,k,⟨sl,ob⟩⟩:=lT [t] hb (by simp only [lks,hT,n7,List.map_nil]) h
end
section
variable {C:Cx} {Q:Exit->AS->Prop} {k:List Fr} {sl K1:List (Nat×AV)} {ob K2:List (Nat×List AV)} {c:Code} {σ:Type}
theorem kA (w:σ)(f:σ->List (Nat×AV))(g:σ->List (Nat×List AV))(e1:∀ v,wo ((f v).map (·.1)) sl=some K1)(e2:∀ v,wo ((g v).map (·.1)) ob=some K2)(h2:M C Q ⟨.ex .normal,k,⟨f w++K1,g w++K2⟩⟩)
  (h1:M C Q ⟨.cd c,.jo (λ t=>∃ v,w=v/\t=⟨f v++K1,g v++K2⟩)::k,⟨sl,ob⟩⟩):M C Q ⟨.cd c,k,⟨sl,ob⟩⟩:=kN w (λ v=>⟨f v++K1,g v++K2⟩) h2 h1
theorem hP {P:Program}{tt:List (Nat×TI)}{β:Type}(good:dp P tt){fi:FuncId}{fn:Func}{args:List PV}{h:β->Prop}{mk:β->AV}(hf:P.funcs[fi]? = some fn)(hb:fn.body=some c)(hn:(Nat.ble args.length fn.ntmps,Nat.ble fn.ntmps M1)=(true,true))
  (H:∀ r,h r->∀ hnl w0,M ⟨P,tt,good,fn.ntmps,hnl,w0,λ b=>b<w0.w.heap.size⟩ (λ e s=>∃ v,v=r/\zJ tt fn (λ x=>x.sub (mk v)) e s) ⟨.cd c,[],⟨ut args,[]⟩⟩):∀ r,HP (h r) P fi args (mk r) :=
 λ r=>⟨λ h0=>KS good hf hb (Prod.mk.inj hn).1 (Prod.mk.inj hn).2 λ w0=>mP mk (H r h0 _ w0)⟩
theorem hO {P:Program}{tt:List (Nat×TI)}{β:Type}(good:dp P tt)(ts ids:List Nat){fi:FuncId}{fn:Func}{args:List AV}{Ve:List (Nat×List AV)}{h:β->Prop}{mk:β->AV}{mo:β->List (Nat×List AV)}(hf:P.funcs[fi]? = some fn)(hb:fn.body=some c)
  (hn:(Nat.ble args.length fn.ntmps,Nat.ble fn.ntmps M1,ts.all (λ i=>Nat.blt i M1),nodupB ts)=(true,true,true,true))
  (H:∀ r,h r->∀ hnl w0 F,M ⟨P,tt,good,fn.ntmps,hnl,w0,F⟩ (λ e s=>∃ v,v=r/\w6 ⟨P,tt,good,fn.ntmps,hnl,w0,F⟩ tt fn ts ids (mk v) (mo v) e s) ⟨.cd c,[],⟨gR args,Ve⟩⟩):∀ r,HO (h r) P fi args Ve (mk r) (mo r):=by
 simp only [Prod.mk.injEq] at hn;exact λ r=>⟨λ h0=>qV good ts ids hf hb hn.1 hn.2.1 hn.2.2.1 hn.2.2.2 λ w0 F=>mPo mk mo (H r h0 _ w0 F)⟩
end
theorem Ns {C:Cx}{ops:Array Oper}{ob:List (Nat×List AV)}{o:Oper}{kn:List (Nat×AV)}{d:Nat}{op:BinOp}{x y c:Int}(hg:o.guard=none)(hd:o.dst=some d)(hn:Nat.blt d C.n=true)(h:biK o kn=some (op,.p (.val (.int .i64 x)),.p (.val (.int .i64 y))))(hc:arI op x y=some c)(hr:inR c):rx C ops ob o kn d (.p (eI c)):=by
 unfold biK at h;split at h
 ·rename_i op' t X Y0z t' ho;split at h
  ·rename_i X' hx;split at h
   ·rename_i Y' hy
    cases h
    exact λ sl hs K hK=>al hg (gJ ho hd hn (kY hs hx) (kY hs hy) hc hr hK)
   ·cases h
  ·cases h
 ·cases h
section
variable {C:Cx} {ops:Array Oper} {S:fy} {K:gf->Prop} {K2:AS->Prop} {o:Oper} {k d:Nat} {rev:gf} {op:BinOp} {x y c:Int}
def arL (ops:Array Oper)(S:fy)(o:Oper)(k:Nat)(rev:gf)(z:BinOp×AV×AV):Nat->List (Option (BinOp×AV×AV))
 | 0=>[]
 | j+1=>(match pA ops S.imp o k j with
  | true=>biK o (xf (S.bas j) o rev j (opR o))
  | false=>some z)::arL ops S o k rev z j
def arE (z:BinOp×AV×AV):Nat->List (Option (BinOp×AV×AV))|0=>[]|j+1=>some z::arE z j
theorem LD (hg:o.guard=none)(hd:o.dst=some d)(hn:Nat.blt d C.n=true)(hc:arI op x y=some c)(hr:inR c):∀ {m:Nat},arL ops S o k rev (op,.p (.val (.int .i64 x)),.p (.val (.int .i64 y))) m=arE (op,.p (.val (.int .i64 x)),.p (.val (.int .i64 y))) m->Stg C ops S o k rev d (λ _=>.p (eI c)) m
 | 0,_=>trivial
 | j+1,h=>by
  have h1:=(ur h).1;refine ⟨λ ha=>?_,LD hg hd hn hc hr (ur h).2⟩;rw [ha] at h1;exact ⟨_,nj _,Ns hg hd hn h1 hc hr⟩
theorem dPa {rest:List Oper}(e:(o.dst,S.imp.findIdx? (Nat.beq k),o.guard,(rev.all λ p=>!(Nat.beq p.2.1 d)),Nat.blt d C.n,cL S d S.m,(λ j=>look (S.bas (j+S.m)) d),arL ops S o k rev (op,.p (.val (.int .i64 x)),.p (.val (.int .i64 y))) (S.m+1))=(some d,none,none,true,true,nL S.m,(λ _=>none),arE (op,.p (.val (.int .i64 x)),.p (.val (.int .i64 y))) (S.m+1)))
  (hc:arI op x y=some c) (hr:inR c) (ht:aL (λ _=>.p (eI c)) S.m=bL S (λ _=>.p (eI c)) S.m) (h:DS C ops S K rest (k+1) ((k,d,λ _=>.p (eI c))::rev)):DS C ops S K (o::rest) k rev:=by
 simp only [Prod.mk.injEq] at e;obtain ⟨e1,e2,e3,e4,e5,e6,e7,e8⟩:=e;exact kQ (λ _=>.p (eI c)) e2 e1 e4 (vM e6 e7) (xg ht) (LD e3 e1 e5 hc hr e8) h
theorem dqa {base:List (Nat×AV)}{ob:List (Nat×List AV)}{rest:List Oper}{rev:Rev}(hn:nwF base rev o=some d)(e:(o.guard,Nat.blt d C.n,biK o (knL base o rev (tms o)))=(none,true,some (op,.p (.val (.int .i64 x)),.p (.val (.int .i64 y)))))
  (hc:arI op x y=some c) (hr:inR c) (h:DQ C ops base ob K2 rest (k+1) ((k,d,.p (eI c))::rev)):DQ C ops base ob K2 (o::rest) k rev:=by
 simp only [Prod.mk.injEq] at e;obtain ⟨e1,e2,e3⟩:=e;exact zT _ _ Bc (Ns e1 (o0 hn).1 e2 e3 hc hr) (o0 hn).1 (o0 hn).2.1 (o0 hn).2.2 h
end
section
variable {C:Cx} {ops:Array Oper} {S:fy} {K:gf->Prop} {o:Oper} {k d:Nat} {rev:gf} {kn:List (Nat×AV)} {rest:List Oper}
def knA (ops:Array Oper)(S:fy)(o:Oper)(k:Nat)(rev:gf)(R:List Nat)(kn:List (Nat×AV)):Nat->List (List (Nat×AV))
 | 0=>[]
 | j+1=>(match pA ops S.imp o k j with
  | true=>xf (S.bas j) o rev j R
  | false=>kn)::knA ops S o k rev R kn j
def knE (kn:List (Nat×AV)):Nat->List (List (Nat×AV))|0=>[]|j+1=>kn::knE kn j
theorem Jt {y:AV}{R:List Nat}(hs:∀ ob,rx C ops ob o kn d y):∀ {m:Nat},knA ops S o k rev R kn m=knE kn m->Stg C ops S o k rev d (λ _=>y) m
 | 0,_=>trivial
 | j+1,h=>by
  have h1:=(ur h).1;refine ⟨λ ha=>?_,Jt hs (ur h).2⟩;rw [ha] at h1;have h1:xf (S.bas j) o rev j R=kn:=h1;exact ⟨kn,h1 ▸ nj R,hs _⟩
theorem dO (y:AV)(R:List Nat)(e:(o.dst,S.imp.findIdx? (Nat.beq k),(rev.all λ p=>!(Nat.beq p.2.1 d)),cL S d S.m,(λ j=>look (S.bas (j+S.m)) d),aL (λ _=>y) S.m,knA ops S o k rev R kn (S.m+1))=(some d,none,true,nL S.m,(λ _=>none),bL S (λ _=>y) S.m,knE kn (S.m+1)))
  (hs:∀ ob,rx C ops ob o kn d y) (h:DS C ops S K rest (k+1) ((k,d,λ _=>y)::rev)):DS C ops S K (o::rest) k rev:=by
 simp only [Prod.mk.injEq] at e;obtain ⟨e1,e2,e3,e4,e5,e6,e7⟩:=e;exact kQ (λ _=>y) e2 e1 e3 (vM e4 e5) (xg e6) (Jt hs e7) h
def ivL (v:Nat->AV)(i:Nat):Nat->List (Option AV)
 | 0=>[]
 | j+1=>(match Nat.blt i j with
  | true=>some (v (j+1))
  | false=>none)::ivL v i j
def ibL (S:fy)(v:Nat->AV)(i:Nat):Nat->List (Option AV)
 | 0=>[]
 | j+1=>(match Nat.blt i j with
  | true=>some (trA (S.D j) (v j))
  | false=>none)::ibL S v i j
theorem JV {v:Nat->AV}{i:Nat}:∀ {m:Nat},ivL v i m=ibL S v i m->∀ j,j<m->i<j->v (j+1)=trA (S.D j) (v j)
 | 0,_,j,h,_=>absurd h (Nat.not_lt_zero _)
 | m+1,h,j,hj,hi=>by
  by_cases e:j=m
  ·subst e;have h1:=(ur h).1;have hb:Nat.blt i j=true:=by simp only [Nat.blt_eq]; exact hi
   rw [hb] at h1;exact Option.some.inj h1
  ·exact JV (ur h).2 j O hi
theorem dI {i:Nat}(v:Nat->AV)(R:List Nat)(e:(S.imp.findIdx? (Nat.beq k),o.dst,(rev.all λ p=>!(Nat.beq p.2.1 d)),cL S d S.m,(λ j=>look (S.bas (j+S.m)) d),ivL v i S.m,xf (S.bas i) o rev i R)=(some i,some d,true,nL S.m,(λ _=>none),ibL S v i S.m,kn))
  (Va:∀ sl,(∀ i x,look kn i=some x->look sl i=some x)->∀ K:AS->Prop,K ⟨(d,v (i+1))::trL (S.D i) sl,S.obj (i+1)⟩->One C ops o K ⟨sl,S.obj i⟩) (h:DS C ops S K rest (k+1) ((k,d,v)::rev)):DS C ops S K (o::rest) k rev:=by
 simp only [Prod.mk.injEq] at e;obtain ⟨e1,e2,e3,e4,e5,e6,e7⟩:=e;exact rI v kn e1 (e7 ▸ nj R) e2 e3 (λ j=>vM e4 e5 _) (JV e6) Va h
end
class Jn (n:Nat) (σ:outParam Type) (f:outParam (σ->List (Nat×AV))) (g:outParam (σ->List (Nat×List AV))):Prop where
 t:True
class Js (l:outParam (List Nat)):Prop where
 t:True
instance js0:Js []:=⟨trivial⟩
theorem js (l:List Nat):Js l:=⟨trivial⟩
theorem jB (n:Nat)(σ:Type)(f:σ->List (Nat×AV))(g:σ->List (Nat×List AV)):Jn n σ f g:=⟨trivial⟩
theorem jS (n:Nat)(σ:Type)(f:σ->List (Nat×AV)):Jn n σ f (λ _=>[]):=⟨trivial⟩
theorem jO (n:Nat)(σ:Type)(g:σ->List (Nat×List AV)):Jn n σ (λ _=>[]) g:=⟨trivial⟩
def Iu:Code->Option Nat
 | .seq x _=>(match Iu x with|some n=>some (n+1)|none=>none)
 | .block id _=>some (100*id+50)
 | .region id _ _=>some (100*id)
 | .cond _ x _=>(match Iu x with|some n=>some (n+20)|none=>none)
 | .loop x=>(match Iu x with|some n=>some (n+10)|none=>none)
 | .scope x=>(match Iu x with|some n=>some (n+5)|none=>none)
 | _=>none
def topJ:List Fr->Bool|.jo _::_=>true|.je _ _::_=>true|_=>false
def atJ (l:List Nat):Ct->Bool
 | .cd c=>(match Iu c with|some n=>l.any (Nat.beq n)|none=>false)
 | _=>false
def P5 (C:Cx)(l:List Nat):Nat->Cf->Option Cf
 | 0,c=>some c
 | n+1,c=>(match stp C c with
  | some c'=>(match atJ l c'.c with|true=>some c'|false=>P5 C l n c')
  | none=>none)
theorem Gf {C:Cx}{Q:Exit->AS->Prop}{l:List Nat}:∀ (n:Nat) {c c':Cf},P5 C l n c=some c'->M C Q c'->M C Q c
 | 0,c,c',h,hM=>by cases h; exact hM
 | n+1,c,c',h,hM=>by
  unfold P5 at h;split at h
  ·rename_i c1 h1;split at h
   ·cases h; exact D3 h1 hM
   ·exact D3 h1 (Gf n h hM)
  ·cases h
section
variable {C:Cx} {Q:Exit->AS->Prop} {k:List Fr} {sl K1:List (Nat×AV)} {ob K2:List (Nat×List AV)} {c:Code} {σ β:Type}
theorem nxj (n:Nat){l:List Nat} [Js l] {c:Ct}{s:AS}{c':Cf}(_:goOn c k=true)(h:P5 C l n ⟨c,k,s⟩=some c')(hM:M C Q c'):M C Q ⟨c,k,s⟩:=Gf n h hM
theorem kJ {p:Option σ}{F:σ->Option β}{v:β}{n:Nat}{f:σ->List (Nat×AV)}{g:σ->List (Nat×List AV)}(h:p.bind F=some v)(_:Iu c=some n)(_:topJ k=false) [Jn n σ f g] (e1:∀ v,wo ((f v).map (·.1)) sl=some K1)(e2:∀ v,wo ((g v).map (·.1)) ob=some K2)
  (H2:∀ o,F o=some v->M C Q ⟨.ex .normal,k,⟨f o++K1,g o++K2⟩⟩) (H1:∀ o,p=some o->M C Q ⟨.cd c,.jo (λ t=>∃ v,o=v/\t=⟨f v++K1,g v++K2⟩)::k,⟨sl,ob⟩⟩):M C Q ⟨.cd c,k,⟨sl,ob⟩⟩:=by
 obtain ⟨o,h1,h2⟩:=MV h;exact kA o f g e1 e2 (H2 o h2) (H1 o h1)
end
theorem U {p:Prop}(h:p:=by
 repeat' first
  | exact sr
  | exact True.intro
  | exact .inl Z
  | exact .inr ⟨Z,Z⟩
  | exact nM _
  | exact AV.sub_nilvec _ _ _
  | exact AV.sub_vec _ _ _ _
  | exact er Z
  | exact ⟨_,Z,bf _⟩
  | refine fI ?_
  | refine iz ?_
  | refine BR ?_
  | refine ⟨_,Z,?_⟩
  | refine ⟨?_,?_⟩):p:=h
theorem Zr {p:Prop}(h:p:=by
 repeat' first
  | exact ⟨λ h=>by cases h⟩
  | refine ⟨?_,?_⟩
  | refine λ _=>?_):p:=h
theorem J0 {p:Prop}(h:p:=by
 repeat' first
  | refine kJ h0 Z Z Y Y (λ o h0=>?_) λ o h0=>?_
  | refine nxj 12 Z Z ?_
  | refine nxj 4 Z Z ?_
  | refine nxj 1 Z Z ?_
  | exact eX _ (oi h0).symm (gE Z Z)
  | exact mQ (oi h0) Z U
  | exact mQoq h0 Z
  | exact mQo (oi h0) (aQ _) Z Z Z Z U U
  | exact eXi _ (oi h0).symm (gE Z Z)
  | exact eX _ h0 (gE Z Z)
  | exact eX ⟨_,_⟩ h0 (gE Z Z)
  | exact eX ⟨_,_,_⟩ h0 (gE Z Z)
  | exact eX ⟨_,_,_,_⟩ h0 (gE Z Z)
  | exact eX ⟨_,_,_,_,_⟩ h0 (gE Z Z)
  | exact eX ⟨_,_,_,_,_,_⟩ h0 (gE Z Z)
  | exact eX ⟨_,_,_,_,_,_,_⟩ h0 (gE Z Z)
  | exact eX ⟨_,_,_,_,_,_,_,_⟩ h0 (gE Z Z)
  | exact eX ⟨_,_,_,_,_,_,_,_,_⟩ h0 (gE Z Z)
  | exact eX ⟨_,_,_,_,_,_,_,_,_,_,_,_,_,_,_,_⟩ h0 (gE Z Z)
  | exact eX ⟨_,_,_,_,_,_,_,_,_,_,_,_,_,_,_,_,_⟩ h0 (gE Z Z)
  | exact eX _ (oi h0).symm (dZ (oh U U))
  | exact eXi _ (oi h0).symm (dZ (oh U U))
  | exact mQ (hR0 _ (oi h0).symm) Z U
  | exact mQoq (congrArg some (hR0 _ (oi h0).symm)) Z
  | exact mQ (hR0 _ (hR1 _ (oi h0).symm).symm) Z U
  | exact mQn (oi h0) Z U
  | exact Jd (oi h0) (aQ _) Z Z Z Z U U
  | exact mQo (oi h0) (aQ _) Z Z Z (aD Z (aF _) Z) U U
  | refine oS Z Z ?_
  | refine oLs Z ?_
  | refine oLl Z Z ?_
  | refine oA h0 Z Z λ hk h0=>?_
  | refine oI h0 rfl λ hk h0=>?_
  | refine oP h0 Z Z Z λ hk h0=>?_
  | refine oC h0 rfl λ hk h0=>?_
  | refine oE h0 HC.c Z Z Y λ hk h0=>?_
  | refine bd h0 λ r e h0=>oK (HP.c e) Z U HE.e Z ?_
  | refine bd h0 λ r e h0=>mO Z (cVa (HO.c e) HE.e Z Z ?_)
  | refine fBn 3 h0 Z Z (λ c h0=>?_) λ c h0=>?_
  | refine fBn 2 h0 Z Z (λ c h0=>?_) λ c h0=>?_
  | refine fBn 1 h0 Z Z (λ c h0=>?_) λ c h0=>?_
  | refine fBc h0 Z Z (λ c h0=>?_) λ c h0=>?_
  | refine fDn 4 h0 Z Z (λ c h0=>?_) λ c h0=>?_
  | refine fDn 3 h0 Z Z (λ c h0=>?_) λ c h0=>?_
  | refine fDn 2 h0 Z Z (λ c h0=>?_) λ c h0=>?_
  | refine fDn 1 h0 Z Z (λ c h0=>?_) λ c h0=>?_
  | refine fDc h0 Z Z (λ c h0=>?_) λ c h0=>?_
  | refine fNn 3 h0 Z Z (λ c h0=>?_) λ c h0=>?_
  | refine fNn 2 h0 Z Z (λ c h0=>?_) λ c h0=>?_
  | refine fNn 1 h0 Z Z (λ c h0=>?_) λ c h0=>?_
  | refine fNc h0 Z Z (λ c h0=>?_) λ c h0=>?_
  | refine lTc Z Z (by first|exact dt ‹_› | exact df ‹_› | assumption) ?_
  | refine mDa Z Z ?_
  | refine dE Z ?_
  | refine dR 4 Z ?_
  | refine dR 1 Z ?_
  | refine dqa Z Z Z (by assumption) ?_
  | refine mA Z Z Z ?_
  | refine dPc _ Z ?_
  | refine dS Z ?_
  | refine dPn Z Z ?_
  | refine dPx Z ?_
  | refine dPa Z Z (by assumption) Z ?_
  | refine d5 ?_
  | refine cc' h0 λ hk h0=>?_
  | replace h0:=TE Z h0
  | replace h0:=if_f (by decide) h0):p:=h
theorem K0 {p Z0z:Prop}(z:Z0z)(h:Z0z->p:=by
 intro z
 first
  | refine bd h0 λ r e h0=>oK (HP.c e) Z U HE.e Z ?_
  | refine bd h0 λ r e h0=>mO Z (cVa (HO.c e) HE.e Z Z ?_)
 clear e
 revert r
 exact z):p:=h z
theorem K1 {p Z0z:Prop}(z:Z0z)(h:Z0z->p:=by
 intro z
 first
  | refine bd h1 λ r e h1=>oK (HP.c e) Z U HE.e Z ?_
  | refine bd h1 λ r e h1=>mO Z (cVa (HO.c e) HE.e Z Z ?_)
 clear e
 revert r
 exact z):p:=h z
theorem K2 {p Z0z:Prop}(z:Z0z)(h:Z0z->p:=by
 intro z
 first
  | refine bd h2 λ r e h2=>oK (HP.c e) Z U HE.e Z ?_
  | refine bd h2 λ r e h2=>mO Z (cVa (HO.c e) HE.e Z Z ?_)
 clear e
 revert r
 exact z):p:=h z
end Go.Ab
end
section
namespace Go.Ab.R06
open Go.Proofs Go.Ab Go.Ab.RB
instance hc14_0:HC eS (λ x=>[eS x]):=⟨λ _=>rfl⟩
instance hc14_1:HC ao ab.cs:=⟨ab.E'⟩
instance hc14_2:HC cn ag.cs:=⟨ag.E'⟩
instance hc14_4 (s:Bk) (c r:Int):HP (strings_IndexByte s c=some r) Tryz.prog 93 [eS s,eK .u8 c] (.p (eI r)):=⟨nq s c r⟩
instance hc14_5 (s p:Bk) (r:Bool):HP (strings_HasPrefix s p=some r) Tryz.prog 120 [eS s,eS p] (.p (eB r)):=⟨dJ s p r⟩
instance hc14_6 (a:Int) (r:Bool):HP (cY a=some r) Tryz.prog 196 [eK .i32 a] (.p (eB r)):=⟨pI a r⟩
instance hc14_8 (s:Bk) (r:Bool):HP (fS s=some r) Tryz.prog 214 [eS s] (.p (eB r)):=⟨oq s r⟩
instance hc14_9 (s p:Bk) (r:Bool):HP (strings_Contains s p=some r) Tryz.prog 128 [eS s,eS p] (.p (eB r)):=⟨kz s p r⟩
instance hE4:HE Tryz.prog 4:=⟨Tryz.call4⟩
instance hE5:HE Tryz.prog 5:=⟨Tryz.call5⟩
instance hE6:HE Tryz.prog 6:=⟨Tryz.call6⟩
instance hE7:HE Tryz.prog 7:=⟨Tryz.call7⟩
instance hE8:HE Tryz.prog 8:=⟨Tryz.call8⟩
instance hE9:HE Tryz.prog 9:=⟨Tryz.call9⟩
instance hE10:HE Tryz.prog 10:=⟨Tryz.call10⟩
instance hE11:HE Tryz.prog 11:=⟨Tryz.call11⟩
instance hE12:HE Tryz.prog 12:=⟨Tryz.call12⟩
instance hE13:HE Tryz.prog 13:=⟨Tryz.call13⟩
instance hE14:HE Tryz.prog 14:=⟨Tryz.call14⟩
instance hE15:HE Tryz.prog 15:=⟨Tryz.call15⟩
instance hE16:HE Tryz.prog 16:=⟨Tryz.call16⟩
instance hE17:HE Tryz.prog 17:=⟨Tryz.call17⟩
instance hE18:HE Tryz.prog 18:=⟨Tryz.call18⟩
instance hE19:HE Tryz.prog 19:=⟨Tryz.call19⟩
instance hE20:HE Tryz.prog 20:=⟨Tryz.call20⟩
instance hE21:HE Tryz.prog 21:=⟨Tryz.call21⟩
instance hE22:HE Tryz.prog 22:=⟨Tryz.call22⟩
instance hE23:HE Tryz.prog 23:=⟨Tryz.call23⟩
instance hE24:HE Tryz.prog 24:=⟨Tryz.call24⟩
instance hE25:HE Tryz.prog 25:=⟨Tryz.call25⟩
instance hE26:HE Tryz.prog 26:=⟨Tryz.call26⟩
instance hE27:HE Tryz.prog 27:=⟨Tryz.call27⟩
instance hE28:HE Tryz.prog 28:=⟨Tryz.call28⟩
instance hE29:HE Tryz.prog 29:=⟨Tryz.call29⟩
instance hE30:HE Tryz.prog 30:=⟨Tryz.call30⟩
instance hE31:HE Tryz.prog 31:=⟨Tryz.call31⟩
instance hE32:HE Tryz.prog 32:=⟨Tryz.call32⟩
instance hE33:HE Tryz.prog 33:=⟨Tryz.call33⟩
instance hE34:HE Tryz.prog 34:=⟨Tryz.call34⟩
instance hE35:HE Tryz.prog 35:=⟨Tryz.call35⟩
instance hE36:HE Tryz.prog 36:=⟨Tryz.call36⟩
instance hE37:HE Tryz.prog 37:=⟨Tryz.call37⟩
instance hE38:HE Tryz.prog 38:=⟨Tryz.call38⟩
instance hE39:HE Tryz.prog 39:=⟨Tryz.call39⟩
instance hE40:HE Tryz.prog 40:=⟨Tryz.call40⟩
instance hE41:HE Tryz.prog 41:=⟨Tryz.call41⟩
instance hE42:HE Tryz.prog 42:=⟨Tryz.call42⟩
instance hE43:HE Tryz.prog 43:=⟨Tryz.call43⟩
instance hE44:HE Tryz.prog 44:=⟨Tryz.call44⟩
instance hE45:HE Tryz.prog 45:=⟨Tryz.call45⟩
instance hE46:HE Tryz.prog 46:=⟨Tryz.call46⟩
instance hE47:HE Tryz.prog 47:=⟨Tryz.call47⟩
instance hE48:HE Tryz.prog 48:=⟨Tryz.call48⟩
instance hE49:HE Tryz.prog 49:=⟨Tryz.call49⟩
instance hE50:HE Tryz.prog 50:=⟨Tryz.call50⟩
instance hE51:HE Tryz.prog 51:=⟨Tryz.call51⟩
instance hE52:HE Tryz.prog 52:=⟨Tryz.call52⟩
instance hE53:HE Tryz.prog 53:=⟨Tryz.call53⟩
instance hE54:HE Tryz.prog 54:=⟨Tryz.call54⟩
instance hE55:HE Tryz.prog 55:=⟨Tryz.call55⟩
instance hE56:HE Tryz.prog 56:=⟨Tryz.call56⟩
instance hE57:HE Tryz.prog 57:=⟨Tryz.call57⟩
instance hE58:HE Tryz.prog 58:=⟨Tryz.call58⟩
instance hE59:HE Tryz.prog 59:=⟨Tryz.call59⟩
instance hE60:HE Tryz.prog 60:=⟨Tryz.call60⟩
instance hE61:HE Tryz.prog 61:=⟨Tryz.call61⟩
instance hE62:HE Tryz.prog 62:=⟨Tryz.call62⟩
instance hE63:HE Tryz.prog 63:=⟨Tryz.call63⟩
instance hE64:HE Tryz.prog 64:=⟨Tryz.call64⟩
instance hE65:HE Tryz.prog 65:=⟨Tryz.call65⟩
instance hE66:HE Tryz.prog 66:=⟨Tryz.call66⟩
instance hE67:HE Tryz.prog 67:=⟨Tryz.call67⟩
instance hE68:HE Tryz.prog 68:=⟨Tryz.call68⟩
instance hE69:HE Tryz.prog 69:=⟨Tryz.call69⟩
instance hE70:HE Tryz.prog 70:=⟨Tryz.call70⟩
instance hE71:HE Tryz.prog 71:=⟨Tryz.call71⟩
instance hE72:HE Tryz.prog 72:=⟨Tryz.call72⟩
instance hE73:HE Tryz.prog 73:=⟨Tryz.call73⟩
instance hE74:HE Tryz.prog 74:=⟨Tryz.call74⟩
instance hE75:HE Tryz.prog 75:=⟨Tryz.call75⟩
instance hE76:HE Tryz.prog 76:=⟨Tryz.call76⟩
instance hE77:HE Tryz.prog 77:=⟨Tryz.call77⟩
instance hE78:HE Tryz.prog 78:=⟨Tryz.call78⟩
instance hE79:HE Tryz.prog 79:=⟨Tryz.call79⟩
instance hE80:HE Tryz.prog 80:=⟨Tryz.call80⟩
instance hE84:HE Tryz.prog 84:=⟨Tryz.call84⟩
instance hE85:HE Tryz.prog 85:=⟨Tryz.call85⟩
instance hE86:HE Tryz.prog 86:=⟨Tryz.call86⟩
instance hE87:HE Tryz.prog 87:=⟨Tryz.call87⟩
instance hE88:HE Tryz.prog 88:=⟨Tryz.call88⟩
instance hE89:HE Tryz.prog 89:=⟨Tryz.call89⟩
instance hE90:HE Tryz.prog 90:=⟨Tryz.call90⟩
instance hE91:HE Tryz.prog 91:=⟨Tryz.call91⟩
instance hE93:HE Tryz.prog 93:=⟨Tryz.call93⟩
instance hE94:HE Tryz.prog 94:=⟨Tryz.call94⟩
instance hE95:HE Tryz.prog 95:=⟨Tryz.call95⟩
instance hE96:HE Tryz.prog 96:=⟨Tryz.call96⟩
instance hE97:HE Tryz.prog 97:=⟨Tryz.call97⟩
instance hE98:HE Tryz.prog 98:=⟨Tryz.call98⟩
instance hE99:HE Tryz.prog 99:=⟨Tryz.call99⟩
instance hE100:HE Tryz.prog 100:=⟨Tryz.call100⟩
instance hE101:HE Tryz.prog 101:=⟨Tryz.call101⟩
instance hE102:HE Tryz.prog 102:=⟨Tryz.call102⟩
instance hE103:HE Tryz.prog 103:=⟨Tryz.call103⟩
instance hE104:HE Tryz.prog 104:=⟨Tryz.call104⟩
instance hE105:HE Tryz.prog 105:=⟨Tryz.call105⟩
instance hE106:HE Tryz.prog 106:=⟨Tryz.call106⟩
instance hE107:HE Tryz.prog 107:=⟨Tryz.call107⟩
instance hE108:HE Tryz.prog 108:=⟨Tryz.call108⟩
instance hE110:HE Tryz.prog 110:=⟨Tryz.call110⟩
instance hE114:HE Tryz.prog 114:=⟨Tryz.call114⟩
instance hE115:HE Tryz.prog 115:=⟨Tryz.call115⟩
instance hE116:HE Tryz.prog 116:=⟨Tryz.call116⟩
instance hE117:HE Tryz.prog 117:=⟨Tryz.call117⟩
instance hE118:HE Tryz.prog 118:=⟨Tryz.call118⟩
instance hE120:HE Tryz.prog 120:=⟨Tryz.call120⟩
instance hE121:HE Tryz.prog 121:=⟨Tryz.call121⟩
instance hE122:HE Tryz.prog 122:=⟨Tryz.call122⟩
instance hE123:HE Tryz.prog 123:=⟨Tryz.call123⟩
instance hE124:HE Tryz.prog 124:=⟨Tryz.call124⟩
instance hE125:HE Tryz.prog 125:=⟨Tryz.call125⟩
instance hE126:HE Tryz.prog 126:=⟨Tryz.call126⟩
instance hE127:HE Tryz.prog 127:=⟨Tryz.call127⟩
instance hE128:HE Tryz.prog 128:=⟨Tryz.call128⟩
instance hE129:HE Tryz.prog 129:=⟨Tryz.call129⟩
instance hE130:HE Tryz.prog 130:=⟨Tryz.call130⟩
instance hE131:HE Tryz.prog 131:=⟨Tryz.call131⟩
instance hE132:HE Tryz.prog 132:=⟨Tryz.call132⟩
instance hE133:HE Tryz.prog 133:=⟨Tryz.call133⟩
instance hE134:HE Tryz.prog 134:=⟨Tryz.call134⟩
instance hE141:HE Tryz.prog 141:=⟨Tryz.call141⟩
instance hE142:HE Tryz.prog 142:=⟨Tryz.call142⟩
instance hE143:HE Tryz.prog 143:=⟨Tryz.call143⟩
instance hE144:HE Tryz.prog 144:=⟨Tryz.call144⟩
instance hE145:HE Tryz.prog 145:=⟨Tryz.call145⟩
instance hE146:HE Tryz.prog 146:=⟨Tryz.call146⟩
instance hE149:HE Tryz.prog 149:=⟨Tryz.call149⟩
instance hE150:HE Tryz.prog 150:=⟨Tryz.call150⟩
instance hE152:HE Tryz.prog 152:=⟨Tryz.call152⟩
instance hE153:HE Tryz.prog 153:=⟨Tryz.call153⟩
instance hE154:HE Tryz.prog 154:=⟨Tryz.call154⟩
instance hE155:HE Tryz.prog 155:=⟨Tryz.call155⟩
instance hE162:HE Tryz.prog 162:=⟨Tryz.call162⟩
instance hE163:HE Tryz.prog 163:=⟨Tryz.call163⟩
instance hE164:HE Tryz.prog 164:=⟨Tryz.call164⟩
instance hE165:HE Tryz.prog 165:=⟨Tryz.call165⟩
instance hE166:HE Tryz.prog 166:=⟨Tryz.call166⟩
instance hE167:HE Tryz.prog 167:=⟨Tryz.call167⟩
instance hE168:HE Tryz.prog 168:=⟨Tryz.call168⟩
instance hE169:HE Tryz.prog 169:=⟨Tryz.call169⟩
instance hE170:HE Tryz.prog 170:=⟨Tryz.call170⟩
instance hE172:HE Tryz.prog 172:=⟨Tryz.call172⟩
instance hE173:HE Tryz.prog 173:=⟨Tryz.call173⟩
instance hE175:HE Tryz.prog 175:=⟨Tryz.call175⟩
instance hE177:HE Tryz.prog 177:=⟨Tryz.call177⟩
instance hE178:HE Tryz.prog 178:=⟨Tryz.call178⟩
instance hE179:HE Tryz.prog 179:=⟨Tryz.call179⟩
instance hE184:HE Tryz.prog 184:=⟨Tryz.call184⟩
instance hE185:HE Tryz.prog 185:=⟨Tryz.call185⟩
instance hE186:HE Tryz.prog 186:=⟨Tryz.call186⟩
instance hE187:HE Tryz.prog 187:=⟨Tryz.call187⟩
instance hE188:HE Tryz.prog 188:=⟨Tryz.call188⟩
instance hE189:HE Tryz.prog 189:=⟨Tryz.call189⟩
instance hE190:HE Tryz.prog 190:=⟨Tryz.call190⟩
instance hE191:HE Tryz.prog 191:=⟨Tryz.call191⟩
instance hE192:HE Tryz.prog 192:=⟨Tryz.call192⟩
instance hE196:HE Tryz.prog 196:=⟨Tryz.call196⟩
instance hE198:HE Tryz.prog 198:=⟨Tryz.call198⟩
instance hE199:HE Tryz.prog 199:=⟨Tryz.call199⟩
instance hE200:HE Tryz.prog 200:=⟨Tryz.call200⟩
instance hE201:HE Tryz.prog 201:=⟨Tryz.call201⟩
instance hE202:HE Tryz.prog 202:=⟨Tryz.call202⟩
instance hE203:HE Tryz.prog 203:=⟨Tryz.call203⟩
instance hE204:HE Tryz.prog 204:=⟨Tryz.call204⟩
instance hE205:HE Tryz.prog 205:=⟨Tryz.call205⟩
instance hE209:HE Tryz.prog 209:=⟨Tryz.call209⟩
instance hE210:HE Tryz.prog 210:=⟨Tryz.call210⟩
instance hE211:HE Tryz.prog 211:=⟨Tryz.call211⟩
instance hE212:HE Tryz.prog 212:=⟨Tryz.call212⟩
instance hE213:HE Tryz.prog 213:=⟨Tryz.call213⟩
instance hE214:HE Tryz.prog 214:=⟨Tryz.call214⟩
instance hE220:HE Tryz.prog 220:=⟨Tryz.call220⟩
instance hE221:HE Tryz.prog 221:=⟨Tryz.call221⟩
instance hE222:HE Tryz.prog 222:=⟨Tryz.call222⟩
instance hE228:HE Tryz.prog 228:=⟨Tryz.call228⟩
instance hE229:HE Tryz.prog 229:=⟨Tryz.call229⟩
instance hE230:HE Tryz.prog 230:=⟨Tryz.call230⟩
instance hE231:HE Tryz.prog 231:=⟨Tryz.call231⟩
variable {p:Prop}
theorem x4 (h:p:=by
  exact nx 4 Z (eX _ (oi h3).symm (gE Z Z))):p:=h
theorem dj (h:p:=by
  have h0:=h2
  exact J0):p:=h
theorem ry (h:p:=by
  exact nx 2 Z (eX _ (oi h3).symm (gE Z Z))):p:=h
theorem eW (h:p:=by
  have h0:=Vp _ hv
  exact J0):p:=h
theorem aB (h:p:=by
  have h0:=h1
  exact J0):p:=h
theorem mM (h:p:=by
  have:=js [100];have:=jS 100 Bool λ v=>[(2,.p (eB v))]
  exact J0):p:=h
theorem EB (h:p:=by
  exact nx 8 Z (eX _ (oi h3).symm (gE Z Z))):p:=h
theorem tu (h:p:=by
  exact nx 5 Z (eX _ (oi h3).symm (gE Z Z))):p:=h
theorem Ly (h:p:=by first|rfl|(simp only [n7,List.map_nil,ai.M']; done)|(simp only [n7,List.map_nil,ai.M']; rfl)):p:=h
theorem aV (h:p:=by exact fL O O):p:=h
theorem n0 (h:p:=by exact eX _ (oi h1).symm (gE Z Z)):p:=h
theorem zS (h:p:=by exact eX _ (oi h2).symm (gE Z Z)):p:=h
theorem pT (h:p:=by exact λ sl UT K hK=>al Z (ny Z Z Z Z Z hK)):p:=h
theorem pY (h:p:=by exact eX _ (oi h3).symm (gE Z Z)):p:=h
theorem AX (h:p:=by exact λ sl UT K hK=>al Z (oM Z Z Z (UT _ _ Z) hK)):p:=h
theorem Tb (h:p:=by exact nx 1 Z (eX _ (oi h2).symm (gE Z Z))):p:=h
theorem kw (h:p:=by first|rfl|(simp only [n7,List.map_nil,ab.M']; done)|(simp only [n7,List.map_nil,ab.M']; rfl)):p:=h
theorem Ej (h:p:=by exact eX _ (oi h4).symm (gE Z Z)):p:=h
attribute [local irreducible] awp iH bu bA cj AV.sub M cN
def j9 (Xx:Int):Option Bool :=(if (-9007199254740992)<=Xx then some (decide (Xx<=9007199254740992))else some false).bind λ t2=>some t2
instance I9 (Xx:Int):∀ (r:Bool),HP (j9 Xx=some r) Tryz.prog 190 [eI Xx] (.p (eB r)):=by
 refine hP good Tryz.func190 Z Z λ r h0 _ w0=>?_;unfold j9 at h0;exact mM
def cG (s7:Bk):Nat->Int->Option (Unit⊕Bool)|0,_=>none|m+1,VX=>if VX<(s7.length:Int) then(ck ((0:Int)<=VX/\VX<(s7.length:Int))<|if byt s7 VX<48 then some true else ck ((0:Int)<=VX/\VX<(s7.length:Int))<|some (decide (57<byt s7 VX))).bind λ t21=>if t21=true then some (.inr false)else ck (inR (VX+1))<|cG s7 m (VX+1)else some (.inl ())
def iV (n:Nat)(O':Bk):Option Bool :=jn ((if 0<(O'.length:Int) then ck ((0:Int)<=0/\0<(O'.length:Int))<|some (decide (byt O' 0=45))else some false).bind λ t3=>if t3=true then ck ((0:Int)<=1/\1<=(O'.length:Int)/\(O'.length:Int)<=(O'.length:Int))<|if sub O' 1 (O'.length:Int)=([48]:Bk) then some (.inr false)else some (.inl (sub O' 1 (O'.length:Int)))else some (.inl O') : Option (Bk⊕Bool)) λ s7=>jn (cG s7 n 0) λ WA=>(if s7=([]:Bk) then some false else ck ((0:Int)<=0/\0<(s7.length:Int))<|if byt s7 0=48 then some (decide ((s7.length:Int)=1))else some true).bind λ Zf=>some Zf
instance DD (n:Nat) (O':Bk):∀ (r:Bool),HP (iV n O'=some r) Tryz.prog 198 [eS O'] (.p (eB r)):=by
 refine hP good Tryz.func198 Z Z λ r h0 _ w0=>?_;unfold iV at h0;refine nx 5 rfl ?_;obtain ⟨o34,h1,Vp,hR0⟩:=bJ h0;refine kX (λ XT:Bk=>o34=.inl XT) (λ XT=>⟨[(0,.p (eS XT))],[]⟩) (λ XT hv=>?_) ?_
 ·have h0:=Vp _ hv;refine nx 5 rfl (oLs rfl (nx 3 rfl ?_));obtain ⟨Yi,h1,Vp,hR0⟩:=bJ h0;refine kEx 0 (λ v37:Unit=>Yi=.inl v37) (λ v37=>⟨[(0,.p (eS XT))],[]⟩) (λ v37 hv=>?_) ?_
  ·have h0:=Vp _ hv;have:=js [1100];have:=jS 1100 Bool λ v=>[(2,.p (eB v))]
   exact J0
  refine lG (λ (Zk:Int)=>⟨[(0,.p (eS XT)),(17,.p (eI (XT.length:Int))),(18,.p (eI Zk))],[]⟩) (λ m (Zk:Int)=>cG XT m Zk) Y 0 h1 (gE rfl rfl) ?_;rintro m VX h1;replace h1:cG XT (m+1) VX=some Yi:=h1;rw [cG] at h1;have:=js [800];have:=jS 800 Bool λ v=>[(30,.p (eB v))]
  exact aB
 have:=js [100];have:=jS 100 Bool λ v=>[(11,.p (eB v))]
 exact aB
def mn (n:Nat)(O':Bk):Option (Int×Int) :=(iV n O').bind λ r1=>if (!r1)=true then some (0,2)else(km O' 10 64).bind λ r4=>(if r4.2=true then some true else(j9 r4.1).bind λ r7=>some (!r7)).bind λ t9=>if t9=true then some (0,5)else some (r4.1,0)
instance IX (n:Nat) (O':Bk):∀ (r:Int×Int),HP (mn n O'=some r) Tryz.prog 184 [eS O'] (.tuple [.p (eI r.1),.p (eI r.2)]):=by
 refine hP good Tryz.func184 Z Z λ r h0 _ w0=>?_;unfold mn at h0;refine nx 9 Z (K0 λ r1 h0=>nx 2 Z (fB [8] h0 Z (λ c3 h0=>?_) λ c3 h0=>?_))
 ·exact J0
 refine nx 5 Z (bd h0 λ r4 e5 h0=>oK (sQ O' 10 64 _ e5) Z ⟨sr,sr,sr,trivial⟩ HE.e (HD (vW Z (vW (SH _) Ez))) (nx 8 Z (bd h0 λ o12 h1 h0=>kN o12 (λ ZW=>⟨[(4,.p (eI r4.1)),(20,.p (eB ZW))],[]⟩) ?_ ?_)))
 ·exact J0
 refine nx 2 Z (mO Z (Tt Z Z Z Z Z Z (.inr ⟨Z,Z⟩) ?_));exact aB
def cD (O':Bk):Nat->Int->Int->Option (Int×Int)|0,_,_=>none|m+1,n11,i12=>(if i12<(O'.length:Int) then some (decide (i12<6))else some false).bind λ Vy=>if Vy=true then ck ((0:Int)<=i12/\i12<(O'.length:Int))<|(strings_IndexByte ([48,49,50,51,52,53,54,55,56,57,97,98,99,100,101,102]:Bk) (byt O' i12)).bind λ Vq=>if Vq<0 then some (n11,i12)else ck (inR (i12+1))<|cD O' m (IntKind.wrap .i32 ((IntKind.wrap .i32 (16*n11))+(IntKind.wrap .i32 (Vq)))) (i12+1)else some (n11,i12)
def fF (n:Nat)(O':Bk):Option (Int×Int×Int) :=(cD O' n 0 0).bind λ Yg=>if Yg.2=(O'.length:Int) then some (0,0,40)else(ck ((0:Int)<=Yg.2/\Yg.2<(O'.length:Int))<|if byt O' Yg.2=125 then if Yg.2=0 then some true else if 1<Yg.2 then ck ((0:Int)<=0/\0<(O'.length:Int))<|if byt O' 0=48 then some true else(cY Yg.1).bind λ WU=>some (!WU)else(cY Yg.1).bind λ Vd=>some (!Vd)else some true).bind λ t36=>if t36=true then some (0,0,2)else ck (inR (Yg.2+1))<|some (Yg.1,Yg.2+1,0)
instance Bm (n:Nat) (O':Bk):∀ (r:Int×Int×Int),HP (fF n O'=some r) Tryz.prog 175 [eS O'] (.tuple [.p (eK .i32 r.1),.p (eI r.2.1),.p (eI r.2.2)]):=by
 refine hP good Tryz.func175 Z Z λ r h0 _ w0=>?_;unfold fF at h0;refine nx 13 Z (bd h0 λ Yh h1 h0=>kE 0 Yh (λ Xl=>⟨[(0,.p (eS O')),(5,.p (eK .i32 Xl.1)),(6,.p (eI Xl.2))],[]⟩) ?_ ?_)
 ·have:=js [900];have:=jS 900 Bool λ v=>[(54,.p (eB v))]
  exact J0
 refine lG (λ (W3:Int×Int)=>⟨[(0,.p (eS O')),(5,.p (eK .i32 W3.1)),(6,.p (eI W3.2))],[]⟩) (λ m (W3:Int×Int)=>cD O' m W3.1 W3.2) Y (0,0) h1 (gE rfl rfl) ?_;rintro m ⟨n11,i12⟩ h1;replace h1:cD O' (m+1) n11 i12=some Yh:=h1;rw [cD] at h1;have:=js [200];have:=jS 200 Bool λ v=>[(15,.p (eB v))]
 exact aB
def kB (n:Nat)(O':Bk):Option (Int×Int×Int) :=if O'=([]:Bk) then some (0,0,40)else ck ((0:Int)<=0/\0<(O'.length:Int))<|if byt O' 0=110 then some (10,1,0)else if byt O' 0=114 then some (13,1,0)else if byt O' 0=116 then some (9,1,0)else(if byt O' 0=34 then some true else some (decide (byt O' 0=92))).bind λ t7=>if t7=true then ck ((0:Int)<=0/\0<(O'.length:Int))<|some (IntKind.wrap .i32 (byt O' 0),1,0)else if byt O' 0=117 then if (O'.length:Int)=1 then some (0,0,40)else ck ((0:Int)<=1/\1<(O'.length:Int))<|if byt O' 1=123 then ck ((0:Int)<=2/\2<=(O'.length:Int)/\(O'.length:Int)<=(O'.length:Int))<|(fF n (sub O' 2 (O'.length:Int))).bind λ U2=>ck (inR (U2.2.1+2))<|some (U2.1,U2.2.1+2,U2.2.2)else some (0,0,2)else some (0,0,2)
instance IB (n:Nat) (O':Bk):∀ (r:Int×Int×Int),HP (kB n O'=some r) Tryz.prog 152 [eS O'] (.tuple [.p (eK .i32 r.1),.p (eI r.2.1),.p (eI r.2.2)]):=by
 refine hP good Tryz.func152 Z Z λ r h0 _ w0=>?_;unfold kB at h0;have:=js [1001];have:=jS 1001 Bool λ v=>[(18,.p (eB v))]
 exact J0
def ff (n:Nat)(O':Bk):Nat->Int->(List UInt8)->Option ((Int×(List UInt8))⊕(Bk×Int×Int))|0,_,_=>none|m+1,at31,XA=>(if at31<(O'.length:Int) then ck ((0:Int)<=at31/\at31<(O'.length:Int))<|some (!decide (byt O' at31=34))else some false).bind λ t35=>if t35=true then ck ((0:Int)<=at31/\at31<=(O'.length:Int)/\(O'.length:Int)<=(O'.length:Int))<|(bo (sub O' at31 (O'.length:Int))).bind λ Wl=>jn (if Wl.1=92 then ck (inR (at31+1))<|ck ((0:Int)<=at31+1/\at31+1<=(O'.length:Int)/\(O'.length:Int)<=(O'.length:Int))<|(kB n (sub O' (at31+1) (O'.length:Int))).bind λ Yc=>if Yc.2.2=0 then ck (inR (Yc.2.1+1))<|some (.inl (Yc.1,Yc.2.1+1))else some (.inr (.inr (([]:Bk),0,Yc.2.2)))else(if Wl.1=65533 then if Wl.2=1 then some true else if Wl.1<32 then some true else some (decide (Wl.1=127))else if Wl.1<32 then some true else some (decide (Wl.1=127))).bind λ t51=>if t51=true then some (.inr (.inr (([]:Bk),0,2)))else some (.inl (Wl.1,Wl.2)) : Option ((Int×Int)⊕((Int×(List UInt8))⊕(Bk×Int×Int)))) λ Zi=>(dY (aC.mk XA) Zi.1).bind λ Xc=>ck (inR (at31+Zi.2))<|ff n O' m (at31+Zi.2) Xc.2.2.If else some (.inl (at31,XA))
def gW (n:Nat)(O':Bk):Option (Bk×Int×Int) :=if O'=([]:Bk) then some (([]:Bk),0,40)else ck ((0:Int)<=0/\0<(O'.length:Int))<|if byt O' 0=34 then jn (ff n O' n 1 []) λ Z7=>if Z7.1=(O'.length:Int) then some (([]:Bk),0,40)else(kx (aC.mk Z7.2)).bind λ Xh=>if 4096<Xh.1 then some (([]:Bk),0,3)else(db (aC.mk Xh.2.If)).bind λ WI=>ck (inR (Z7.1+1))<|some (WI.1,Z7.1+1,0)else some (([]:Bk),0,2)
instance Gj (n:Nat) (O':Bk):∀ (r:Bk×Int×Int),HP (gW n O'=some r) Tryz.prog 129 [eS O'] (.tuple [.p (eS r.1),.p (eI r.2.1),.p (eI r.2.2)]):=by
 refine hP good Tryz.func129 Z Z λ r h0 _ w0=>?_;unfold gW at h0;refine nx 10 Z (oS Z Z (nx 1 Z (fD [13] h0 Z (λ c1 h0=>?_) λ c1 h0=>?_)))
 ·exact J0
 refine nx 6 Z (oI h0 Z λ WZ h0=>nx 2 Z (fN [16] h0 Z (λ c3 h0=>?_) λ c3 h0=>?_))
 ·refine nx 4 rfl (mO rfl (sx Z Z Z Z Z Z Z (nx 7 rfl ?_)));obtain ⟨ZK,h1,Vp,hR0⟩:=bJ h0;refine kEx 0 (λ XB:Int×(List UInt8)=>ZK=.inl XB) (λ XB=>⟨[(0,.p (eS O')),(5,.ptr 5 0),(6,.p (eI XB.1))],[(5,[.bptr 70 2 5,.vec 101000 1 (5+1) (XB.2.map eU)])]⟩) (λ XB hv=>?_) ?_
  ·have h0:=Vp _ hv;refine nx 6 Z (oLs Z (nx 2 Z (fD [73] h0 Z (λ c62 h0=>?_) λ c62 h0=>?_)))
   ·exact J0
   refine nx 5 Z (bd h0 λ Xh e64 h0=>mO Z (bq [5] [101000] 103000 103001 (qM (aC.mk XB.2) _ e64) Z Z Z Z Z ⟨sr,trivial⟩ Z Z ⟨⟨_,Z,⟨sr,sr,trivial⟩⟩,trivial⟩ Z Z Z Z Z Z Z Z HE.e Z Z (nx 2 Z (fD [75] h0 Z (λ c65 h0=>?_) λ c65 h0=>?_))))
   ·exact J0
   exact nx 4 Z (bd h0 λ WI e67 h0=>mO Z (bq [5] [103000] 104000 104000 (fv (aC.mk Xh.2.If) _ e67) Z Z Z Z Z ⟨sr,trivial⟩ Z Z ⟨⟨_,Z,⟨sr,sr,trivial⟩⟩,trivial⟩ Z Z Z Z Z Z Z Z HE.e Z Z J0))
  refine lG (λ (XC:Int×(List UInt8))=>⟨[(0,.p (eS O')),(5,.ptr 5 0),(6,.p (eI XC.1))],[(5,[.bptr 70 2 5,.vec 101000 1 (5+1) (XC.2.map eU)])]⟩) (λ m (XC:Int×(List UInt8))=>ff n O' m XC.1 XC.2) Y (1,[]) h1 (dZ (oh ⟨er rfl,er rfl,er rfl,trivial⟩ ⟨⟨_,rfl,⟨sr,AV.sub_nilvec _ _ _,trivial⟩⟩,trivial⟩)) ?_;rintro m ⟨at31,XA⟩ h1;replace h1:ff n O' (m+1) at31 XA=some ZK:=h1;rw [ff] at h1;refine nx 2 rfl (bd h1 λ Y5 h2 h1=>kN Y5 (λ XS=>⟨[(0,.p (eS O')),(5,.ptr 5 0),(6,.p (eI at31)),(26,.p (eB XS))],[(5,[.bptr 70 2 5,.vec 101000 1 (5+1) (XA.map eU)])]⟩) ?_ ?_)
  ·refine nx 1 Z (fB [26] h1 Z (λ YV h1=>?_) λ YV h1=>?_)
   ·refine nx 7 rfl (oP h1 Z Z Z λ XF h1=>bd h1 λ Wl e39 h1=>oK (eo (sub O' at31 (O'.length:Int)) _ e39) rfl ⟨sr,trivial⟩ HE.e rfl (nx 7 rfl ?_));obtain ⟨o78,h2,hL1,hR1⟩:=bJ h1;refine kX (λ Zb:Int×Int=>o78=.inl Zb) (λ Zb=>⟨[(0,.p (eS O')),(5,.ptr 5 0),(6,.p (eI at31)),(7,.p (eK .i32 Zb.1)),(8,.p (eI Zb.2))],[(5,[.bptr 70 2 5,.vec 101000 1 (5+1) (XA.map eU)])]⟩) (λ Zb hv=>?_) ?_
    ·have h1:=hL1 _ hv;exact nx 4 Z (bd h1 λ Xc e56 h1=>mO Z (bq [5] [101000] 102000 102001 (oa (aC.mk XA) Zb.1 _ e56) Z Z Z Z Z ⟨sr,sr,trivial⟩ Z Z ⟨⟨_,Z,⟨sr,sr,trivial⟩⟩,trivial⟩ Z Z Z Z Z Z Z Z HE.e Z Z (nx 4 Z (oA h1 Z Z λ X3 h1=>nx 2 Z (eX (at31+Zb.2,Xc.2.2.If) h1 (aJ (aS 102000 101000 Z Z Z Z Z) (gE Z Z)))))))
    refine nx 5 Z (fD [35] h2 Z (λ c40 h2=>?_) λ c40 h2=>?_)
    ·exact dj
    refine nx 2 Z (bd h2 λ o80 h3 h2=>kN o80 (λ v81=>⟨[(0,.p (eS O')),(5,.ptr 5 0),(6,.p (eI at31)),(7,.p (eK .i32 Wl.1)),(8,.p (eI Wl.2)),(64,.p (eB v81))],[(5,[.bptr 70 2 5,.vec 101000 1 (5+1) (XA.map eU)])]⟩) ?_ ?_)
    ·exact dj
    refine nx 4 Z (fD [52,53] h3 Z (λ Zy h3=>?_) λ Zy h3=>?_)
    ·refine nx 4 Z (fD [55,56,57] h3 Z (λ c48 h3=>?_) λ c48 h3=>?_)
     ·exact EB
     refine nx 4 Z (fD [59,60,61] h3 Z (λ c49 h3=>?_) λ c49 h3=>?_)
     ·exact x4
     exact x4
    refine nx 8 Z (fD [59,60,61] h3 Z (λ Yn h3=>?_) λ Yn h3=>?_)
    ·exact x4
    exact x4
   exact aB
  exact dj
 exact J0
def lO (O':Bk):Option Bool :=(if (O'.length:Int)<=4096 then(fS O').bind λ r2=>some r2 else some false).bind λ t4=>some t4
instance IW (O':Bk):∀ (r:Bool),HP (lO O'=some r) Tryz.prog 205 [eS O'] (.p (eB r)):=by
 refine hP good Tryz.func205 Z Z λ r h0 _ w0=>?_;unfold lO at h0;exact mM
end Go.Ab.R06
end
section
namespace Go.Ab.R06
open Go.Ab Go.Ab.RB
variable {p:Prop}
theorem Kk (h:p:=by
 intro y hy;obtain ⟨j,hj,rfl⟩:=List.getElem_of_mem hy;rw [List.length_take] at hj;have hj2:j<(b::r).length:=by omega
 have hg:((b::r).getD j 0)=((b::r).take w)[j]'(by grind):=by
  grind
 rw [<- hg];obtain rfl|rfl|rfl|rfl:j=0\/j=1\/j=2\/j=3:=by omega
 ·grind
 ·grind
 ·grind
 grind):p:=h
theorem MJ (h:p:=by
 refine aH (λ h1=>aH (λ h2=>ac ?_) (λ h2=>aH (λ h3=>ac ?_) (λ h3=>ac (eqB ?_)))) (λ h1=>aH (λ h3=>ac ?_) (λ h3=>ac (eqB ?_)))
 ·symm; rw [decide_eq_true_eq]; left; grind
 ·grind
 ·grind [mC]
 ·symm; rw [decide_eq_true_eq]; right; grind
 grind [mC]):p:=h
theorem Mb (h:p:=by
 unfold strings_IndexByte;have:((b.toNat:Int).toNat.toUInt8)=b:=by simp
 rw [this]; rfl):p:=h
theorem oR (h:p:=by exact ap Z (ac Z)):p:=h
theorem Lf (h:p:=by exact ap O (am O (ac (by simp; omega)))):p:=h
theorem EW (h:p:=by exact ac (by simp; omega)):p:=h
theorem xP (h:p:=by exact am (fL O O) (ac Z)):p:=h
theorem gz (h:p:=by exact fL (by grind) (by grind)):p:=h
theorem AO (h:p:=by exact ar O (ac Z)):p:=h
section
variable {α β:Type} {P:α->Prop}
theorem ak {g:Nat->Nat->Option β}{k:Nat->Nat->β->Option α}(x:β)(h:Ev2 g (·=x))(hk:Ev2 (λ n m=>k n m x) P):Ev2 (λ n m=>(g n m).bind (k n m)) P :=
 aW (·=x) h λ y hy=>by grind
end
def kD (b:UInt8):Bool:=(decide (97<=b.toNat)&&decide (b.toNat<=122))||(decide (65<=b.toNat)&&decide (b.toNat<=90))||decide (b.toNat=95)
def hQ (b:UInt8):Bool:=decide (48<=b.toNat)&&decide (b.toNat<=57)
def idB (b:UInt8):Bool:=kD b||hQ b
def bW:Bk->Bool|[]=>false|b::r=>decide ((b::r).length<=64)&&kD b&&r.all idB
def tP (s:Bk)(i:Nat):Bool:=kD (s.getD i 0)||(decide (i≠0)&&hQ (s.getD i 0))
def pF (p:Nat->Bool):Nat->Nat->Bool|_,0=>true|i,k+1=>p i&&pF p (i+1) k
theorem tY (p:Nat->Bool):∀ (k i:Nat),pF p i k=true↔∀ j,i<=j->j<i+k->p j=true
 | 0,i=>by grind [pF]
 | k+1,i=>by
  rw [pF,py,tY p k (i+1)]
  grind
theorem or32:(List.range 256).all (λ n=>(decide ((97:Int)<=iOr .u8 (n:Int) 32)&&decide (iOr .u8 (n:Int) 32<=122))==((decide (97<=n)&&decide (n<=122))||(decide (65<=n)&&decide (n<=90))))=true:=by kernel_rfl
theorem Ji (b:UInt8):(97<=iOr .u8 ((b.toNat:Nat):Int) 32/\iOr .u8 ((b.toNat:Nat):Int) 32<=122)↔((97<=b.toNat/\b.toNat<=122)\/(65<=b.toNat/\b.toNat<=90)):=by
 have h:=sm.1 or32 b.toNat (List.mem_range.2 b.toNat_lt)
 grind
theorem rW (b:UInt8):kD b=true↔(97<=b.toNat/\b.toNat<=122)\/(65<=b.toNat/\b.toNat<=90)\/b.toNat=95:=by
 grind [kD]
theorem ns (b:UInt8):hQ b=true↔48<=b.toNat/\b.toNat<=57:=by simp [hQ]
theorem eqB {a b:Bool}(h:a=true↔b=true):a=b:=Bool.eq_iff_iff.2 h
theorem nH (s:Bk)(i:Nat):tP s i=true↔kD (s.getD i 0)=true\/(i≠0/\hQ (s.getD i 0)=true):=by simp [tP]
theorem mV (s:Bk):bW s=true↔s≠[]/\s.length<=64/\pF (tP s) 0 s.length=true:=by
 rw [tY]
 cases s with
 | nil=>simp [bW]
 | cons b r=>
  simp only [bW,py,decide_eq_true_eq,sm];constructor
  ·grind [nH,List.getElem_mem,idB]
  ·rintro ⟨_,h1,h2⟩;refine ⟨⟨h1,?_⟩,λ x hx=>?_⟩
   ·have:=(nH _ _).1 (h2 0 O G)
    grind
   grind [List.getElem_of_mem,nH,idB]
theorem C5 (s:Bk):bW s=true↔s≠[]/\s.length<=64/\kD (s.getD 0 0)=true/\pF (λ j=>idB (s.getD j 0)) 0 s.length=true:=by
 grind [mV,tY,nH,idB]
end Go.Ab.R06
namespace Go.Ab.R06
open Go.Ab Go.Ab.RB Go.Lib
def oZ (acc:Nat)(l:Bk):Nat:=l.foldl (λ a b=>a*10+(b.toNat-48)) acc
theorem xo (a:Nat):oZ a []=a:=rfl
theorem uX (a:Nat)(b:UInt8)(l:Bk):oZ a (b::l)=oZ (a*10+(b.toNat-48)) l:=by grind [oZ]
theorem Da (a:Nat)(l m:Bk):oZ a (l++m)=oZ (oZ a l) m:=by simp [oZ]
theorem IK (a:Nat)(l:Bk)(b:UInt8):oZ a (l++[b])=oZ a l*10+(b.toNat-48):=by rw [Da]; rfl
theorem FK:∀ (l:Bk) (a:Nat),a<=oZ a l
 | [],a=>Nat.le_of_eq (xo a).symm
 | b::r,a=>by
  rw [uX];have:=FK r (a*10+(b.toNat-48))
  grind
theorem AE {l:Bk}(h:l.all hQ=true){b:UInt8}(hb:b∈l):48<=b.toNat/\b.toNat<=57:=(ns b).1 (sm.1 h b hb)
theorem MC:∀ (l:Bk) (acc:Nat),l.all hQ=true->(oZ acc l<=18446744073709551615->parseUintM 18446744073709551615 acc l=.ok (oZ acc l))/\(18446744073709551615<oZ acc l->acc<=18446744073709551615->parseUintM 18446744073709551615 acc l=.range)
 | [],acc,_=>by
  rw [xo];exact ⟨λ _=>rfl,λ h h'=>by omega⟩
 | b::r,acc,h=>by
  have hb:=AE h th;have hr:r.all hQ=true:=by grind
  rw [parseUintM,if_pos hb,uX];have hg:=FK r (acc*10+(b.toNat-48));have ih:=MC r (acc*10+(b.toNat-48)) hr
  grind
theorem Ts (l:Bk)(Vs:l≠[])(h:l.all hQ=true):parseUintB 64 l=if oZ 0 l<=18446744073709551615 then .ok (oZ 0 l) else .range:=by
 grind [parseUintB,MC]
def IG (l:Bk):Bool:=!l.isEmpty&&l.all hQ&&(decide (l.getD 0 0≠48)||decide (l.length=1))
theorem xN (l:Bk):IG l=true↔l≠[]/\l.all hQ=true/\(l.getD 0 0≠48\/l.length=1):=by
 grind [IG]
def wv (s:Bk):Bool:=decide (0<s.length)&&decide (s.getD 0 0=45)
def digits (s:Bk):Bk:=if wv s=true then s.drop 1 else s
def x9 (s:Bk):Bool:=!(wv s&&decide (s.drop 1=[48]))&&IG (digits s)
def uu (s:Bk):Int:=if wv s=true then -(oZ 0 (digits s):Int) else (oZ 0 (digits s):Int)
def kO:Int:=9007199254740992
def wn (s:Bk):Int×Int:=if x9 s=true then (if -kO<=uu s/\uu s<=kO then (uu s,0) else (0,5)) else (0,2)
theorem MP (s:Bk)(hs:s.length<=1000000000):∀ (k i:Nat),i+k=s.length->Ev2 (λ _ m=>cG s m (i:Int)) (·=if pF (λ j=>hQ (s.getD j 0)) i k then .inl () else .inr false):=by
 intro k
 induction k with
 | zero=>
  intro i hi;refine aM ?_;simp only [cG];refine ar O (ac rfl)
 | succ k ih=>
  intro i hi;refine aM ?_;simp only [cG];refine ap O ?_;have hb:byt s i=((s.getD i 0).toNat:Int):=f0 s i;rw [hb];refine ak (!hQ (s.getD i 0)) ?_ ?_
  ·have h:=ns (s.getD i 0);generalize s.getD i 0=b at h ⊢;refine am O (aH (λ h1=>ac ?_) (λ h1=>am O (ac ?_)))
   ·grind
   grind
  ·cases hk:hQ (s.getD i 0) with
   | false=>simp_all [ac,pF]
   | true=>
    refine ar G (am aV ?_);have:=ih (i+1) O
    grind [pF]
theorem Ke (s:Bk)(p:UInt8->Bool):pF (λ j=>p (s.getD j 0)) 0 s.length=s.all p:=by
 grind [tY,List.getElem_of_mem]
theorem zG (s:Bk)(hs:s.length<=1000000000):Ev2 (λ n _=>iV n s) (·=x9 s):=by
 simp only [iV];have hb:byt s 0=((s.getD 0 0).toNat:Int):=f0 s 0;have hneg:wv s=true↔0<s.length/\s.getD 0 0=45:=by simp [wv]
 have h45:(s.getD 0 0).toNat=45↔s.getD 0 0=45:=⟨λ h=>UInt8.toNat_inj.1 h,λ h=>by rw [h]; rfl⟩
 have body:∀ t:Bk,t.length<=1000000000->Ev2 (λ n m=>jn (cG t n 0) λ WA=>
   ((if t=([]:Bk) then some false else ck ((0:Int)<=0/\0<(t.length:Int))<|if byt t 0=48 then some (decide ((t.length:Int)=1)) else some true):Option Bool).bind λ Zf=>some Zf) (·=IG t):=by
  intro t ht;have l:=MP t ht t.length 0 O;rw [Ke] at l;have hc:=xN t;have hb':byt t 0=((t.getD 0 0).toNat:Int):=f0 t 0;have h48:(t.getD 0 0).toNat=48↔t.getD 0 0=48:=⟨λ h=>UInt8.toNat_inj.1 h,λ h=>by rw [h]; rfl⟩
  cases ha:t.all hQ with
  | false=>
   rw [ha] at l hc;refine kt false (bc l) (eqB ?_)
   grind
  | true=>
   rw [ha] at l hc;refine ez () (bc l) (aW (·=IG t) ?_ (λ x hx=>ac hx));refine aH (λ h=>ac (eqB ?_)) (λ h=>am ?_ ?_)
   ·grind
   ·grind
   ·rw [hb'];refine aH (λ h1=>ac (eqB ?_)) (λ h1=>ac (eqB ?_))
    ·grind
    grind
 refine gh (ak (wv s) ?_ ?_)
 ·refine aH (λ h=>am O (ac (eqB ?_))) (λ h=>ac (eqB ?_))
  ·grind
  grind
 ·rw [mw];show Ev2 (λ n m=>if wv s=true then ck _ (if s.drop 1=[48] then some (Sum.inr false) else some (Sum.inl (s.drop 1))) else some (Sum.inl s)) _;refine aH (λ h=>am ?_ (aH (λ h1=>ac ?_) (λ h1=>ac ?_))) (λ h=>ac ?_)
  ·grind
  ·grind [x9]
  ·have e:x9 s=IG (s.drop 1):=by grind [x9,digits]
   rw [e];exact body _ jW
  grind [x9,digits]
theorem AJ (v:Int):j9 v=some (decide (-kO<=v/\v<=kO)):=by
 simp only [j9];by_cases h:(-9007199254740992:Int)<=v
 ·simp_all [kO]
 ·rw [if_neg h,rg];refine congrArg some (eqB ?_)
  grind [kO]
theorem BE {s:Bk}(h:x9 s=true):digits s≠[]/\(digits s).all hQ=true:=by
 grind [x9,xN]
theorem Sg (s:Bk)(h:x9 s=true):parseIntB 64 s=if (if wv s=true then 9223372036854775808<oZ 0 (digits s) else 9223372036854775808<=oZ 0 (digits s)) then .range else .ok (uu s):=by
 obtain ⟨h1,h2⟩:=BE h
 cases s with
 | nil=>grind [digits]
 | cons c r=>
  have e45:c.toNat=45↔c=45:=⟨λ h=>UInt8.toNat_inj.1 h,λ h=>by rw [h]; rfl⟩
  grind [wv,digits,AE,Ts,parseIntB,uu]
theorem C6 (s:Bk)(hs:s.length<=1000000000):Ev2 (λ n _=>mn n s) (·=wn s):=by
 simp only [mn];refine ak _ (zG s hs) ?_
 cases hc:x9 s with
 | false=>simp_all [ac,wn]
 | true=>
  refine ar G ?_
  have hp:km s 10 64=some (match parseIntB 64 s with|.ok v=>(v,false)|.range=>(intSat 64 s,true)|_=>(0,true)):=by
   grind [km,cM]
  rw [Sg s hc] at hp;have e:wn s=(if -kO<=uu s/\uu s<=kO then (uu s,0) else (0,5)):=by simp [wn,hc]
  rw [e];by_cases hr:(if wv s=true then 9223372036854775808<oZ 0 (digits s) else 9223372036854775808<=oZ 0 (digits s))
  ·rw [if_pos hr] at hp;refine ak _ (aA hp rfl) ?_;refine ak true oR (ap rfl (ac ?_))
   grind [uu,kO]
  ·rw [if_neg hr] at hp;refine ak _ (aA hp rfl) ?_;refine ak (!decide (-kO<=uu s/\uu s<=kO)) ?_ ?_
   ·simp_all [AJ,ac]
   ·by_cases q:-kO<=uu s/\uu s<=kO
    ·simp_all [ac]
    ·rw [if_neg q];exact ap (by grind) (ac rfl)
theorem Hd:∀ (n u:Nat),u<n->oZ 0 (decDigits u)=u/\(decDigits u).all hQ=true/\decDigits u≠[]/\((decDigits u).getD 0 0≠48\/(decDigits u).length=1)/\(1<=u->(decDigits u).getD 0 0≠48):=by
 intro n
 induction n with
 | zero=>grind
 | succ n ih=>
  intro u hu
  have hdig:∀ k,k<10->(UInt8.ofNat (48+k)).toNat=48+k:=λ k hk=>by
   rw [UInt8.toNat_ofNat']; omega
  rw [decDigits];by_cases h:u<10
  ·rw [dif_pos h];have:=hdig u h;refine ⟨by grind [uX,xo],by grind [ns],by simp,.inr rfl,λ h1=>?_⟩;intro q;have q':(UInt8.ofNat (48+u))=48:=q
   simp_all
  ·rw [dif_neg h];obtain ⟨a1,a2,a3,a4,a5⟩:=ih (u / 10) O
   grind [IK,ns]
theorem IE (v:Int)(h0:0<=v)(h1:v<=kO):wn (itoa v)=(v,0):=by
 obtain ⟨u,rfl⟩:∃ u:Nat,v=u:=⟨v.toNat,by omega⟩
 have e:itoa (u:Int)=decDigits u:=by grind [itoa]
 obtain ⟨a1,a2,a3,a4,a5⟩:=Hd (u+1) u O
 have hn:wv (decDigits u)=false:=by
  rw [<- Bool.not_eq_true];intro q;simp only [wv,py,decide_eq_true_eq] at q
  have hm:(decDigits u).getD 0 0∈decDigits u:=by
   grind
  have:=AE a2 hm;rw [q.2] at this
  grind
 grind [digits,x9,xN,uu,wn]
end Go.Ab.R06
namespace Go.Ab.R06
open Go.Ab Go.Ab.RB Go.Lib
theorem C3 (x:Int):IntKind.wrap .u8 x=x%256:=by simp [IntKind.wrap,IntKind.bits,IntKind.signed]
theorem wrap32 (x:Int):IntKind.wrap .u32 x=x%4294967296:=by simp [IntKind.wrap,IntKind.bits,IntKind.signed]
theorem shr6 (x:Int):jb .i32 x 6=x / 64:=by
 show x.fdiv (2^6)=x / 64
 grind
theorem Ul (x:Int):jb .i32 x 12=x / 4096:=by
 show x.fdiv (2^12)=x / 4096
 grind
theorem Ui (x:Int):jb .i32 x 18=x / 262144:=by
 show x.fdiv (2^18)=x / 262144
 grind
theorem t63:(List.range 256).all (λ n=>cV .u8 (n:Int) 63==((n%64:Nat):Int))=true:=by kernel_rfl
theorem t128:(List.range 64).all (λ n=>iOr .u8 128 (n:Int)==((128+n:Nat):Int))=true:=by kernel_rfl
theorem t192:(List.range 32).all (λ n=>iOr .u8 192 (n:Int)==((192+n:Nat):Int))=true:=by kernel_rfl
theorem t224:(List.range 16).all (λ n=>iOr .u8 224 (n:Int)==((224+n:Nat):Int))=true:=by kernel_rfl
theorem t240:(List.range 8).all (λ n=>iOr .u8 240 (n:Int)==((240+n:Nat):Int))=true:=by kernel_rfl
theorem tab {f g:Nat->Int}{m:Nat}(h:(List.range m).all (λ n=>f n==g n)=true)(n:Nat)(hn:n<m):f n=g n:=(by grind)
theorem Lx (x:Int):cV .u8 (IntKind.wrap .u8 x) 63=x%64:=by
 rw [C3];obtain ⟨n,hn⟩:∃ n:Nat,x%256=n:=⟨(x%256).toNat,by omega⟩
 grind [t63]
theorem Mi {x:Int}(h0:0<=x)(h1:x<64):iOr .u8 128 x=128+x:=by
 obtain ⟨n,rfl⟩:∃ n:Nat,x=n:=⟨x.toNat,by omega⟩
 grind [t128]
theorem UE {x:Int}(h0:0<=x)(h1:x<32):iOr .u8 192 x=192+x:=by
 obtain ⟨n,rfl⟩:∃ n:Nat,x=n:=⟨x.toNat,by omega⟩
 grind [t192]
theorem UL {x:Int}(h0:0<=x)(h1:x<16):iOr .u8 224 x=224+x:=by
 obtain ⟨n,rfl⟩:∃ n:Nat,x=n:=⟨x.toNat,by omega⟩
 grind [t224]
theorem Un {x:Int}(h0:0<=x)(h1:x<8):iOr .u8 240 x=240+x:=by
 obtain ⟨n,rfl⟩:∃ n:Nat,x=n:=⟨x.toNat,by omega⟩
 grind [t240]
def ju (r:Int):Prop:=(0<=r/\r<55296)\/(57343<r/\r<=1114111)
theorem CY (p:Bk)(r:Int)(h:ju r)(hp:p.length<=100000000000):ew p r=some (p++encodeRune r):=by
 have h0:0<=r/\r<=1114111:=by grind [ju]
 have hw:IntKind.wrap .u32 r=r:=by rw [wrap32]; omega
 unfold ew;rw [hw];by_cases h1:r<=127
 ·have hw8:IntKind.wrap .u8 r=r:=by rw [C3]; omega
  grind [cM,encodeRune,encodeRuneZ,u8]
 rw [if_neg h1];unfold dD;rw [hw,Lx,shr6,Ul,Ui,Lx,Lx];have o1:iOr .u8 128 (r%64)=128+r%64:=Mi O O;have o2:iOr .u8 128 (r / 64%64)=128+r / 64%64:=Mi O O;have o3:iOr .u8 128 (r / 4096%64)=128+r / 4096%64:=Mi O O;rw [o1,o2,o3];have n1:¬ (0<=r/\r<=127):=by omega
 by_cases h2:r<=2047
 ·grind [u8,C3,UE,cM,encodeRune,encodeRuneZ]
 rw [if_neg h2];have n2:¬ (128<=r/\r<=2047):=by omega
 by_cases h3:r<55296\/(57343<r/\r<=65535)
 ·have hw8:IntKind.wrap .u8 (r / 4096)=r / 4096:=by rw [C3]; omega
  grind [UL,cM,encodeRune,encodeRuneZ,u8]
 ·have h4:65535<r:=by grind [ju]
  have hw8:IntKind.wrap .u8 (r / 262144)=r / 262144:=by rw [C3]; omega
  grind [Un,cM,encodeRune,encodeRuneZ,u8]
theorem jt (l:Bk)(h:l≠[]):decodeGo (str l)=decodeL l:=by
 unfold decodeGo;rw [if_neg]
 ·rfl
 grind [nB]
theorem qX (r:Int)(h:ju r):1<=(encodeRune r).length/\(encodeRune r).length<=4:=by
 grind [encodeRune,encodeRuneZ]
theorem wO (r:Int)(h:ju r)(t:Bk):decodeL (encodeRune r++t)=(r.toNat,(encodeRune r).length):=by
 have h0:0<=r/\r<=1114111:=by grind [ju]
 have hb:∀ x:Int,0<=x->x<256->(x.toNat.toUInt8).toNat=x.toNat:=λ x a b=>by
  simp_all
 rw [decodeL_N];by_cases h1:r<=127
 ·have e:encodeRune r=[r.toNat.toUInt8]:=by grind [encodeRune,encodeRuneZ]
  rw [e]
  grind [decodeN]
 have n1:¬ (0<=r/\r<=127):=by omega
 by_cases h2:r<=2047
 ·have e:encodeRune r=[(192+r / 64).toNat.toUInt8,(128+r%64).toNat.toUInt8]:=by
   grind [encodeRune,encodeRuneZ]
  rw [e];have b0:=hb (192+r / 64) O O;have b1:=hb (128+r%64) O O;simp only [mv,List.getD_cons_zero,List.getD_cons_succ,b0,b1,aq,rd];unfold decodeN;rw [if_neg O,if_pos O,if_pos O]
  grind
 have n2:¬ (128<=r/\r<=2047):=by omega
 by_cases h3:r<55296\/(57343<r/\r<=65535)
 ·have e:encodeRune r=[(224+r / 4096).toNat.toUInt8,(128+r / 64%64).toNat.toUInt8,(128+r%64).toNat.toUInt8]:=by
   grind [encodeRune,encodeRuneZ]
  rw [e];have b0:=hb (224+r / 4096) O O;have b1:=hb (128+r / 64%64) O O;have b2:=hb (128+r%64) O O;simp only [mv,List.getD_cons_zero,List.getD_cons_succ,b0,b1,b2,aq,rd];unfold decodeN;rw [if_neg O,if_neg O,if_pos O,if_pos O];refine Prod.ext ?_ rfl;omega
 ·have h4:65535<r:=by grind [ju]
  have e:encodeRune r=[(240+r / 262144).toNat.toUInt8,(128+r / 4096%64).toNat.toUInt8,(128+r / 64%64).toNat.toUInt8,(128+r%64).toNat.toUInt8]:=by
   grind [encodeRune,encodeRuneZ]
  rw [e];have b0:=hb (240+r / 262144) O O;have b1:=hb (128+r / 4096%64) O O;have b2:=hb (128+r / 64%64) O O;have b3:=hb (128+r%64) O O;simp only [mv,List.getD_cons_zero,List.getD_cons_succ,b0,b1,b2,b3,aq,rd];unfold decodeN;rw [if_neg O,if_neg O,if_neg O,if_pos O,if_pos O];refine Prod.ext ?_ rfl;show _=r.toNat;simp only; omega
theorem yY (r:Int)(h:ju r)(t:Bk):validD (encodeRune r++t)=validD t:=by
 grind [encodeRune,List.append_eq_nil_iff,validD_step,wO,encodeRuneZ]
theorem ja (l:Bk)(h:l≠[]):1<=(decodeL l).2/\(decodeL l).2<=l.length/\(¬ ((decodeL l).1=65533/\(decodeL l).2=1)->ju ((decodeL l).1:Int)/\encodeRune ((decodeL l).1:Int)=l.take (decodeL l).2):=by
 grind [Pa,UInt8.toNat_lt,decodeL_N,encode_decode,ju]
theorem tD (l:Bk)(h:l≠[]):validD l=true↔¬ ((decodeL l).1=65533/\(decodeL l).2=1)/\validD (l.drop (decodeL l).2)=true:=by
 grind [validD_step]
end Go.Ab.R06
namespace Go.Ab.R06
open Go.Ab Go.Ab.RB Go.Lib
theorem Af (f x:Bk)(h:f.length+x.length<=100000000000):aR (aC.mk f) x=some ((x.length:Int),false,aC.mk (f++x)):=by
 grind [aR,ct,cM]
theorem xr (f:Bk)(b:UInt8)(h:f.length<=100000000000):bE (aC.mk f) (b.toNat:Int)=some (false,aC.mk (f++[b])):=by
 have:=b.toNat_lt
 grind [bE,ct,cM,Te]
theorem Ry (f:Bk)(r:Int)(hr:ju r)(h:f.length<=10000000000):dY (aC.mk f) r=some (((encodeRune r).length:Int),false,aC.mk (f++encodeRune r)):=by
 grind [qX,dY,ct,CY,List.length_append,cM,fL]
theorem QR (f:Bk)(h:f.length<=1000000000000):db (aC.mk f)=some (f,aC.mk f):=by
 grind [db,cM]
def d8 (b:UInt8):Bk :=if b.toNat=10 then [92,110] else if b.toNat=13 then [92,114] else if b.toNat=9 then [92,116] else if b.toNat=34\/b.toNat=92 then [92,b] else if b.toNat<32\/b.toNat=127 then [92,117,123]++eg b.toNat++[125] else [b]
def iL (s:Bk):Bk:=34::(s.flatMap d8++[34])
theorem C1 {b:UInt8}(h:b.toNat=10):d8 b=[92,110]:=by grind [d8]
theorem Ci {b:UInt8}(h:b.toNat=13):d8 b=[92,114]:=by grind [d8]
theorem BB {b:UInt8}(h:b.toNat=9):d8 b=[92,116]:=by grind [d8]
theorem B6 {b:UInt8}(h:b.toNat=34\/b.toNat=92):d8 b=[92,b]:=by grind [d8]
theorem Bw {b:UInt8}(h1:b.toNat≠10)(h2:b.toNat≠13)(h3:b.toNat≠9)(h:b.toNat<32\/b.toNat=127):d8 b=[92,117,123]++eg b.toNat++[125]:=by
 grind [d8]
theorem yc {b:UInt8}(h1:b.toNat≠34)(h2:b.toNat≠92)(h:¬ (b.toNat<32\/b.toNat=127)):d8 b=[b]:=by
 grind [d8]
theorem wh (n:Nat):1<=(eg n).length/\(eg n).length<=2:=by
 grind [eg]
theorem wQ (b:UInt8):1<=(d8 b).length/\(d8 b).length<=6:=by
 grind [wh,d8]
theorem jQ (s:Bk):s.length<=(s.flatMap d8).length/\(s.flatMap d8).length<=6*s.length:=by
 induction s with
 | nil=>simp
 | cons b r ih=>grind [wQ]
theorem R5 (s:Bk):lO s=some (decide (s.length<=4096)&&validD s):=by
 grind [lO,fS,cM]
end Go.Ab.R06
namespace Go.Ab.R06
open Go.Ab Go.Ab.RB Go.Lib
def tR (b:UInt8):Option Nat:=if 48<=b.toNat/\b.toNat<=57 then some (b.toNat-48) else if 97<=b.toNat/\b.toNat<=102 then some (b.toNat-87) else none
def K9:Bk:=[48,49,50,51,52,53,54,55,56,57,97,98,99,100,101,102]
theorem hexT:(List.range 256).all (λ n=>indexByte K9 (UInt8.ofNat n)==(match tR (UInt8.ofNat n) with|some d=>(d:Int)|none=>-1))=true:=by kernel_rfl
theorem y9 (b:UInt8):indexByte K9 b=match tR b with|some d=>(d:Int)|none=>-1:=by
 have:=eq_of_beq (sm.1 hexT b.toNat (List.mem_range.2 b.toNat_lt))
 simp_all
theorem Pq {b:UInt8}{d:Nat}(h:tR b=some d):d<16:=by
 grind [tR]
def cB:Nat->Bk->Nat->Nat×Nat
 | 0,_,a=>(a,0)
 | _+1,[],a=>(a,0)
 | k+1,b::r,a=>match tR b with
  | some d=>((cB k r (16*a+d)).1,(cB k r (16*a+d)).2+1)
  | none=>(a,0)
theorem vh:∀ (k:Nat) (l:Bk) (a:Nat),(cB k l a).2<=k/\(cB k l a).2<=l.length
 | 0,_,_=>⟨bt _,ph _⟩
 | _+1,[],_=>⟨ph _,bt _⟩
 | k+1,b::r,a=>by
  unfold cB
  cases tR b with
  | none=>grind
  | some d=>have:=vh k r (16*a+d); grind
theorem sJ (n:Int)(h0:0<=n)(h1:n<2147483648):IntKind.wrap .i32 n=n:=by
 grind [IntKind.wrap,IntKind.bits]
theorem SI (s:Bk)(hs:s.length<=1000000000):∀ (k i a:Nat),i+k=6->i<=s.length->a<16^i->Ev2 (λ _ m=>cD s m (a:Int) (i:Int))
  (·=(((cB k (s.drop i) a).1:Int),((i+(cB k (s.drop i) a).2:Nat):Int))):=by
 intro k
 induction k with
 | zero=>
  simp_all [aM,cD,ac,cB]
 | succ k ih=>
  intro i a hi hl ha;refine aM ?_;simp only [cD];by_cases h:i<s.length
  ·refine ak true (ap O EW) (ap Z (am O ?_));have hb:byt s i=((s.getD i 0).toNat:Int):=f0 s i;rw [hb]
   have hd:s.drop i=s.getD i 0::s.drop (i+1):=by
    simp_all
   rw [hd];generalize s.getD i 0=b
   have hx:strings_IndexByte ([48,49,50,51,52,53,54,55,56,57,97,98,99,100,101,102]:Bk) (b.toNat:Int)=some (indexByte K9 b):=by
    exact Mb
   refine ak _ (aA hx Z) ?_;rw [y9];unfold cB
   cases hh:tR b with
   | none=>simp_all [ac]
   | some d=>
    have hlt:=Pq hh;have hp:16^i<=16^5:=Nat.pow_le_pow_right (by decide) O;have hp5:(16:Nat)^5=1048576:=rfl;refine ar G (am aV ?_);have e1:IntKind.wrap .i32 (16*(a:Int))=16*(a:Int):=sJ _ O O;have e2:IntKind.wrap .i32 (d:Int)=(d:Int):=sJ _ O O
    have e3:IntKind.wrap .i32 (16*(a:Int)+(d:Int))=((16*a+d:Nat):Int):=by
     grind [sJ]
    rw [e1,e2,e3];have:=ih (i+1) (16*a+d) O O  (by grind)
    grind
  ·refine ak false AO (ar G (ac ?_))
   grind [cB]
def jC (s:Bk):Int×Int×Int :=
 let h:=cB 6 s 0
 if h.2=s.length then (0,0,40)
 else if s.getD h.2 0≠125\/h.2=0\/(1<h.2/\s.getD 0 0=48)\/validRune (h.1:Int)=false then (0,0,2)
 else ((h.1:Int),((h.2+1:Nat):Int),0)
theorem Cd {b:UInt8}{n:Nat}(hn:n<256):b.toNat=n↔b=UInt8.ofNat n:=by
 grind [UInt8.toNat_inj,UInt8.toNat_ofNat']
theorem Ae {s:Bk}{v c:Nat}(h:cB 6 s 0=(v,c)):jC s=if c=s.length then (0,0,40) else if s.getD c 0≠125\/c=0\/(1<c/\s.getD 0 0=48)\/validRune (v:Int)=false then (0,0,2) else ((v:Int),((c+1:Nat):Int),0):=by
 grind [jC]
theorem P6 (s:Bk)(hs:s.length<=1000000000):Ev2 (λ n _=>fF n s) (·=jC s):=by
 simp only [fF];have l:=SI s hs 6 0 0 rfl (ph _) (by decide);rw [List.drop_zero,Nat.zero_add] at l;have hle:=vh 6 s 0;refine ak _ (bc l) ?_;obtain ⟨v,c,hh⟩:∃ v c,cB 6 s 0=(v,c):=⟨_,_,rfl⟩
 have hP:=Ae hh;rw [hh] at hle ⊢;simp only at hle ⊢;refine aH (λ h=>ac ?_) (λ h=>?_)
 ·grind
 rw [if_neg (show ¬ c=s.length by omega)] at hP;have hb:byt s c=((s.getD c 0).toNat:Int):=f0 s c;have hb0:byt s 0=((s.getD 0 0).toNat:Int):=f0 s 0;have h125:(s.getD c 0).toNat=125↔s.getD c 0=125:=Cd (by decide);have h48:(s.getD 0 0).toNat=48↔s.getD 0 0=48:=Cd (by decide);have hv:cY (v:Int)=some (validRune (v:Int)):=rfl
 have key:Ev2 (λ _ _=>(ck ((0:Int)<=(c:Int)/\(c:Int)<(s.length:Int)) <|
  if byt s c=125 then
   if (c:Int)=0 then some true
   else
   if 1<(c:Int) then
    ck ((0:Int)<=0/\0<(s.length:Int)) <|
    if byt s 0=48 then some true
    else (cY (v:Int)).bind λ WU=>some (!WU)
   else (cY (v:Int)).bind λ Vd=>some (!Vd)
  else some true:Option Bool)) (·=decide (s.getD c 0≠125\/c=0\/(1<c/\s.getD 0 0=48)\/validRune (v:Int)=false)):=by
  refine am O ?_;rw [hb,hb0];refine aH (λ h1=>aH (λ h2=>ac ?_) (λ h2=>aH (λ h3=>am O (aH (λ h4=>ac ?_) (λ h4=>?_))) (λ h3=>?_))) (λ h1=>ac ?_)
  ·grind
  ·grind
  ·have q1:¬ s.getD c 0≠125:=λ q=>q (h125.1 O);have q2:¬ (1<c/\s.getD 0 0=48):=λ q=>h4 (by grind);refine ak _ (aA hv Z) (ac (eqB ?_))
   grind
  ·have q1:¬ s.getD c 0≠125:=λ q=>q (h125.1 O);refine ak _ (aA hv Z) (ac (eqB ?_))
   grind
  grind
 refine ak _ key ?_;refine aH (λ h1=>ac ?_) (λ h1=>am aV (ac ?_))
 ·grind
 grind
def em (s:Bk):Int×Int×Int:=match s with
 | []=>(0,0,40)
 | b::r=>if b.toNat=110 then (10,1,0) else if b.toNat=114 then (13,1,0) else if b.toNat=116 then (9,1,0)
  else if b.toNat=34\/b.toNat=92 then ((b.toNat:Int),1,0)
  else if b.toNat=117 then (match r with
   | []=>(0,0,40)
   | c::t=>if c.toNat=123 then ((jC t).1,(jC t).2.1+2,(jC t).2.2) else (0,0,2))
  else (0,0,2)
theorem oD (b:UInt8)(r:Bk):em (b::r)=if b.toNat=110 then (10,1,0) else if b.toNat=114 then (13,1,0) else if b.toNat=116 then (9,1,0)
  else if b.toNat=34\/b.toNat=92 then ((b.toNat:Int),1,0)
  else if b.toNat=117 then (match r with
   | []=>(0,0,40)
   | c::t=>if c.toNat=123 then ((jC t).1,(jC t).2.1+2,(jC t).2.2) else (0,0,2))
  else (0,0,2):=rfl
theorem FU (s:Bk):0<=(jC s).2.1/\(jC s).2.1<=s.length/\((jC s).2.2=0->ju (jC s).1)/\0<=(jC s).2.2:=by
 grind [jC,validRune,ju]
theorem ua (s:Bk):0<=(em s).2.1/\(em s).2.1<=s.length+1/\((em s).2.2=0->ju (em s).1/\(em s).2.1<=s.length)/\0<=(em s).2.2:=by
 unfold em;split
 ·simp
 ·rename_i b r;have hb:=b.toNat_lt;split
  ·grind [ju]
  split
  ·grind [ju]
  split
  ·grind [ju]
  split
  ·grind [ju]
  split
  ·split
   ·simp
   ·rename_i c t;have:=FU t
    grind
  grind
theorem QL (s:Bk)(hs:s.length<=1000000000):Ev2 (λ n _=>kB n s) (·=em s):=by
 simp only [kB]
 cases s with
 | nil=>exact ap Z (ac Z)
 | cons b r=>
  have hl:((b::r).length:Int)=(r.length:Int)+1:=by simp
  refine ar G (am O ?_);have hb:byt (b::r) 0=(b.toNat:Int):=rfl;have hbl:=b.toNat_lt;rw [hb];have hP:=oD b r;refine aH (λ h=>ac (by grind)) (λ h1=>?_);rw [if_neg (show ¬ b.toNat=110 by omega)] at hP;refine aH (λ h=>ac (by grind)) (λ h2=>?_);rw [if_neg (show ¬ b.toNat=114 by omega)] at hP;refine aH (λ h=>ac (by grind)) (λ h3=>?_);rw [if_neg (show ¬ b.toNat=116 by omega)] at hP;refine ak (decide (b.toNat=34\/b.toNat=92)) ?_ ?_
  ·by_cases h:b.toNat=34
   ·simp_all [ac]
   ·exact ar O (ac (eqB (by grind)))
  by_cases h4:b.toNat=34\/b.toNat=92
  ·rw [if_pos h4] at hP;rw [hP];refine ap (by simp [h4]) (am O (ac ?_))
   grind [sJ]
  rw [if_neg h4] at hP;refine ar (by grind) ?_;refine aH (λ h5=>?_) (λ h5=>ac (by grind));rw [if_pos (show b.toNat=117 by omega)] at hP;rw [hP]
  cases r with
  | nil=>simp_all [ac]
  | cons c t=>
   have hl2:((b::c::t).length:Int)=(t.length:Int)+2:=by grind
   refine ar O (am O ?_);have hc:byt (b::c::t) 1=(c.toNat:Int):=rfl;rw [hc];refine aH (λ h6=>am O ?_) (λ h6=>ac (by grind));have e6:(if c.toNat=123 then ((jC t).1,(jC t).2.1+2,(jC t).2.2) else ((0,0,2):Int×Int×Int))=((jC t).1,(jC t).2.1+2,(jC t).2.2):=if_pos O;show Ev2 _ (·=if c.toNat=123 then ((jC t).1,(jC t).2.1+2,(jC t).2.2) else ((0,0,2):Int×Int×Int));rw [e6,mw];show Ev2 (λ n m=>(fF n t).bind _) _;have hle:=FU t;have htl:t.length<=1000000000:=by grind
   exact ak _ (P6 t htl) xP
end Go.Ab.R06
namespace Go.Ab.R06
open Go.Ab Go.Ab.RB Go.Lib
def mC (c:Nat×Nat):Prop:=(c.1=65533/\c.2=1)\/c.1<32\/c.1=127
instance (c:Nat×Nat):Decidable (mC c):=inferInstanceAs (Decidable (_\/_))
def rR:Nat->Bk->Nat->Bk->(Int×Bk)⊕(Bk×Int×Int)|0,_,at',acc=>.inl ((at':Int),acc)|_+1,[],at',acc=>.inl ((at':Int),acc)|n+1,b::r,at',acc=>if b.toNat=34 then .inl ((at':Int),acc)else if (decodeL (b::r)).1=92 then(if (em r).2.2=0 then rR n (r.drop (em r).2.1.toNat) (at'+((em r).2.1.toNat+1)) (acc++encodeRune (em r).1) else .inr ([],0,(em r).2.2))else if mC (decodeL (b::r)) then .inr ([],0,2)else rR n ((b::r).drop (decodeL (b::r)).2) (at'+(decodeL (b::r)).2) (acc++encodeRune ((decodeL (b::r)).1:Int))
theorem lI (n:Nat)(b:UInt8)(r:Bk)(at':Nat)(acc:Bk):rR (n+1) (b::r) at' acc=if b.toNat=34 then .inl ((at':Int),acc)
  else if (decodeL (b::r)).1=92 then
   (if (em r).2.2=0 then rR n (r.drop (em r).2.1.toNat) (at'+((em r).2.1.toNat+1)) (acc++encodeRune (em r).1) else .inr ([],0,(em r).2.2))
  else if mC (decodeL (b::r)) then .inr ([],0,2)
  else rR n ((b::r).drop (decodeL (b::r)).2) (at'+(decodeL (b::r)).2) (acc++encodeRune ((decodeL (b::r)).1:Int)):=by rw [rR]
theorem Td (s:Bk)(hs:s.length<=1000000000):∀ (k:Nat) (l:Bk) (i:Nat) (f:Bk),l.length<k->s.drop i=l->i+l.length=s.length->f.length<=4*i->Ev2 (λ n m=>ff n s m (i:Int) f) (·=rR k l i f):=by
 intro k
 induction k with
 | zero=>grind
 | succ k ih=>
  intro l i f hk hl hi hf;refine aM ?_;simp only [ff]
  cases l with
  | nil=>
   simp_all [ac,rR]
  | cons b r=>
   have hil:i<s.length:=by grind
   have hb:byt s i=(b.toNat:Int):=by
    grind [f0,List.drop_eq_getElem_cons]
   have hr:s.drop (i+1)=r:=by
    grind [List.drop_eq_getElem_cons]
   have hlr:r.length+i+1=s.length:=by grind
   have hU:=lI k b r i f;rw [hb];by_cases h34:b.toNat=34
   ·rw [if_pos h34] at hU;exact ak false Lf (ar G (ac hU.symm))
   rw [if_neg h34] at hU;refine ak true Lf (ap rfl (am O ?_));rw [mw,Int.toNat_natCast,hl]
   have hd:bo (b::r)=some (((decodeL (b::r)).1:Int),((decodeL (b::r)).2:Int)):=by
    grind [bo,jt]
   refine ak _ (aA hd rfl) ?_;have hdf:=ja (b::r) G;generalize hD:decodeL (b::r)=D at hU hdf ⊢;obtain ⟨c,w⟩:=D;simp only at hU hdf ⊢;by_cases h92:c=92
   ·rw [if_pos h92] at hU;have hes:=ua r;have U4:=QL r O
    have sub1:sub s ((i:Int)+1) (s.length:Int)=r:=by
     simp_all [mw]
    generalize em r=E at hU hes U4;obtain ⟨x,y,z⟩:=E;simp only at hU hes U4;by_cases hz:z=0
    ·rw [if_pos hz] at hU;refine gh (ap O (am aV (am O ?_)));rw [sub1];obtain ⟨e1,e2⟩:=hes.2.2.1 hz;obtain ⟨y',rfl⟩:∃ y':Nat,y=y':=⟨y.toNat,by omega⟩
     rw [Int.toNat_natCast] at hU;refine ak _ U4 (ap hz (am gz (ac ?_)));refine ak _ (aA (Ry f x e1 O) rfl) (am gz ?_);have hle:=qX x e1;have:=ih (r.drop y') (i+(y'+1)) (f++encodeRune x) (by grind) (by grind [List.drop_drop]) (by grind) (by grind)
     grind
    ·rw [if_neg hz] at hU;refine gh (ap O (am aV (am O ?_)));rw [sub1];refine ak _ U4 (ar hz (ac ?_))
     grind
   ·rw [if_neg h92] at hU
    have hbad:Ev2 (λ _ _=>(if (c:Int)=65533 then if (w:Int)=1 then some true else if (c:Int)<32 then some true else some (decide ((c:Int)=127)) else if (c:Int)<32 then some true else some (decide ((c:Int)=127)):Option Bool)) (·=decide (mC (c,w))):=by
     exact MJ
    by_cases hbd:mC (c,w)
    ·rw [if_pos hbd] at hU;refine gh (ar O (ak _ hbad (ap (by grind) (ac ?_))))
     grind
    ·rw [if_neg hbd] at hU;refine gh (ar O (ak _ hbad (ar (by grind) (ac ?_))));have hgood:=hdf.2.2 (λ q=>hbd (.inl q));refine ak _ (aA (Ry f c hgood.1 O) rfl) (am gz ?_);have hle:=qX c hgood.1;have hw:w<=r.length+1:=by grind
     have hw1:=hdf.1;have:=ih ((b::r).drop w) (i+w) (f++encodeRune (c:Int)) (by grind) (by rw [<- hl,List.drop_drop]) (by grind) (by grind)
     grind
def Fc:Bk->Bk×Int×Int
 | []=>([],0,40)
 | b::r=>if b.toNat=34 then (match rR (r.length+1) r 1 [] with
   | .inl q=>if q.1=((r.length+1:Nat):Int) then ([],0,40) else if 4096<q.2.length then ([],0,3) else (q.2,q.1+1,0)
   | .inr e=>e)
  else ([],0,2)
theorem u0 (b:UInt8)(r:Bk):Fc (b::r)=if b.toNat=34 then (match rR (r.length+1) r 1 [] with
   | .inl q=>if q.1=((r.length+1:Nat):Int) then ([],0,40) else if 4096<q.2.length then ([],0,3) else (q.2,q.1+1,0)
   | .inr e=>e)
  else ([],0,2):=rfl
theorem Qf:∀ (k:Nat) (l:Bk) (i:Nat) (f:Bk),(∀ a g,rR k l i f=.inl (a,g)->(i:Int)<=a/\a<=((i+l.length:Nat):Int)/\g.length<=f.length+4*l.length/\((∀ t,validD (f++t)=validD t)->∀ t,validD (g++t)=validD t))/\(∀ x,rR k l i f=.inr x->x.1=[]/\x.2.1=0/\x.2.2≠0):=by
 intro k
 induction k with
 | zero=>
  grind [rR]
 | succ k ih=>
  intro l i f
  cases l with
  | nil=>
   simp [rR]
  | cons b r=>
   rw [lI];have hdf:=ja (b::r) G;have hes:=ua r;split
   ·refine ⟨λ a g h=>?_,λ x h=>(by cases h)⟩
    cases h
    exact ⟨by omega,by omega,by omega,λ q=>q⟩
   split
   ·split
    ·rename_i hz;obtain ⟨e1,e2⟩:=hes.2.2.1 hz;have hle:=qX _ e1;have hi:=ih (r.drop (em r).2.1.toNat) (i+((em r).2.1.toNat+1)) (f++encodeRune (em r).1);refine ⟨λ a g h=>?_,hi.2⟩;have:=hi.1 a g h;rw [List.length_drop,n8] at this;refine ⟨by omega,by simp only [aq]; omega,by simp only [aq]; omega,λ q=>this.2.2.2 λ t=>?_⟩;rw [n6,q,yY _ e1]
    ·rename_i hz;refine ⟨λ a g h=>(by cases h),λ x h=>?_⟩
     cases h
     exact ⟨Z,Z,hz⟩
   split
   ·simp
   ·rename_i hbd;have hgood:=hdf.2.2 (λ q=>hbd (.inl q));have hle:=qX _ hgood.1;have hi:=ih ((b::r).drop (decodeL (b::r)).2) (i+(decodeL (b::r)).2) (f++encodeRune ((decodeL (b::r)).1:Int));refine ⟨λ a g h=>?_,hi.2⟩;have:=hi.1 a g h;rw [List.length_drop,n8] at this;simp only [aq] at this hdf ⊢;refine ⟨by omega,by omega,by omega,λ q=>this.2.2.2 λ t=>?_⟩;rw [n6,q,yY _ hgood.1]
theorem MX (s:Bk)(hs:s.length<=1000000000):Ev2 (λ n _=>gW n s) (·=Fc s):=by
 simp only [gW]
 cases s with
 | nil=>exact ap Z (ac Z)
 | cons b r=>
  have hl:((b::r).length:Int)=(r.length:Int)+1:=by simp
  have hln:(b::r).length=r.length+1:=by simp
  refine ar G (am O ?_);have hb:byt (b::r) 0=(b.toNat:Int):=rfl;rw [hb];rw [u0];refine aH (λ h=>?_) (λ h=>ac (by grind));have l:=Td (b::r) hs (r.length+1) r 1 [] O rfl O G;have hle:=Qf (r.length+1) r 1 [];have e34:b.toNat=34:=by omega
  simp only [e34,if_true];generalize rR (r.length+1) r 1 []=U at l hle ⊢
  cases U with
  | inr e=>exact kt e (bc l) Z
  | inl q=>
   obtain ⟨a,g⟩:=q;have hq:=hle.1 a g rfl;simp only [List.length_nil,Nat.zero_add] at hq;refine ez (a,g) (bc l) ?_;refine aH (λ h=>ac (by grind)) (λ h=>?_);simp only at h ⊢;rw [if_neg O];refine ak _ (aA Z Z) (aH (λ h1=>ac (by grind)) (λ h1=>?_));simp only at h1;rw [if_neg O];refine ak _ (aA (QR g O) rfl) xP
theorem ye:∀ n:Fin 16,tR (hexDigit n.1)=some n.1/\((hexDigit n.1)=48->n.1=0):=by decide
theorem B5 {n:Nat}(h:n<16):tR (hexDigit n)=some n:=(ye ⟨n,h⟩).1
theorem Cc (u:Nat)(h:u<256)(t:Bk):jC (eg u++125::t)=((u:Int),(((eg u).length+1:Nat):Int),0):=by
 have hv:validRune (u:Int)=true:=by grind [validRune]
 have h125:tR 125=none:=by decide
 by_cases h1:u<16
 ·have e:eg u=[hexDigit u]:=if_pos h1
  have hr:cB 6 (eg u++125::t) 0=(u,1):=by
   grind [cB,B5]
  rw [Ae hr,e,if_neg G,if_neg]
  ·simp
  grind
 ·have e:eg u=[hexDigit (u / 16),hexDigit (u%16)]:=if_neg h1
  have hr:cB 6 (eg u++125::t) 0=(u,2):=by
   grind [cB,B5]
  rw [Ae hr,e,if_neg G,if_neg]
  ·simp
  ·rintro (q|q|q|q)
   ·exact q Z
   ·cases q
   ·have:=(ye ⟨u / 16,by omega⟩).2 q.2
    grind
   grind
theorem sj (b:UInt8)(h:b.toNat<128):encodeRune (b.toNat:Int)=[b]:=by
 simp only [encodeRune,encodeRuneZ,if_pos (show (0:Int)<=(b.toNat:Int)/\(b.toNat:Int)<=127 by omega),n7,List.map_nil];simp
theorem BZ (b:UInt8)(h:b.toNat<128)(c:UInt8)(rest:Bk)(he:d8 b=92::c::rest)(t:Bk):em (c::rest++t)=((b.toNat:Int),((rest.length+1:Nat):Int),0):=by
 have hl:∀ x y:UInt8,([x,y]:Bk)=92::c::rest->c=y/\rest=[]:=λ x y q=>by
  grind
 by_cases h10:b.toNat=10
 ·rw [C1 h10] at he;obtain ⟨rfl,rfl⟩:=hl _ _ he;rw [h10]; rfl
 by_cases h13:b.toNat=13
 ·rw [Ci h13] at he;obtain ⟨rfl,rfl⟩:=hl _ _ he;rw [h13]; rfl
 by_cases h9:b.toNat=9
 ·rw [BB h9] at he;obtain ⟨rfl,rfl⟩:=hl _ _ he;rw [h9]; rfl
 by_cases hq:b.toNat=34\/b.toNat=92
 ·grind [B6,oD]
 by_cases hu:b.toNat<32\/b.toNat=127
 ·rw [Bw h10 h13 h9 hu] at he;have he:(92:UInt8)::117::(123::(eg b.toNat++[125]))=92::c::rest:=he;obtain ⟨hc,hr⟩:=ur (ur he).2;subst hc;subst hr;have hh:=Cc b.toNat O t;have e2:(123::(eg b.toNat++[125]):Bk)++t=123::(eg b.toNat++125::t):=by simp
  rw [mv,e2,oD,if_neg (by decide),if_neg (by decide),if_neg (by decide),if_neg (by decide),if_pos (by decide)]
  grind
 grind [yc]
theorem uO:∀ p:Bk,(∀ y∈p,128<=y.toNat)->p.flatMap d8=p
 | [],_=>rfl
 | y::r,h=>by
  have hy:=h y th;rw [List.flatMap_cons,uO r (by grind),yc O O O]
  rfl
theorem Ed:∀ (n:Nat) (x:Bk) (k i:Nat) (acc t:Bk),x.length<=n->validD x=true->(x.flatMap d8++34::t).length<k ->
  rR k (x.flatMap d8++34::t) i acc=.inl (((i+(x.flatMap d8).length:Nat):Int),acc++x):=by
 intro n
 induction n with
 | zero=>
  intro x k i acc t hx hv hk;obtain rfl:x=[]:=by grind
  obtain ⟨k,rfl⟩:∃ k',k=k'+1:=⟨k-1,by omega⟩
  grind [lI]
 | succ n ih=>
  intro x k i acc t hx hv hk;obtain ⟨k,rfl⟩:∃ k',k=k'+1:=⟨k-1,by omega⟩
  cases x with
  | nil=>
   grind
  | cons b r=>
   by_cases hb:b.toNat<128
   ·have hvr:validD r=true:=by grind [validD_cons]
    rw [List.flatMap_cons] at hk ⊢;have Pn:=wQ b;have hxr:r.length<=n:=by grind
    by_cases hp:b.toNat≠34/\b.toNat≠92/\¬ (b.toNat<32\/b.toNat=127)
    ·rw [yc hp.1 hp.2.1 hp.2.2] at hk ⊢;show rR (k+1) (b::(r.flatMap d8++34::t)) i acc=_;rw [lI,if_neg hp.1,decodeL_ascii b _ hb,if_neg (by grind),if_neg]
     ·grind [sj]
     grind [mC]
    ·obtain ⟨c,rest,he⟩:∃ c rest,d8 b=92::c::rest:=by
      grind [C1,Ci,BB,B6,Bw]
     have hesc:=BZ b hb c rest he (r.flatMap d8++34::t);rw [he] at hk ⊢;have e:(92::c::rest++r.flatMap d8)++34::t=92::(c::rest++(r.flatMap d8++34::t)):=by simp
     rw [e,lI,if_neg (by decide),decodeL_ascii 92 _ (by decide),if_pos (by decide),hesc];simp only [if_true,Int.toNat_natCast]
     have hd:(c::rest++(r.flatMap d8++34::t)).drop (rest.length+1)=r.flatMap d8++34::t:=by
      grind
     rw [hd,sj b hb];have:=ih r k (i+(rest.length+1+1)) (acc++[b]) t hxr hvr (by grind);rw [this];refine congrArg Sum.inl (Prod.ext ?_ ?_)
     ·grind
     ·simp
   ·have Vs:b::r≠[]:=by simp
    obtain ⟨Xi,hvr⟩:=(tD _ Vs).1 hv;have hdf:=ja _ Vs;have hgood:=hdf.2.2 Xi;have hN:=Pa (b::r).length ((b::r).getD 0 0).toNat ((b::r).getD 1 0).toNat ((b::r).getD 2 0).toNat ((b::r).getD 3 0).toNat G (UInt8.toNat_lt _);rw [<- decodeL_N] at hN;generalize hD:decodeL (b::r)=D at Xi hvr hdf hgood hN;obtain ⟨c,w⟩:=D;simp only at Xi hvr hdf hgood hN
    have hc:128<=c:=by
     grind
    have hhigh:=hN.2.2.2.2.1 hc
    have hp:∀ y∈(b::r).take w,128<=y.toNat:=by
     exact Kk
    have hsplit:(b::r).flatMap d8=encodeRune (c:Int)++((b::r).drop w).flatMap d8:=by
     conv=>lhs; rw [<- List.take_append_drop w (b::r)]
     rw [List.flatMap_append,uO _ hp,hgood.2]
    have hel:(encodeRune (c:Int)).length=w:=by
     grind
    obtain ⟨y,p',hp'⟩:∃ y p',encodeRune (c:Int)=y::p':=by
     cases hx:encodeRune (c:Int) with
     | nil=>grind
     | cons y p'=>grind
    have hy:128<=y.toNat:=hp y (by grind);have hdec:=wO (c:Int) hgood.1 (((b::r).drop w).flatMap d8++34::t);rw [hsplit,n6] at hk ⊢
    have hlk:(encodeRune (c:Int)++(((b::r).drop w).flatMap d8++34::t)).drop w=((b::r).drop w).flatMap d8++34::t:=by
     grind
    have:=ih ((b::r).drop w) k (i+w) (acc++encodeRune (c:Int)) t (by grind) hvr (by grind);rw [hp',mv] at hdec hlk ⊢;rw [lI,if_neg O,hdec];simp only [Int.toNat_natCast];rw [if_neg O,if_neg]
    ·rw [<- hp',hel,hlk,this];refine congrArg Sum.inl (Prod.ext ?_ ?_)
     ·grind
     simp_all
    ·rw [<- hp',hel];unfold mC; simp only; omega
theorem Eo (x t:Bk)(hv:validD x=true)(hl:x.length<=4096):Fc (iL x++t)=(x,((iL x).length:Int),0):=by
 have e:iL x++t=34::(x.flatMap d8++34::t):=by simp [iL]
 rw [e,u0,if_pos (by decide),Ed x.length x _ 1 [] t (bt _) hv O]
 grind [iL]
theorem Qo:∀ (k u:Nat),u<10^(k+1)->(decDigits u).length<=k+1:=by
 intro k
 induction k with
 | zero=>grind [decDigits]
 | succ k ih=>
  grind [decDigits]
theorem Kc {v:Int}(h0:0<=v)(h1:v<=kO):(itoa v).length<=16:=by
 obtain ⟨u,rfl⟩:∃ u:Nat,v=u:=⟨v.toNat,by omega⟩
 unfold itoa;rw [if_neg O,Int.toNat_natCast];exact Qo 15 u (by grind [kO])
end Go.Ab.R06
end
