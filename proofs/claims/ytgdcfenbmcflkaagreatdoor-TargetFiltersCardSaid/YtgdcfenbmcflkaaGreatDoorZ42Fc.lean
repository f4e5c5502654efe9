/- Texts of the proof, one behind the other. No statement is proved here. -/
import Derived.Laws.IdiomStrings
import Derived.Test.YtgdcfenbmcflkaaGreatDoorChecked
import Derived.WalkKit
import Derived.Lib.Builder
import Derived.Lib.UnsafeStr
import Derived.Laws.Externs
import Derived.Shelf.RegionOpenPlain
import Derived.Below
import Derived.Lib.LaidTab
import Derived.Shelf.Lays
import Derived.Shelf.Small.Utf8
import Derived.Shelf.Small.Strs
import Derived.Shelf.Small.Wraps
import Derived.Shelf.Strings.Prefix
import Derived.Shelf.LaysM
import Derived.Shelf.Strconv.Itoa3
import Derived.Shelf.LaysC
import Derived.Shelf.Strconv.ParseIntPublic10
import Derived.Shelf.Unicode.DecodeAny
import Derived.Shelf.Strings.IndexAnyAll
import Derived.Shelf.Strings.Runes
import Derived.Shelf.Unicode.ValidAny
import Derived.Shelf.Strings.IndexAny
import Derived.Test.YtgdcfenbmcflkaaGreatDoorProg
import Derived.Lib.AppendIntMem
import Derived.Deep.LoopGhost
import Derived.Laws.Runes
import Derived.Scope
import Derived.Deep.QuietTactic
import Derived.BigQuiet
import Derived.Laws.RangeString
import Derived.Lib.IndexAny
import Derived.Lib.TrimU
import Derived.MapKept
import Derived.Test.YtgdcfenbmcflkaaGreatDoorZ42Fa
import Derived.Test.YtgdcfenbmcflkaaGreatDoorZ42Fb
set_option maxHeartbeats 4000000
section
namespace Go.Ab
class UW (p:Prop) (q:outParam Prop):Prop where
 go:q→p
class UO (p:Prop) (b:outParam Bool) (q:outParam Prop):Prop where
 go:b=false→q→p
section
variable {K P:AS→Prop} {Q:Exit→AS→Prop} {s:AS} {id id':Nat}
instance:UW (pg K Q .ret s) (Q .ret s):=⟨aM⟩
instance:UW (pg K Q (.exit id) s) (Q (.exit id) s):=⟨aI⟩
instance:UW (j1 id Q .ret s) (Q .ret s):=⟨aJ⟩
instance:UW (j1 id Q .normal s) (Q .normal s):=⟨ar⟩
instance:UW (j1 id Q (.exit id) s) (Q .normal s):=⟨aD⟩
instance:UO (j1 id Q (.exit id') s) (Nat.beq id' id) (Q (.exit id') s):=⟨ax⟩
instance:UW (noGoto Q .ret s) (Q .ret s):=⟨noGoto_ret⟩
instance:UW (noGoto Q (.exit id) s) (Q (.exit id) s):=⟨noGoto_exit⟩
instance:UW (noGoto Q .normal s) (Q .normal s):=⟨noGoto_normal⟩
instance:UW (exQ id P Q (.exit id) s) (P s):=⟨b9⟩
instance:UO (exQ id P Q (.exit id') s) (Nat.beq id' id) (Q (.exit id') s):=⟨bg⟩
instance:UW (exQ id P Q .ret s) (Q .ret s):=⟨b4⟩
instance:UW (exQ id P Q .normal s) (Q .normal s):=⟨aV⟩
end
theorem oi {α:Type}{a b:α}(h:some a=some b):a=b:=Option.some.inj h
theorem dt {p:Prop} [Decidable p] (h:p):decide p=true:=decide_eq_true h
theorem df {p:Prop} [Decidable p] (h:¬p):decide p=false:=decide_eq_false h
theorem sr {x:AV}:x.sub x:=AV.sub_refl x
theorem er {s:List (Nat×AV)}{j:Nat}{x:AV}(h:look s j=some x):∃ y,look s j=some y∧y.sub x:=⟨x,h,sr⟩
end Go.Ab
namespace Go.Ab
def Le {α:Type}(o o':Option α):Prop:=∀ r,o=some r→o'=some r
section
variable {α β:Type}
theorem aj (o:Option α):Le o o:=λ _ h=>h
theorem dN (o:Option α):Le none o:=λ _ h=>by cases h
theorem cz {p:Prop} [Decidable p] {o o':Option α}(h:Le o o'):Le (ck p o) (ck p o'):=λ r hr=>by
 unfold ck at hr ⊢
 split at hr
 ·rename_i hp; rw [if_pos hp]; exact h r hr
 ·cases hr
theorem bH {p:Prop} [Decidable p] {a b a' b':Option α}(h:Le a a')(k:Le b b'):Le (if p then a else b) (if p then a' else b'):=by
 by_cases hp:p
 ·simpa only [if_pos hp] using h
 ·simpa only [if_neg hp] using k
theorem bj {g g':Option β}{k k':β→Option α}(h:Le g g')(hk:∀ x,Le (k x) (k' x)):Le (g.bind k) (g'.bind k'):=λ r hr=>by
 cases g with
 | none=>cases hr
 | some x=>rw [h x rfl]; exact hk x r hr
theorem cA {g g':Option (β⊕α)}{k k':β→Option α}(h:Le g g')(hk:∀ x,Le (k x) (k' x)):Le (jn g k) (jn g' k'):=λ r hr=>by
 cases g with
 | none=>cases hr
 | some x=>rw [h x rfl]; cases x with
  | inl x=>exact hk x r hr
  | inr y=>exact hr
theorem Dc {f:Nat→Option α}(N:Nat){r:α}(h:f N=some r)(hm:∀ n,N≤n→Le (f N) (f n)){P:α→Prop}(hp:P r):Ev2 (λ n _=>f n) P:=⟨r,hp,N,λ n _ hn _=>hm n hn r h⟩
end
end Go.Ab
namespace Go.Ab
open Go.RowKit
theorem lI {C:Cx}{o:Oper}{K:AS→Prop}{sl:List (Nat×AV)}{ob:List (Nat×List AV)}{d:Nat}(l:List UInt8){st dt e:TypeId}{x:Operand}{y:AV}{i ie j:TI}(ho:o.op=.convert st dt x)(hd:o.dst=some d)(hn:Nat.blt d C.n=true)
  (hi:look C.tt st=some i) (hik:i.k=.slice e) (hie:look C.tt e=some ie) (hiek:ie.k=.int .u8) (hj:look C.tt dt=some j) (hjk:j.k=.string) (hx:evo sl x=some y) (hy:y.elems? = some (l.map eU))
  (hK:K ⟨(d,.p (eS l))::sl,ob⟩):aW C o K ⟨sl,ob⟩:=by
 obtain ⟨u,h1,h2⟩:=bc C.good hi
 have h3:=bn (h2.trans hik)
 obtain ⟨u1,g1,g2⟩:=bc C.good hie
 have g3:=kV (g2.trans hiek)
 obtain ⟨u2,k1,k2⟩:=bc C.good hj
 have k3:=ez (k2.trans hjk)
 subst h3 g3 k3
 refine ok_one hd hn (λ g a w hs=>⟨.string (str l),?_,.p (.val _)⟩) hK
 have hv:=fp hy (bq hs hx)
 generalize hq:a.eval x=v at hv
 generalize hes:l.map eU=es at hv
 have hnil:es=[]→l=[]:=λ q=>by subst q; exact List.map_eq_nil_iff.1 hes
 cases hv with
 | nils =>
  rw [hnil rfl]
  simp only [execOp,ho,hq]
  rw [Sem.run_bind,run_convert_bytes_string w st dt e none 0 0 h1 g1 k1]
  rfl
 | nile a' =>
  rw [hnil rfl]
  simp only [execOp,ho,hq]
  rw [Sem.run_bind]
  have:=run_convert_bytes_back (P:=C.P) w st dt e a' 0 [] h1 g1 k1 (λ j hj=>absurd hj (Nat.not_lt_zero j))
  rw [show ([]:List UInt8).length=0 from rfl] at this
  rw [this]
  rfl
 | slice sz cf hcap hsz hone hc hr =>
  rename_i b off cap
  subst hes
  simp only [execOp,ho,hq]
  rw [List.length_map,Sem.run_bind]
  have:=run_convert_bytes_back (P:=C.P) w st dt e ⟨b,off,none⟩ cap l h1 g1 k1 (λ j hj=>by
   have hj2:(l.map eU)[j]? = some (eU l[j]):=by simp [hj]
   have hz:sz=1:=(hsz (eU l[j]) (List.mem_of_getElem? hj2)).symm
   have c1:=hc j (eU l[j]) 0 (eU l[j]) hj2 Z
   have c2:=hr j (eU l[j]) 0 (eU l[j]) hj2 Z
   rw [hz,Nat.mul_one,Nat.add_zero] at c1
   rw [add_lit,c1.2]
   generalize cf j 0=v at c2
   cases c2
   rfl)
  rw [this]
  rfl
end Go.Ab
namespace Go.Ab
/- The steps that occur most,their closed facts by themselves. -/
section
variable {C:Cx} {ops:Array Oper} {K:AS→Prop} {sl:List (Nat×AV)} {ob:List (Nat×List AV)} {r:List Oper} {o:Oper} {d:Nat}
end
end Go.Ab
namespace Go.Ab
section
variable {C:Cx} {ops:Array Oper} {K:AS→Prop} {sl base:List (Nat×AV)} {ob:List (Nat×List AV)} {r:List Oper} {o:Oper} {d k:Nat} {rev:Rev}
def mvX:Op→Option Operand
 | .move x=>some x
 | .assign x=>some x
 | _=>none
def mvF (n:Nat)(o:Oper)(sl:List (Nat×AV)):Option (Nat×AV) :=
 match mvX o.op with
 | some x=>(match o.dst with
  | some d=>bif Nat.blt d n then (match evo sl x with | some y=>some (d,y) | none=>none) else none
  | none=>none)
 | none=>none
def gdF (ops:Array Oper)(o:Oper)(sl:List (Nat×AV)):Option (Bool×AV) :=
 match o.guard with
 | some (j,w)=>(match (ops.toList[j]?).bind (·.dst) with
  | some t=>(match look sl t with | some x=>some (w,x) | none=>none)
  | none=>none)
 | none=>none
theorem rm {w:Bool}{x:AV}(h:gdF ops o sl=some (w,x)):∃ j t,o.guard=some (j,w)∧(ops.toList[j]?).bind (·.dst)=some t∧look sl t=some x:=by
 unfold gdF at h
 cases hg:o.guard with
 | none=>rw [hg] at h; cases h
 | some p =>
  obtain ⟨j,w'⟩:=p
  rw [hg] at h
  simp only at h
  cases ht:(ops.toList[j]?).bind (·.dst) with
  | none=>rw [ht] at h; cases h
  | some t =>
   rw [ht] at h
   simp only at h
   cases hl:look sl t with
   | none=>rw [hl] at h; cases h
   | some z=>rw [hl] at h; cases h; exact ⟨j,t,rfl,ht,hl⟩
theorem gy {w b:Bool}(hb:b=w)(h:gdF ops o sl=some (w,.p (.val (.bool b))))(h1:aW C o (eC C ops r K) ⟨sl,ob⟩):eC C ops (o::r) K ⟨sl,ob⟩:=by
 obtain ⟨j,t,hg,hj,hv⟩:=rm h
 exact lL hg hj hv hb h1
def dsF (n:Nat)(o:Oper):Option Nat:=match o.dst with
 | some d=>bif Nat.blt d n then some d else none
 | none=>none
theorem jT {n:Nat}(h:dsF n o=some d):o.dst=some d∧Nat.blt d n=true:=by
 unfold dsF at h
 cases hd:o.dst with
 | none=>rw [hd] at h; cases h
 | some e =>
  rw [hd] at h
  cases hn:Nat.blt e n with
  | false=>simp only [hn,cond_false] at h; cases h
  | true=>simp only [hn,cond_true] at h; cases h; exact ⟨rfl,hn⟩
def knK:Rev→Nat→Option Nat
 | [],_=>none
 | (k,i,_)::r,j=>bif Nat.beq i j then some k else knK r j
def knX (base:List (Nat×AV))(o:Oper)(rev:Rev)(i:Nat):Option AV :=
 match look base i with
 | some x=>some x
 | none=>(match knK rev i with
  | some k=>bif (o.after.toList.any λ e=>Nat.beq e.on k&&Region.binds .any e) then (match sv rev k with
    | some (j,x)=>bif Nat.beq j i then some x else none
    | none=>none) else none
  | none=>none)
def Bp (base:List (Nat×AV))(o:Oper)(rev:Rev):List Nat→Option (List (Nat×AV))
 | []=>some []
 | i::r=>match knX base o rev i with
  | some x=>(match Bp base o rev r with | some l=>some ((i,x)::l) | none=>none)
  | none=>none
theorem CU {i:Nat}{x:AV}(h:knX base o rev i=some x):look base i=some x∨∃ k,(o.after.toList.any λ e=>Nat.beq e.on k&&Region.binds .any e)=true∧sv rev k=some (i,x):=by
 unfold knX at h
 cases hb:look base i with
 | some y=>rw [hb] at h; exact .inl h
 | none =>
  rw [hb] at h
  simp only at h
  cases hk:knK rev i with
  | none=>rw [hk] at h; cases h
  | some k =>
   rw [hk] at h
   simp only at h
   cases ha:(o.after.toList.any λ e=>Nat.beq e.on k&&Region.binds .any e) with
   | false=>rw [ha] at h; cases h
   | true =>
    rw [ha] at h
    simp only [cond_true] at h
    cases hl:sv rev k with
    | none=>rw [hl] at h; cases h
    | some p =>
     obtain ⟨j,y⟩:=p
     rw [hl] at h
     simp only at h
     cases hj:Nat.beq j i with
     | false=>rw [hj] at h; cases h
     | true=>rw [hj] at h; cases h; exact .inr ⟨k,ha,by rw [hl,Nat.eq_of_beq_eq_true hj]⟩
theorem zm:∀ {l:List Nat} {kn:List (Nat×AV)},Bp base o rev l=some kn→AP base o rev kn
 | [],kn,h=>by cases h; trivial
 | i::l,kn,h=>by
  unfold Bp at h
  cases hx:knX base o rev i with
  | none=>rw [hx] at h; cases h
  | some x =>
   rw [hx] at h
   simp only at h
   cases hr:Bp base o rev l with
   | none=>rw [hr] at h; cases h
   | some m=>rw [hr] at h; cases h; exact ⟨CU hx,zm hr⟩
def nwF (base:List (Nat×AV))(rev:Rev)(o:Oper):Option Nat:=match o.dst with
 | some d=>bif (rev.all λ p=>!(Nat.beq p.2.1 d)) then (match look base d with | none=>some d | some _=>none) else none
 | none=>none
theorem qb (h:nwF base rev o=some d):o.dst=some d∧(rev.all λ p=>!(Nat.beq p.2.1 d))=true∧look base d=none:=by
 unfold nwF at h
 cases hd:o.dst with
 | none=>rw [hd] at h; cases h
 | some e =>
  rw [hd] at h
  simp only at h
  cases ha:(rev.all λ p=>!(Nat.beq p.2.1 e)) with
  | false=>rw [ha] at h; cases h
  | true =>
   rw [ha] at h
   simp only [cond_true] at h
   cases hl:look base e with
   | some _=>rw [hl] at h; cases h
   | none=>rw [hl] at h; cases h; exact ⟨rfl,ha,hl⟩
theorem dq {rest:List Oper}{kn:List (Nat×AV)}(x:AV)(l:List Nat)(hk:Bp base o rev l=some kn)(hs:se C ops ob o kn d x)(hn:nwF base rev o=some d)(h:DQ C ops base ob K rest (k+1) ((k,d,x)::rev)):DQ C ops base ob K (o::rest) k rev :=
 zC x kn (zm hk) hs (qb hn).1 (qb hn).2.1 (qb hn).2.2 h
theorem iV {kn:List (Nat×AV)}(hs:∀ i x,look kn i=some x→look sl i=some x){x:Operand}{y:AV}(h:evo kn x=some y):evo sl x=some y:=by
 cases x with
 | tmp t=>exact hs _ _ h
 | const v=>exact h
 | func f=>exact h
 | global g=>exact h
end
end Go.Ab
namespace Go.Ab
inductive Fr where
 | sq (y:Code)
 | bk (id:Nat)
 | ng
 | jo (P:AS→Prop)
 | je (id:Nat) (P:AS→Prop)
inductive Ct where
 | cd (c:Code)
 | op (ops:Array Oper) (r:List Oper)
 | ex (e:Exit)
structure Cf where
 c:Ct
 k:List Fr
 s:AS
def dn (C:Cx)(Q:Exit→AS→Prop):List Fr→Exit→AS→Prop
 | []=>λ e s=>∃ t,dY C s t∧Q e t
 | .sq y::k=>pg (awp C y (dn C Q k)) (dn C Q k)
 | .bk id::k=>j1 id (dn C Q k)
 | .ng::k=>noGoto (dn C Q k)
 | .jo P::k=>pg (λ s=>∃ t,dY C s t∧P t) (dn C Q k)
 | .je id P::k=>exQ id (λ s=>∃ t,dY C s t∧P t) (dn C Q k)
def M (C:Cx)(Q:Exit→AS→Prop):Cf→Prop
 | ⟨.cd c,k,s⟩=>awp C c (dn C Q k) s
 | ⟨.op ops r,k,s⟩=>eC C ops r (dn C Q k .normal) s
 | ⟨.ex e,k,s⟩=>dn C Q k e s
def pop:List Fr→Exit→AS→Option Cf
 | [],e,s=>some ⟨.ex e,[],s⟩
 | .sq y::k,.normal,s=>some ⟨.cd y,k,s⟩
 | .sq _::k,.exit i,s=>pop k (.exit i) s
 | .sq _::k,.ret,s=>pop k .ret s
 | .bk _::k,.normal,s=>pop k .normal s
 | .bk id::k,.exit i,s=>(match Nat.beq i id with | true=>pop k .normal s | false=>pop k (.exit i) s)
 | .bk _::k,.ret,s=>pop k .ret s
 | .ng::k,.normal,s=>pop k .normal s
 | .ng::k,.exit i,s=>pop k (.exit i) s
 | .ng::k,.ret,s=>pop k .ret s
 | .jo P::k,.normal,s=>some ⟨.ex .normal,.jo P::k,s⟩
 | .jo _::k,.exit i,s=>pop k (.exit i) s
 | .jo _::k,.ret,s=>pop k .ret s
 | .je _ _::k,.normal,s=>pop k .normal s
 | .je id P::k,.exit i,s=>(match Nat.beq i id with | true=>some ⟨.ex (.exit i),.je id P::k,s⟩ | false=>pop k (.exit i) s)
 | .je _ _::k,.ret,s=>pop k .ret s
 | _,_,_=>none
section
variable {C:Cx} {Q:Exit→AS→Prop} {ops:Array Oper} {K:AS→Prop} {sl:List (Nat×AV)} {ob:List (Nat×List AV)} {r:List Oper} {o:Oper} {d:Nat} {s s':AS} {k:List Fr}
theorem gK:∀ {k:List Fr} {e:Exit} {c:Cf},pop k e s=some c→M C Q c→dn C Q k e s
 | [],e,c,h,hM=>by simp only [pop,Option.some.injEq] at h; subst h; exact hM
 | .sq y::k,e,c,h,hM=>by
  cases e <;> simp only [pop,Option.some.injEq,reduceCtorEq] at h
  ·subst h; exact hM
  ·exact gK (k:=k) h hM
  ·exact gK (k:=k) h hM
 | .bk id::k,e,c,h,hM=>by
  cases e <;> simp only [pop,reduceCtorEq] at h
  ·exact gK (k:=k) h hM
  ·rename_i i
   split at h
   ·rename_i hb
    rw [Nat.eq_of_beq_eq_true hb]
    exact aD (gK (k:=k) h hM)
   ·rename_i hb; exact ax hb (gK (k:=k) h hM)
  ·exact gK (k:=k) h hM
 | .ng::k,e,c,h,hM=>by
  cases e <;> simp only [pop,reduceCtorEq] at h
  ·exact gK (k:=k) h hM
  ·exact gK (k:=k) h hM
  ·exact gK (k:=k) h hM
 | .jo P::k,e,c,h,hM=>by
  cases e <;> simp only [pop,Option.some.injEq,reduceCtorEq] at h
  ·subst h; exact hM
  ·exact gK (k:=k) h hM
  ·exact gK (k:=k) h hM
 | .je id P::k,e,c,h,hM=>by
  cases e <;> simp only [pop,reduceCtorEq] at h
  ·exact aV (gK (k:=k) h hM)
  ·rename_i i
   split at h
   ·rename_i hb
    cases h; exact hM
   ·rename_i hb; exact bg hb (gK (k:=k) h hM)
  ·exact b4 (gK (k:=k) h hM)
def xj (C:Cx)(o:Oper):AS→AV→Option AS
 | ⟨sl,ob⟩,y=>match o.dst with
  | some d=>(match Nat.blt d C.n with | true=>some ⟨(d,y)::sl,ob⟩ | false=>none)
  | none=>none
theorem nH {y:AV}(h:xj C o ⟨sl,ob⟩ y=some s'):∃ d,o.dst=some d∧Nat.blt d C.n=true∧s'=⟨(d,y)::sl,ob⟩:=by
 simp only [xj] at h
 split at h
 ·rename_i d hd
  split at h
  ·rename_i hn; cases h; exact ⟨d,hd,hn,rfl⟩
  ·cases h
 ·cases h
def ikE (a b:IntKind):Bool:=Nat.beq a.ctorIdx b.ctorIdx
theorem Bh {a b:IntKind}(h:ikE a b=true):a=b:=by cases a <;> cases b <;> first | rfl | cases h
def pkP (sl:List (Nat×AV))(x y:Operand):Option AV→Option AV
 | some (.p (.val (.bool true)))=>evo sl x
 | some (.p (.val (.bool false)))=>evo sl y
 | _=>none
def bnP (C:Cx)(op:BinOp)(t:TypeId):Option AV→Option AV→Option AV
 | some (.p (.val (.int k a))),some (.p (.val (.int k' b)))=>(match ikE k' k with
  | true=>(match DJ op a b with
   | some c=>some (.p (.val (.bool c)))
   | none=>(match Dl k op a b with
    | some c=>some (.p (.val (.int k c)))
    | none=>(match ikE k .i64 with
     | true=>none
     | false=>(match arI op a b with
      | some c=>some (.p (.val (.int k (k.wrap c))))
      | none=>none))))
  | false=>none)
 | some (.p (.val (.bool a))),some (.p (.val (.bool b)))=>(match look C.tt t with
  | some i=>(match i.k with
   | .bool=>(match Fu op a b with | some c=>some (.p (.val (.bool c))) | none=>none)
   | _=>none)
  | none=>none)
 | _,_=>none
def faP (C:Cx)(t f:Nat)(X:Option AV):Option AV:=match look C.tt t with
 | some i=>(match i.k with
  | .struct fs=>(match fs[f]? with
   | some (off,ft)=>(match look C.tt ft with
    | some j=>(match Nat.beq j.size 0 with
     | false=>(match X with
      | some (.ptr id k)=>some (.ptr id (k+off))
      | some (.rptr cs)=>some (.rptr (cs.drop off))
      | _=>none)
     | true=>none)
    | none=>none)
   | none=>none)
  | _=>none)
 | none=>none
def ldP (C:Cx)(ob:List (Nat×List AV))(t:Nat)(X:Option AV):Option AV:=match look C.tt t with
 | some i=>(match X with
  | some (.ptr id k)=>(match look ob id with
   | some cs=>(match i.k.isAgg with
    | false=>cs[k]?
    | true=>(match Nat.ble (k+i.size) cs.length with
     | true=>(match n0 ((cs.drop k).take i.size) with
      | .p y=>some (.p y)
      | .agg l=>some (.agg l)
      | _=>none)
     | false=>none))
   | none=>none)
  | some (.rptr cs)=>(match i.k.isAgg with
   | false=>(match cs.head? with | some y=>some (.p y) | none=>none)
   | true=>(match Nat.ble i.size cs.length with
    | true=>some (.p (.agg (cs.take i.size)))
    | false=>none))
  | _=>none)
 | none=>none
def nrm {α:Type}:List α→Option (List α)
 | []=>some []
 | x::r=>(match nrm r with | some l=>some (x::l) | none=>none)
theorem rq {α:Type}:∀ {l l':List α},nrm l=some l'→l'=l
 | [],l',h=>by cases h; rfl
 | x::r,l',h=>by
  unfold nrm at h
  split at h
  ·rename_i m hm; cases h; rw [rq hm]
  ·cases h
def stP (C:Cx)(o:Oper)(sl:List (Nat×AV))(ob:List (Nat×List AV))(t:Nat)(x v:Operand):Option AS:=match o.dst with
 | none=>(match look C.tt t with
  | some i=>(match evo sl x with
   | some (.ptr id k)=>(match evo sl v with
    | some y=>(match y.cellsA with
     | some xs=>(match Nat.beq xs.length i.size with
      | true=>(match look ob id with
       | some cs=>(match Nat.ble (k+xs.length) cs.length with
        | true=>(match nrm (ra cs k xs) with
         | some ds=>some ⟨sl,(id,ds)::ob⟩
         | none=>none)
        | false=>none)
       | none=>none)
      | false=>none)
     | none=>none)
    | none=>none)
   | _=>none)
  | none=>none)
 | some _=>none
def frc:AV→Option AV
 | .undef=>some .undef
 | .p x=>some (.p x)
 | .agg cs=>some (.agg cs)
 | .vec a b c e=>some (.vec a b c e)
 | .arr a b c e=>some (.arr a b c e)
 | .ptr a b=>some (.ptr a b)
 | .bptr a b c=>some (.bptr a b c)
 | .rptr cs=>some (.rptr cs)
 | .tuple vs=>some (.tuple vs)
 | .func f cs=>some (.func f cs)
 | .mp a b=>some (.mp a b)
 | .mpr a b c d e=>some (.mpr a b c d e)
 | .stk a b c=>some (.stk a b c)
 | .sem R=>some (.sem R)
 | .it a b c=>some (.it a b c)
 | .vecp a b c e=>some (.vecp a b c e)
 | .elp a b=>some (.elp a b)
theorem uB {x y:AV}(h:frc x=some y):y=x:=by cases x <;> (cases h; rfl)
def dmS (D:Nat→Bool):List (Nat×AV)→Option (List (Nat×AV))
 | []=>some []
 | (i,x)::r=>(match frc (x.dem D) with
  | some y=>(match dmS D r with | some l=>some ((i,y)::l) | none=>none)
  | none=>none)
theorem wY {D:Nat→Bool}:∀ {l l':List (Nat×AV)},dmS D l=some l'→l'=l.map λ p=>(p.1,p.2.dem D)
 | [],l',h=>by cases h; rfl
 | (i,x)::r,l',h=>by
  unfold dmS at h
  split at h
  ·rename_i y hy
   split at h
   ·rename_i m hm; cases h; rw [uB hy,wY hm]; rfl
   ·cases h
  ·cases h
def dmC (D:Nat→Bool):List AV→Option (List AV)
 | []=>some []
 | x::r=>(match frc (x.dem D) with
  | some y=>(match dmC D r with | some l=>some (y::l) | none=>none)
  | none=>none)
theorem yp {D:Nat→Bool}:∀ {l l':List AV},dmC D l=some l'→l'=ls D l
 | [],l',h=>by cases h; rfl
 | x::r,l',h=>by
  unfold dmC at h
  split at h
  ·rename_i y hy
   split at h
   ·rename_i m hm; cases h; rw [uB hy,yp hm]; rfl
   ·cases h
  ·cases h
def dmO (D:Nat→Bool):List (Nat×List AV)→Option (List (Nat×List AV))
 | []=>some []
 | (i,cs)::r=>(match D i with
  | true=>dmO D r
  | false=>(match dmC D cs with
   | some ds=>(match dmO D r with | some l=>some ((i,ds)::l) | none=>none)
   | none=>none))
theorem p9 {D:Nat→Bool}:∀ {l l':List (Nat×List AV)},dmO D l=some l'→l'=(l.filter λ p=>!D p.1).map λ p=>(p.1,ls D p.2)
 | [],l',h=>by cases h; rfl
 | (i,cs)::r,l',h=>by
  unfold dmO at h
  split at h
  ·rename_i hD; rw [p9 h]; simp [List.filter_cons,hD]
  ·rename_i hD
   split at h
   ·rename_i ds hds
    split at h
    ·rename_i m hm; cases h; rw [yp hds,p9 hm]; simp [List.filter_cons,hD]
    ·cases h
   ·cases h
def nwP (C:Cx)(o:Oper)(sl0:List (Nat×AV))(ob0:List (Nat×List AV))(cs:List AV):Option AS:=match o.dst with
 | some d=>(match Nat.blt d C.n with
  | true=>(match dmS (λ i=>Nat.beq i d) sl0 with
   | some sl=>(match dmC (λ i=>Nat.beq i d) cs with
    | some ds=>(match dmO (λ i=>Nat.beq i d) ob0 with
     | some ob=>some ⟨(d,.ptr d 0)::sl,(d,ds)::ob⟩
     | none=>none)
    | none=>none)
   | none=>none)
  | false=>none)
 | none=>none
theorem BZ {cs:List AV}(h:nwP C o sl ob cs=some s'):∃ d,o.dst=some d∧Nat.blt d C.n=true∧s'=⟨(d,.ptr d 0)::(ct (λ i=>Nat.beq i d) ⟨sl,ob⟩).sl,(d,ls (λ i=>Nat.beq i d) cs)::(ct (λ i=>Nat.beq i d) ⟨sl,ob⟩).ob⟩:=by
 unfold nwP at h
 split at h
 ·rename_i d hd
  split at h
  ·rename_i hn
   split at h
   ·rename_i a ha
    split at h
    ·rename_i b hb
     split at h
     ·rename_i c hc
      cases h
      exact ⟨d,hd,hn,by rw [wY ha,yp hb,p9 hc]; rfl⟩
     ·cases h
    ·cases h
   ·cases h
  ·cases h
 ·cases h
def ncP:Option AV→Option AV
 | some (.ptr id k)=>some (.ptr id k)
 | _=>none
def xtP (k:Nat):Option AV→Option AV
 | some (.tuple l)=>l[k]?
 | _=>none
def ntP:Option AV→Option AV
 | some (.p (.val (.bool b)))=>some (.p (.val (.bool (!b))))
 | _=>none
def flP (C:Cx)(t f:Nat)(X:Option AV):Option AV:=match look C.tt t with
 | some i=>(match i.k with
  | .struct fs=>(match fs[f]? with
   | some (off,ft)=>(match look C.tt ft with
    | some j=>(match X with
     | some (.p (.agg cs))=>(match j.k.isAgg with
      | false=>(match cs[off]? with | some c=>some (.p c) | none=>none)
      | true=>(match Nat.ble (off+j.size) cs.length with
       | true=>(match nrm ((cs.drop off).take j.size) with
        | some ds=>some (.p (.agg ds))
        | none=>none)
       | false=>none))
     | _=>none)
    | none=>none)
   | none=>none)
  | _=>none)
 | none=>none
def cvP (C:Cx)(st dt:Nat)(X:Option AV):Option AV:=match look C.tt st with
 | some i=>(match i.k with
  | .int k'=>(match look C.tt dt with
   | some j=>(match j.k with
    | .int k=>(match X with
     | some (.p (.val (.int k2 a)))=>(match ikE k2 k' with
      | true=>(match ikE k .i64 with
       | true=>none
       | false=>some (.p (.val (.int k (k.wrap a)))))
      | false=>none)
     | _=>none)
    | _=>none)
   | none=>none)
  | _=>none)
 | none=>none
def agP (cs:List AV):Option AV:=match nrm cs with
 | some ds=>(match n0 ds with
  | .p y=>some (.p y)
  | .agg l=>some (.agg l)
  | _=>none)
 | none=>none
def buP (C:Cx)(t:Nat)(X:Option (List (Nat×AV))):Option AV:=match look C.tt t with
 | some i=>(match i.k with
  | .struct fs=>(match pr C.tt fs with
   | some pl=>(match X with
    | some ps=>(match sk (λ (i:Nat)=>pl[i]?) (fg i) ps with
     | some cs=>agP cs
     | none=>none)
    | none=>none)
   | none=>none)
  | .array _ e=>(match look C.tt e with
   | some ie=>(match X with
    | some ps=>(match sk (λ (k:Nat)=>some (k*ie.size,ie.size)) (fg i) ps with
     | some cs=>agP cs
     | none=>none)
    | none=>none)
   | none=>none)
  | _=>none)
 | none=>none
def laP (C:Cx)(c:Call)(sl:List (Nat×AV)):Option AV:=match c with
 | ⟨.builtin .len,⟨[x]⟩,⟨[t]⟩⟩=>(match look C.tt t with
  | some i=>(match i.k with
   | .slice _=>(match evo sl x with
    | some (.arr _ _ _ m)=>some (.p (.val (.int .i64 (m:Int))))
    | _=>none)
   | _=>none)
  | none=>none)
 | _=>none
def alP (C:Cx)(o:Oper)(sl:List (Nat×AV))(ob:List (Nat×List AV))(t:Nat):Option AS:=match look C.tt t with
 | some i=>(match AV.cellsA (.agg (fg i)) with
  | some cs=>(match nrm cs with | some ds=>nwP C o sl ob ds | none=>none)
  | none=>none)
 | none=>none
def bxP (C:Cx)(o:Oper)(sl:List (Nat×AV))(ob:List (Nat×List AV))(v:Operand):Option AS:=match evo sl v with
 | some x=>(match x.cellsA with
  | some cs=>(match nrm cs with | some ds=>nwP C o sl ob ds | none=>none)
  | none=>none)
 | none=>none
def opV (C:Cx)(o:Oper)(sl:List (Nat×AV))(ob:List (Nat×List AV)):Option AV:=match o.op with
 | .move x=>evo sl x
 | .assign x=>evo sl x
 | .pick c x y=>pkP sl x y (evo sl c)
 | .binOp op t x y _=>bnP C op t (evo sl x) (evo sl y)
 | .unOp .not _ x=>ntP (evo sl x)
 | .fieldAddr t x f=>faP C t f (evo sl x)
 | .load t x=>ldP C ob t (evo sl x)
 | .nilCheck x=>ncP (evo sl x)
 | .extract x k=>xtP k (evo sl x)
 | .field t x f=>flP C t f (evo sl x)
 | .convert st dt x=>cvP C st dt (evo sl x)
 | .build t parts=>buP C t (fy sl parts.toList)
 | .call c=>laP C c sl
 | _=>none
def opF (C:Cx)(o:Oper):AS→Option AS
 | ⟨sl,ob⟩=>match o.op with
 | .store t x v=>stP C o sl ob t x v
 | .box _ v=>bxP C o sl ob v
 | .alloc t=>alP C o sl ob t
 | .move x=>(match evo sl x with
  | some y=>xj C o ⟨sl,ob⟩ y
  | none=>xj C o ⟨sl,ob⟩ .undef)
 | .assign x=>(match evo sl x with
  | some y=>xj C o ⟨sl,ob⟩ y
  | none=>xj C o ⟨sl,ob⟩ .undef)
 | _=>(match opV C o sl ob with
  | some y=>xj C o ⟨sl,ob⟩ y
  | none=>none)
theorem EG {c x y:Operand}{z:AV}(ho:o.op=.pick c x y)(h:pkP sl x y (evo sl c)=some z)(hd:o.dst=some d)(hn:Nat.blt d C.n=true)(hK:K ⟨(d,z)::sl,ob⟩):aW C o K ⟨sl,ob⟩:=by
 generalize hc:evo sl c=v at h
 unfold pkP at h
 split at h
 ·exact b7 ho hd hn hc Z h hK
 ·exact bP ho hd hn hc Z h hK
 ·cases h
theorem FD {op:BinOp}{t t':TypeId}{x y:Operand}{z:AV}(ho:o.op=.binOp op t x y t')(h:bnP C op t (evo sl x) (evo sl y)=some z)(h1:o.dst=some d)(h2:Nat.blt d C.n=true)(hK:K ⟨(d,z)::sl,ob⟩):aW C o K ⟨sl,ob⟩:=by
 generalize hx:evo sl x=X at h
 generalize hy:evo sl y=Y0z at h
 unfold bnP at h
 split at h
 ·rename_i k a k' b
  split at h
  ·rename_i hk
   have:=Bh hk; subst this
   split at h
   ·rename_i c hc
    cases h; exact ib ho h1 h2 hx hy hc hK
   ·split at h
    ·rename_i c hc
     cases h; exact E7 ho h1 h2 hx hy hc hK
    ·split at h
     ·cases h
     ·split at h
      ·rename_i c hc
       cases h; exact Ba ho h1 h2 hx hy hc hK
      ·cases h
  ·cases h
 ·split at h
  ·rename_i i hi
   split at h
   ·rename_i hk
    split at h
    ·rename_i c hc
     cases h; exact DC ho h1 h2 hi hk hx hy hc hK
    ·cases h
   ·cases h
  ·cases h
 ·cases h
theorem EU {t f:Nat}{x:Operand}{z:AV}(ho:o.op=.fieldAddr t x f)(h:faP C t f (evo sl x)=some z)(h1:o.dst=some d)(h2:Nat.blt d C.n=true)(hK:K ⟨(d,z)::sl,ob⟩):aW C o K ⟨sl,ob⟩:=by
 generalize hx:evo sl x=X at h
 unfold faP at h
 split at h
 ·rename_i i hi
  split at h
  ·rename_i fs hk
   split at h
   ·rename_i off ft hf
    split at h
    ·rename_i j hj
     split at h
     ·rename_i hs
      split at h
      ·cases h; exact ci ho h1 h2 hi hk hf hj hs hx hK
      ·cases h; exact cg ho h1 h2 hi hk hf hj hs hx hK
      ·cases h
     ·cases h
    ·cases h
   ·cases h
  ·cases h
 ·cases h
theorem FB {t:Nat}{x:Operand}{z:AV}(ho:o.op=.load t x)(h:ldP C ob t (evo sl x)=some z)(h1:o.dst=some d)(h2:Nat.blt d C.n=true)(hK:K ⟨(d,z)::sl,ob⟩):aW C o K ⟨sl,ob⟩:=by
 generalize hx:evo sl x=X at h
 unfold ldP at h
 split at h
 ·rename_i i hi
  split at h
  ·rename_i id k
   split at h
   ·rename_i cs hob
    split at h
    ·rename_i ha
     exact wi ho h1 h2 hi ha hx hob h hK
    ·rename_i ha
     split at h
     ·rename_i hl
      split at h
      ·rename_i y hy
       cases h; exact rl ho h1 h2 hi ha hx hob hl (congrArg some hy) hK
      ·rename_i y hy
       cases h; exact rl ho h1 h2 hi ha hx hob hl (congrArg some hy) hK
      ·cases h
     ·cases h
   ·cases h
  ·rename_i cs
   split at h
   ·rename_i ha
    split at h
    ·rename_i y hy
     cases h; exact dV ho h1 h2 hi ha hx hy hK
    ·cases h
   ·rename_i ha
    split at h
    ·rename_i hl
     cases h; exact dQ ho h1 h2 hi ha hx hl hK
    ·cases h
  ·cases h
 ·cases h
theorem ES {t:Nat}{x v:Operand}(ho:o.op=.store t x v)(h:stP C o sl ob t x v=some s')(hK:K s'):aW C o K ⟨sl,ob⟩:=by
 unfold stP at h
 split at h
 ·rename_i hd
  split at h
  ·rename_i i hi
   split at h
   ·rename_i id k hx
    split at h
    ·rename_i y hv
     split at h
     ·rename_i xs hc
      split at h
      ·rename_i hsz
       split at h
       ·rename_i cs hob
        split at h
        ·rename_i hl
         split at h
         ·rename_i ds hds
          cases h
          rw [rq hds] at hK
          exact oU ho hd hi hx hv hc (Nat.eq_of_beq_eq_true hsz) hob (Nat.le_of_ble_eq_true hl) hK
         ·cases h
        ·cases h
       ·cases h
      ·cases h
     ·cases h
    ·cases h
   ·cases h
  ·cases h
 ·cases h
theorem Fw {t:Nat}{v:Operand}(ho:o.op=.box t v)(h:bxP C o sl ob v=some s')(hK:K s'):aW C o K ⟨sl,ob⟩:=by
 unfold bxP at h
 split at h
 ·rename_i x hx
  split at h
  ·rename_i cs hc
   split at h
   ·rename_i ds hds
    obtain ⟨d,h1,h2,rfl⟩:=BZ h
    rw [rq hds] at hK
    exact B4 ho h1 h2 hx hc hK
   ·cases h
  ·cases h
 ·cases h
theorem ET {t:Nat}(ho:o.op=.alloc t)(h:alP C o sl ob t=some s')(hK:K s'):aW C o K ⟨sl,ob⟩:=by
 unfold alP at h
 split at h
 ·rename_i i hi
  split at h
  ·rename_i cs hc
   split at h
   ·rename_i ds hds
    obtain ⟨d,h1,h2,rfl⟩:=BZ h
    rw [rq hds] at hK
    have e:cs=fg i:=by
     simp only [AV.cellsA] at hc
     cases hb:AV.onesB (fg i) <;> rw [hb] at hc <;> cases hc
     rfl
    subst e
    exact mN ho h1 h2 hi hc hK
   ·cases h
  ·cases h
 ·cases h
theorem FJ {x:Operand}{z:AV}(ho:o.op=.nilCheck x)(h:ncP (evo sl x)=some z)(h1:o.dst=some d)(h2:Nat.blt d C.n=true)(hK:K ⟨(d,z)::sl,ob⟩):aW C o K ⟨sl,ob⟩:=by
 generalize hx:evo sl x=X at h
 unfold ncP at h
 split at h
 ·cases h; exact wk ho h1 h2 hx hK
 ·cases h
theorem FE {x:Operand}{n:Nat}{z:AV}(ho:o.op=.extract x n)(h:xtP n (evo sl x)=some z)(h1:o.dst=some d)(h2:Nat.blt d C.n=true)(hK:K ⟨(d,z)::sl,ob⟩):aW C o K ⟨sl,ob⟩:=by
 generalize hx:evo sl x=X at h
 unfold xtP at h
 split at h
 ·exact dc ho h1 h2 hx h hK
 ·cases h
theorem Fx {t:TypeId}{x:Operand}{z:AV}(ho:o.op=.unOp .not t x)(h:ntP (evo sl x)=some z)(h1:o.dst=some d)(h2:Nat.blt d C.n=true)(hK:K ⟨(d,z)::sl,ob⟩):aW C o K ⟨sl,ob⟩:=by
 generalize hx:evo sl x=X at h
 unfold ntP at h
 split at h
 ·cases h; exact ii ho h1 h2 hx hK
 ·cases h
theorem FG {t f:Nat}{x:Operand}{z:AV}(ho:o.op=.field t x f)(h:flP C t f (evo sl x)=some z)(h1:o.dst=some d)(h2:Nat.blt d C.n=true)(hK:K ⟨(d,z)::sl,ob⟩):aW C o K ⟨sl,ob⟩:=by
 generalize hx:evo sl x=X at h
 unfold flP at h
 split at h
 ·rename_i i hi
  split at h
  ·rename_i fs hk
   split at h
   ·rename_i off ft hf
    split at h
    ·rename_i j hj
     split at h
     ·rename_i cs
      split at h
      ·rename_i ha
       split at h
       ·rename_i c hc
        cases h; exact zW ho h1 h2 hi hk hf hj ha hx hc hK
       ·cases h
      ·rename_i ha
       split at h
       ·rename_i hl
        split at h
        ·rename_i ds hds
         rw [rq hds] at h
         cases h; exact Ak ho h1 h2 hi hk hf hj ha hx hl hK
        ·cases h
       ·cases h
     ·cases h
    ·cases h
   ·cases h
  ·cases h
 ·cases h
theorem Fj {st dt:Nat}{x:Operand}{z:AV}(ho:o.op=.convert st dt x)(h:cvP C st dt (evo sl x)=some z)(h1:o.dst=some d)(h2:Nat.blt d C.n=true)(hK:K ⟨(d,z)::sl,ob⟩):aW C o K ⟨sl,ob⟩:=by
 generalize hx:evo sl x=X at h
 unfold cvP at h
 split at h
 ·rename_i i hi
  split at h
  ·rename_i k' hk'
   split at h
   ·rename_i j hj
    split at h
    ·rename_i k hk
     split at h
     ·rename_i k2 a
      split at h
      ·rename_i hb
       have:=Bh hb; subst this
       split at h
       ·cases h
       ·cases h; exact Cr ho h1 h2 hi hk' hj hk hx hK
      ·cases h
     ·cases h
    ·cases h
   ·cases h
  ·cases h
 ·cases h
theorem BI {cs:List AV}{z:AV}(h:agP cs=some z):some (n0 cs)=some z:=by
 unfold agP at h
 split at h
 ·rename_i ds hds
  have e:=rq hds
  subst e
  split at h
  ·rename_i y hy; cases h; exact congrArg some hy
  ·rename_i y hy; cases h; exact congrArg some hy
  ·cases h
 ·cases h
theorem E0 {t:Nat}{parts:Array (Nat×Operand)}{z:AV}(ho:o.op=.build t parts)(h:buP C t (fy sl parts.toList)=some z)(h1:o.dst=some d)(h2:Nat.blt d C.n=true)(hK:K ⟨(d,z)::sl,ob⟩):aW C o K ⟨sl,ob⟩:=by
 generalize hps:fy sl parts.toList=X at h
 unfold buP at h
 split at h
 ·rename_i i hi
  split at h
  ·rename_i fs hk
   split at h
   ·rename_i pl hpl
    split at h
    ·rename_i ps
     split at h
     ·rename_i cs hcs
      exact tN ho h1 h2 hi hk hpl hps hcs (BI h) hK
     ·cases h
    ·cases h
   ·cases h
  ·rename_i m e hk
   split at h
   ·rename_i ie hie
    split at h
    ·rename_i ps
     split at h
     ·rename_i cs hcs
      exact xF ho h1 h2 hi hk hie hps hcs (BI h) hK
     ·cases h
    ·cases h
   ·cases h
  ·cases h
 ·cases h
theorem E9 {c:Call}{z:AV}(ho:o.op=.call c)(h:laP C c sl=some z)(h1:o.dst=some d)(h2:Nat.blt d C.n=true)(hK:K ⟨(d,z)::sl,ob⟩):aW C o K ⟨sl,ob⟩:=by
 unfold laP at h
 split at h
 ·split at h
  ·rename_i i hi
   split at h
   ·rename_i e hk
    split at h
    ·rename_i hx
     cases h; exact fS ho h1 h2 hi hk hx hK
    ·cases h
   ·cases h
  ·cases h
 ·cases h
theorem tJ {y:AV}(h:opV C o sl ob=some y)(h1:o.dst=some d)(h2:Nat.blt d C.n=true)(hK:K ⟨(d,y)::sl,ob⟩):aW C o K ⟨sl,ob⟩:=by
 unfold opV at h
 split at h
 ·rename_i ho; exact cR ho h1 h2 h hK
 ·rename_i ho; exact bp ho h1 h2 h hK
 ·rename_i ho; exact EG ho h h1 h2 hK
 ·rename_i ho; exact FD ho h h1 h2 hK
 ·rename_i ho; exact Fx ho h h1 h2 hK
 ·rename_i ho; exact EU ho h h1 h2 hK
 ·rename_i ho; exact FB ho h h1 h2 hK
 ·rename_i ho; exact FJ ho h h1 h2 hK
 ·rename_i ho; exact FE ho h h1 h2 hK
 ·rename_i ho; exact FG ho h h1 h2 hK
 ·rename_i ho; exact Fj ho h h1 h2 hK
 ·rename_i ho; exact E0 ho h h1 h2 hK
 ·rename_i ho; exact E9 ho h h1 h2 hK
 ·cases h
theorem ym (h:opF C o ⟨sl,ob⟩=some s')(hK:K s'):aW C o K ⟨sl,ob⟩:=by
 unfold opF at h
 dsimp only at h
 split at h
 ·rename_i ho; exact ES ho h hK
 ·rename_i ho; exact Fw ho h hK
 ·rename_i ho; exact ET ho h hK
 ·rename_i ho
  split at h
  ·rename_i y hy; obtain ⟨d,h1,h2,rfl⟩:=nH h; exact cR ho h1 h2 hy hK
  ·obtain ⟨d,h1,h2,rfl⟩:=nH h; exact xU ho h1 h2 hK
 ·rename_i ho
  split at h
  ·rename_i y hy; obtain ⟨d,h1,h2,rfl⟩:=nH h; exact bp ho h1 h2 hy hK
  ·obtain ⟨d,h1,h2,rfl⟩:=nH h; exact u6 ho h1 h2 hK
 ·split at h
  ·rename_i y hy; obtain ⟨d,h1,h2,rfl⟩:=nH h; exact tJ hy h1 h2 hK
  ·cases h
def isU:Value→Bool
 | .tuple a=>Nat.beq a.size 0
 | _=>false
theorem Ci {v:Value}(h:isU v=true):v=Go.undef:=by
 unfold isU at h
 split at h
 ·rename_i a
  have:=Nat.eq_of_beq_eq_true h
  have:=Array.eq_empty_of_size_eq_zero this
  subst this; rfl
 ·cases h
def y7 (C:Cx)(o:Oper)(s:AS):Option AS:=xj C o s (.p (.val Go.undef))
def guF (C:Cx)(o:Oper)(s:AS):Option (Bool×AV)→Option AS
 | some (true,.p (.val (.bool true)))=>opF C o s
 | some (true,.p (.val (.bool false)))=>y7 C o s
 | some (false,.p (.val (.bool true)))=>y7 C o s
 | some (false,.p (.val (.bool false)))=>opF C o s
 | some (_,.p (.val v))=>(match isU v with | true=>y7 C o s | false=>none)
 | _=>none
def oF (C:Cx)(ops:Array Oper)(o:Oper):AS→Option AS
 | ⟨sl,ob⟩=>match o.guard with
  | none=>opF C o ⟨sl,ob⟩
  | some _=>guF C o ⟨sl,ob⟩ (gdF ops o sl)
theorem F3 (h:oF C ops o ⟨sl,ob⟩=some s')(hK:eC C ops r K s'):eC C ops (o::r) K ⟨sl,ob⟩:=by
 unfold oF at h
 dsimp only at h
 split at h
 ·rename_i hg; exact aZ hg (ym h hK)
 ·rename_i p hg
  have pass:∀ {w:Bool} {b:Bool},gdF ops o sl=some (w,.p (.val (.bool b)))→b=(!w)→y7 C o ⟨sl,ob⟩=some s'→eC C ops (o::r) K ⟨sl,ob⟩:=by
   intro w b hgd hb hp
   obtain ⟨d,h1,h2,rfl⟩:=nH hp
   obtain ⟨j,t,hg,hj,hv⟩:=rm hgd
   exact mF hg hj hv hb h1 h2 hK
  generalize hgd:gdF ops o sl=G0z at h
  unfold guF at h
  split at h
  ·exact gy Z hgd (ym h hK)
  ·exact pass hgd Z h
  ·exact pass hgd Z h
  ·exact gy Z hgd (ym h hK)
  ·rename_i v hno1 hno2 hno3 hno4
   split at h
   ·rename_i hu
    have:=Ci hu; subst this
    obtain ⟨d,h1,h2,rfl⟩:=nH h
    obtain ⟨j,t,hg,hj,hv⟩:=rm hgd
    exact og hg hj hv h1 h2 hK
   ·cases h
  ·cases h
def cdE (s:AS)(x:Operand):Option AV:=match s with | ⟨sl,_⟩=>evo sl x
def cdF (C:Cx)(k:List Fr)(s:AS):Code→Option Cf
 | .seq x y=>some ⟨.cd x,.sq y::k,s⟩
 | .block id x=>some ⟨.cd x,.bk id::k,s⟩
 | .scope x=>some ⟨.cd x,.ng::k,s⟩
 | .skip=>pop k .normal s
 | .label _=>pop k .normal s
 | .exit id=>pop k (.exit id) s
 | .ret=>pop k .ret s
 | .region _ ops draw=>(match draw with | false=>some ⟨.op ops ops.toList,k,s⟩ | true=>none)
 | .cond c x y=>(match cdE s c with
  | some (.p (.val (.bool true)))=>some ⟨.cd x,k,s⟩
  | some (.p (.val (.bool false)))=>some ⟨.cd y,k,s⟩
  | _=>none)
 | _=>none
def stp (C:Cx):Cf→Option Cf
 | ⟨.ex e,k,s⟩=>pop k e s
 | ⟨.op _ [],k,s⟩=>pop k .normal s
 | ⟨.op ops (o::r),k,s⟩=>(match oF C ops o s with | some s'=>some ⟨.op ops r,k,s'⟩ | none=>none)
 | ⟨.cd c,k,s⟩=>cdF C k s c
theorem Fa {c:Code}{c':Cf}(h:cdF C k s c=some c')(hM:M C Q c'):awp C c (dn C Q k) s:=by
 unfold cdF at h
 split at h
 ·cases h; exact bI hM
 ·cases h; exact dT hM
 ·cases h; exact dW hM
 ·exact de (gK h hM)
 ·exact dU (gK h hM)
 ·exact eF (gK h hM)
 ·exact di (gK h hM)
 ·split at h
  ·cases h; exact cj hM
  ·cases h
 ·have hs:∀ c,cdE s c=evo s.sl c:=λ c=>by cases s; rfl
  split at h
  ·rename_i hc; cases h; exact CI (yj ((hs _).symm.trans hc)) rfl hM
  ·rename_i hc; cases h; exact Al (yj ((hs _).symm.trans hc)) rfl hM
  ·cases h
 ·cases h
theorem EM {c c':Cf}(h:stp C c=some c')(hM:M C Q c'):M C Q c:=by
 unfold stp at h
 split at h
 ·exact gK h hM
 ·exact bz (gK h hM)
 ·split at h
  ·rename_i s0 hs; cases h; exact F3 hs hM
  ·cases h
 ·exact Fa h hM
def run (C:Cx):Nat→Cf→Option Cf
 | 0,c=>some c
 | n+1,c=>(match stp C c with | some c'=>run C n c' | none=>none)
theorem nx:∀ (n:Nat) {c c':Cf},run C n c=some c'→M C Q c'→M C Q c
 | 0,c,c',h,hM=>by cases h; exact hM
 | n+1,c,c',h,hM=>by
  unfold run at h
  split at h
  ·rename_i c1 h1; exact EM h1 (nx n h hM)
  ·cases h
theorem oy:∀ {k:List Fr} {e:Exit} {s t:AS},dY C s t→dn C Q k e t→dn C Q k e s
 | [],e,s,t,hg,⟨u,h1,h2⟩=>⟨u,bD hg h1,h2⟩
 | .sq y::k,e,s,t,hg,h=>by
  cases e with
  | normal=>exact rZ hg h
  | _=>exact oy (k:=k) hg h
 | .bk id::k,e,s,t,hg,h=>by
  cases e with
  | exit i =>
   simp only [dn,j1] at h ⊢
   split
   ·rename_i e; rw [if_pos e] at h; exact oy (k:=k) hg h
   ·rename_i e; rw [if_neg e] at h; exact oy (k:=k) hg h
  | _=>exact oy (k:=k) hg h
 | .ng::k,e,s,t,hg,h=>by
  cases e with
  | goto l=>exact h
  | _=>exact oy (k:=k) hg h
 | .jo P::k,e,s,t,hg,h=>by
  cases e with
  | normal=>obtain ⟨u,h1,h2⟩:=h; exact ⟨u,bD hg h1,h2⟩
  | _=>exact oy (k:=k) hg h
 | .je id P::k,e,s,t,hg,h=>by
  cases e with
  | exit i =>
   simp only [dn,exQ] at h ⊢
   split
   ·rename_i e; rw [if_pos e] at h; obtain ⟨u,h1,h2⟩:=h; exact ⟨u,bD hg h1,h2⟩
   ·rename_i e; rw [if_neg e] at h; exact oy (k:=k) hg h
  | _=>exact oy (k:=k) hg h
theorem mG {c:Ct}{t:AS}(hg:dY C s t)(h:M C Q ⟨c,k,t⟩):M C Q ⟨c,k,s⟩:=by
 cases c with
 | cd c=>exact rZ hg h
 | op ops r=>exact yH hg h
 | ex e=>exact oy hg h
theorem kX {c:Code}{σ:Type}(A:σ→Prop)(mk:σ→AS)(h2:∀ v,A v→M C Q ⟨.ex .normal,k,mk v⟩)(h1:M C Q ⟨.cd c,.jo (λ t=>∃ v,A v∧t=mk v)::k,s⟩):M C Q ⟨.cd c,k,s⟩ :=
 CV _ (λ s' ⟨_,hg,v,hv,e⟩=>oy hg (e ▸ h2 v hv)) h1
theorem kEx (id:Nat){c:Code}{σ:Type}(A:σ→Prop)(mk:σ→AS)(h2:∀ v,A v→M C Q ⟨.ex (.exit id),k,mk v⟩)(h1:M C Q ⟨.cd c,.je id (λ t=>∃ v,A v∧t=mk v)::k,s⟩):M C Q ⟨.cd c,k,s⟩ :=
 Bj id _ (λ s' ⟨_,hg,v,hv,e⟩=>oy hg (e ▸ h2 v hv)) h1
theorem eX {σ:Type}{A:σ→Prop}{mk:σ→AS}(v:σ)(hv:A v)(hg:dY C s (mk v)):M C Q ⟨.ex .normal,.jo (λ t=>∃ v,A v∧t=mk v)::k,s⟩:=⟨mk v,hg,v,hv,rfl⟩
theorem eXi {σ:Type}{A:σ→Prop}{mk:σ→AS}{id:Nat}(v:σ)(hv:A v)(hg:dY C s (mk v)):M C Q ⟨.ex (.exit id),.je id (λ t=>∃ v,A v∧t=mk v)::k,s⟩:=by
 show dn C Q (.je id (λ t=>∃ v,A v∧t=mk v)::k) (.exit id) s
 simp only [dn,exQ,if_true]; exact ⟨mk v,hg,v,hv,rfl⟩
theorem lG {c:Code}{σ O0z:Type}(mk:σ→AS)(lp:Nat→σ→Option O0z)(hz:∀ q,lp 0 q=none){o:O0z}{n:Nat}(q0:σ)(h0:lp n q0=some o)(hle:dY C s (mk q0))
  (round:∀ m q,lp (m+1) q=some o→M C Q ⟨.cd c,.jo (λ t=>∃ q',lp m q'=some o∧t=mk q')::k,mk q⟩):M C Q ⟨.cd (.loop c),k,s⟩:=by
 refine zT mk lp hz q0 h0 hle λ m q hq=>oZ (λ e s' h=>?_) (round m q hq)
 cases e with
 | normal=>obtain ⟨u,hg,q',h1,rfl⟩:=h; exact ⟨q',h1,hg⟩
 | _=>exact h
def lks (sl:List (Nat×AV)):List Nat→Option (List AV)
 | []=>some []
 | t::r=>(match look sl t with
  | some x=>(match lks sl r with | some l=>some (x::l) | none=>none)
  | none=>none)
def stB (b:Bool)(sl:List (Nat×AV)):List Nat→List (Nat×AV)
 | []=>sl
 | t::r=>(t,.p (.val (.bool b)))::stB b sl r
theorem BM {b:Bool}:∀ {T:List Nat},lks sl T=some (T.map λ _=>.p (.val (.bool b)))→∀ j x,look (stB b sl T) j=some x→look sl j=some x
 | [],_,j,x,h=>h
 | t::r,hT,j,x,h=>by
  unfold lks at hT
  split at hT
  ·rename_i y hy
   split at hT
   ·rename_i l hl
    simp only [List.map_cons,Option.some.injEq,List.cons.injEq] at hT
    simp only [stB,bf] at h
    split at h
    ·rename_i e; subst e; cases h; rw [hy,hT.1]
    ·exact BM (hl.trans (congrArg some hT.2)) j x h
   ·cases hT
  ·cases hT
theorem rp {b:Bool}{T:List Nat}(hT:lks sl T=some (T.map λ _=>.p (.val (.bool b)))):dY C ⟨sl,ob⟩ ⟨stB b sl T,ob⟩ :=
 aP ⟨λ j x hx=>by
  have:=BM hT j x hx
  simp only [AS.get,this,Option.getD_some]; exact AV.sub_refl x,λ id cs h=>⟨cs,h,Nat.le_refl _,λ i c d hc hd=>by rw [hc] at hd; cases hd; exact AV.sub_refl _⟩⟩
theorem fD {c:Ct}{p:Prop} [Decidable p] {α:Type}{a b:Option α}{v:α}(T:List Nat)(h:(if p then a else b)=some v)(hT:lks sl T=some (T.map λ _=>.p (.val (.bool (decide p)))))
  (h1:p→a=some v→M C Q ⟨c,k,⟨stB true sl T,ob⟩⟩) (h2:¬p→b=some v→M C Q ⟨c,k,⟨stB false sl T,ob⟩⟩):M C Q ⟨c,k,⟨sl,ob⟩⟩:=by
 by_cases hp:p
 ·rw [decide_eq_true hp] at hT; exact mG (rp hT) (h1 hp (CS hp h))
 ·rw [decide_eq_false hp] at hT; exact mG (rp hT) (h2 hp (if_f hp h))
theorem fN {c:Ct}{p:Prop} [Decidable p] {α:Type}{a b:Option α}{v:α}(T:List Nat)(h:(if p then a else b)=some v)(hT:lks sl T=some (T.map λ _=>.p (.val (.bool (!decide p)))))
  (h1:p→a=some v→M C Q ⟨c,k,⟨stB false sl T,ob⟩⟩) (h2:¬p→b=some v→M C Q ⟨c,k,⟨stB true sl T,ob⟩⟩):M C Q ⟨c,k,⟨sl,ob⟩⟩:=by
 by_cases hp:p
 ·rw [decide_eq_true hp] at hT; exact mG (rp hT) (h1 hp (CS hp h))
 ·rw [decide_eq_false hp] at hT; exact mG (rp hT) (h2 hp (if_f hp h))
theorem fB {c:Ct}{p:Bool}{α:Type}{a b:Option α}{v:α}(T:List Nat)(h:(if p=true then a else b)=some v)(hT:lks sl T=some (T.map λ _=>.p (.val (.bool p))))
  (h1:p=true→a=some v→M C Q ⟨c,k,⟨stB true sl T,ob⟩⟩) (h2:p=false→b=some v→M C Q ⟨c,k,⟨stB false sl T,ob⟩⟩):M C Q ⟨c,k,⟨sl,ob⟩⟩:=by
 cases p
 ·exact mG (rp hT) (h2 Z (Bo Z h))
 ·exact mG (rp hT) (h1 Z (CS Z h))
def gF (ops:Array Oper)(o:Oper)(sl:List (Nat×AV)):Bool:=match o.guard with
 | none=>true
 | some _=>(match gdF ops o sl with
  | some (true,.p (.val (.bool true)))=>true
  | some (false,.p (.val (.bool false)))=>true
  | _=>false)
theorem mO (hg:gF ops o sl=true)(h:aW C o (λ s'=>M C Q ⟨.op ops r,k,s'⟩) ⟨sl,ob⟩):M C Q ⟨.op ops (o::r),k,⟨sl,ob⟩⟩:=by
 unfold gF at hg
 split at hg
 ·rename_i hn; exact aZ hn h
 ·generalize hgd:gdF ops o sl=G0z at hg
  split at hg
  ·exact gy Z hgd h
  ·exact gy Z hgd h
  ·cases hg
theorem bd {α β:Type}{g:Prop}{p:Option α}{f:α→Option β}{v:β}(h:p.bind f=some v)(H:∀ x,p=some x→f x=some v→g):g:=by
 obtain ⟨x,h1,h2⟩:=Ft h
 exact H x h1 h2
theorem cc' {α:Type}{g:Prop}{p:Prop} [Decidable p] {a:Option α}{v:α}(h:ck p a=some v)(H:p→a=some v→g):g:=by
 obtain ⟨h1,h2⟩:=ll h
 exact H h1 h2
def biF (C:Cx)(ops:Array Oper)(o:Oper)(sl:List (Nat×AV)):Option (Nat×BinOp×AV×AV):=match gF ops o sl with
 | true=>(match dsF C.n o with
  | some d=>(match o.op with
   | .binOp op _ x y _=>(match evo sl x with
    | some X=>(match evo sl y with
     | some Y0z=>some (d,op,X,Y0z)
     | none=>none)
    | none=>none)
   | _=>none)
  | none=>none)
 | false=>none
theorem yi {op:BinOp}{X Y0z:AV}(h:biF C ops o sl=some (d,op,X,Y0z)):gF ops o sl=true∧o.dst=some d∧Nat.blt d C.n=true∧∃ t x y t',o.op=.binOp op t x y t'∧evo sl x=some X∧evo sl y=some Y0z:=by
 unfold biF at h
 split at h
 ·rename_i hg
  split at h
  ·rename_i e hd
   split at h
   ·rename_i op' t x y t' ho
    split at h
    ·rename_i X' hx
     split at h
     ·rename_i Y' hy
      cases h
      exact ⟨hg,(jT hd).1,(jT hd).2,t,x,y,t',ho,hx,hy⟩
     ·cases h
    ·cases h
   ·cases h
  ·cases h
 ·cases h
theorem oA {α:Type}{a:Option α}{v:α}{op:BinOp}{x y c:Int}(h:ck (inR c) a=some v)(hb:biF C ops o sl=some (d,op,.p (.val (.int .i64 x)),.p (.val (.int .i64 y))))(hc:arI op x y=some c)
  (H:inR c→a=some v→M C Q ⟨.op ops r,k,⟨(d,.p (eI c))::sl,ob⟩⟩):M C Q ⟨.op ops (o::r),k,⟨sl,ob⟩⟩:=by
 obtain ⟨hg,hd,hn,t,X,Y0z,t',ho,hx,hy⟩:=yi hb
 obtain ⟨h1,h2⟩:=ll h
 exact mO hg (eq ho hd hn hx hy hc h1 (H h1 h2))
theorem oS {op:BinOp}{x y:Bytes}{c:Bool}(hb:biF C ops o sl=some (d,op,.p (.val (.string (str x))),.p (.val (.string (str y)))))(hc:D9 op x y=some c)
  (H:M C Q ⟨.op ops r,k,⟨(d,.p (eB c))::sl,ob⟩⟩):M C Q ⟨.op ops (o::r),k,⟨sl,ob⟩⟩:=by
 obtain ⟨hg,hd,hn,t,X,Y0z,t',ho,hx,hy⟩:=yi hb
 exact mO hg (cQ ho hd hn hx hy hc H)
theorem oC {α:Type}{a:Option α}{v:α}{x y:Bytes}(h:ck (x.length+y.length≤9223372036854775807) a=some v)(hb:biF C ops o sl=some (d,.add,.p (.val (.string (str x))),.p (.val (.string (str y)))))
  (H:x.length+y.length≤9223372036854775807→a=some v→M C Q ⟨.op ops r,k,⟨(d,.p (eS (x++y)))::sl,ob⟩⟩):M C Q ⟨.op ops (o::r),k,⟨sl,ob⟩⟩:=by
 obtain ⟨hg,hd,hn,t,X,Y0z,t',ho,hx,hy⟩:=yi hb
 obtain ⟨h1,h2⟩:=ll h
 exact mO hg (bu ho hd hn hx hy h1 (H h1 h2))
def lnF (C:Cx)(ops:Array Oper)(o:Oper)(sl:List (Nat×AV)):Option (Nat×Bool×AV):=match gF ops o sl with
 | true=>(match dsF C.n o with
  | some d=>(match o.op with
   | .call ⟨.builtin .len,⟨[x]⟩,⟨[t]⟩⟩=>(match look C.tt t with
    | some i=>(match evo sl x with
     | some X=>(match i.k with
      | .string=>some (d,true,X)
      | .slice _=>some (d,false,X)
      | _=>none)
     | none=>none)
    | none=>none)
   | _=>none)
  | none=>none)
 | false=>none
theorem oLs {x:Bytes}(hb:lnF C ops o sl=some (d,true,.p (.val (.string (str x)))))(H:M C Q ⟨.op ops r,k,⟨(d,.p (eI (x.length:Int)))::sl,ob⟩⟩):M C Q ⟨.op ops (o::r),k,⟨sl,ob⟩⟩:=by
 unfold lnF at hb
 split at hb
 ·rename_i hg
  split at hb
  ·rename_i e hd
   split at hb
   ·rename_i z t ho
    split at hb
    ·rename_i i hi
     split at hb
     ·rename_i X hx
      split at hb
      ·rename_i hk; cases hb; exact mO hg (eD ho (jT hd).1 (jT hd).2 hi hk hx H)
      ·cases hb
      ·cases hb
     ·cases hb
    ·cases hb
   ·cases hb
  ·cases hb
 ·cases hb
theorem oLl {α:Type}{f:α→PV}{l:List α}{X:AV}(hb:lnF C ops o sl=some (d,false,X))(hX:X.elems? = some (l.map f))(H:M C Q ⟨.op ops r,k,⟨(d,.p (eI (l.length:Int)))::sl,ob⟩⟩):M C Q ⟨.op ops (o::r),k,⟨sl,ob⟩⟩:=by
 unfold lnF at hb
 split at hb
 ·rename_i hg
  split at hb
  ·rename_i e hd
   split at hb
   ·rename_i z t ho
    split at hb
    ·rename_i i hi
     split at hb
     ·rename_i X' hx
      split at hb
      ·cases hb
      ·rename_i hk; cases hb; exact mO hg (nM ho (jT hd).1 (jT hd).2 hi hk hx hX H)
      ·cases hb
     ·cases hb
    ·cases hb
   ·cases hb
  ·cases hb
 ·cases hb
def ixF (C:Cx)(ops:Array Oper)(o:Oper)(sl:List (Nat×AV)):Option (Nat×AV×AV):=match gF ops o sl with
 | true=>(match dsF C.n o with
  | some d=>(match o.op with
   | .index t x y=>(match look C.tt t with
    | some i=>(match i.k with
     | .string=>(match evo sl x with
      | some X=>(match evo sl y with | some Y0z=>some (d,X,Y0z) | none=>none)
      | none=>none)
     | _=>none)
    | none=>none)
   | _=>none)
  | none=>none)
 | false=>none
theorem oI {α:Type}{a:Option α}{v:α}{x:Bytes}{i:IntKind}{j:Int}(h:ck ((0:Int)≤j∧j < (x.length:Int)) a=some v)(hb:ixF C ops o sl=some (d,.p (.val (.string (str x))),.p (.val (.int i j))))
  (H:(0:Int)≤j∧j < (x.length:Int)→a=some v→M C Q ⟨.op ops r,k,⟨(d,.p (eK .u8 (byt x j)))::sl,ob⟩⟩):M C Q ⟨.op ops (o::r),k,⟨sl,ob⟩⟩:=by
 obtain ⟨h1,h2⟩:=ll h
 unfold ixF at hb
 split at hb
 ·rename_i hg
  split at hb
  ·rename_i e hd
   split at hb
   ·rename_i t X Y0z ho
    split at hb
    ·rename_i i hi
     split at hb
     ·rename_i hk
      split at hb
      ·rename_i hx
       split at hb
       ·rename_i hy; cases hb; exact mO hg (iG ho (jT hd).1 (jT hd).2 hi hk hx hy h1 (H h1 h2))
       ·cases hb
      ·cases hb
     ·cases hb
    ·cases hb
   ·cases hb
  ·cases hb
 ·cases hb
def slF (C:Cx)(ops:Array Oper)(o:Oper)(sl:List (Nat×AV)):Option (Nat×AV×Option Operand×Option Operand):=match gF ops o sl with
 | true=>(match dsF C.n o with
  | some d=>(match o.op with
   | .slice t x lo hi none=>(match look C.tt t with
    | some i=>(match i.k with
     | .string=>(match evo sl x with
      | some X=>some (d,X,lo,hi)
      | none=>none)
     | _=>none)
    | none=>none)
   | _=>none)
  | none=>none)
 | false=>none
theorem oP {α:Type}{a:Option α}{v:α}{x:Bytes}{i j:Int}{lo hi:Option Operand}(h:ck ((0:Int)≤i∧i≤j∧j≤(x.length:Int)) a=some v)(hb:slF C ops o sl=some (d,.p (.val (.string (str x))),lo,hi))(hlo:loI sl lo=some i)(hhi:hiI sl (x.length:Int) hi=some j)
  (H:(0:Int)≤i∧i≤j∧j≤(x.length:Int)→a=some v→M C Q ⟨.op ops r,k,⟨(d,.p (eS (sub x i j)))::sl,ob⟩⟩):M C Q ⟨.op ops (o::r),k,⟨sl,ob⟩⟩:=by
 obtain ⟨h1,h2⟩:=ll h
 unfold slF at hb
 split at hb
 ·rename_i hg
  split at hb
  ·rename_i e hd
   split at hb
   ·rename_i t X lo' hi' ho
    split at hb
    ·rename_i i hi
     split at hb
     ·rename_i hk
      split at hb
      ·rename_i hx
       cases hb; exact mO hg (g9 ho (jT hd).1 (jT hd).2 hi hk hx hlo hhi h1 (H h1 h2))
      ·cases hb
     ·cases hb
    ·cases hb
   ·cases hb
  ·cases hb
 ·cases hb
def atF (C:Cx)(ops:Array Oper)(o:Oper)(sl:List (Nat×AV)):Option (Nat×Nat×AV×AV):=match gF ops o sl with
 | true=>(match dsF C.n o with
  | some d=>(match o.op with
   | .indexAddr t x y=>(match look C.tt t with
    | some i=>(match i.k with
     | .slice e=>(match look C.tt e with
      | some ie=>(match evo sl x with
       | some X=>(match evo sl y with | some Y0z=>some (d,ie.size,X,Y0z) | none=>none)
       | none=>none)
      | none=>none)
     | _=>none)
    | none=>none)
   | _=>none)
  | none=>none)
 | false=>none
theorem oE {α β:Type} [Inhabited α] {a:Option β}{v:β}{f:α→PV}{l:List α}{cs:α→List PV}{X:AV}{sz:Nat}{i:IntKind}{j:Int}(h:ck ((0:Int)≤j∧j < (l.length:Int)) a=some v)(hcs:∀ x,(f x).cells=cs x)(hb:atF C ops o sl=some (d,sz,X,.p (.val (.int i j))))(hX:X.elems? = some (l.map f))(hsz:∀ x,(cs x).length=sz)
  (H:(0:Int)≤j∧j < (l.length:Int)→a=some v→M C Q ⟨.op ops r,k,⟨(d,.rptr (cs (lat l j)))::sl,ob⟩⟩):M C Q ⟨.op ops (o::r),k,⟨sl,ob⟩⟩:=by
 obtain ⟨h1,h2⟩:=ll h
 unfold atF at hb
 split at hb
 ·rename_i hg
  split at hb
  ·rename_i e hd
   split at hb
   ·rename_i t X Y0z ho
    split at hb
    ·rename_i i hi
     split at hb
     ·rename_i hk
      split at hb
      ·rename_i ie hie
       split at hb
       ·rename_i hx
        split at hb
        ·rename_i hy; cases hb; exact mO hg (ek cs ho (jT hd).1 (jT hd).2 hi hk hie hx hX hy h1 hcs hsz (H h1 h2))
        ·cases hb
       ·cases hb
      ·cases hb
     ·cases hb
    ·cases hb
   ·cases hb
  ·cases hb
 ·cases hb
def clF (C:Cx)(ops:Array Oper)(o:Oper)(sl:List (Nat×AV)):Option (Nat×FuncId×List AV):=match gF ops o sl with
 | true=>(match dsF C.n o with
  | some d=>(match o.op with
   | .call ⟨.value (.func f),args,_⟩=>(match lN sl args.toList with
    | some l=>some (d,f,l)
    | none=>none)
   | _=>none)
  | none=>none)
 | false=>none
theorem oK {f:FuncId}{l:List AV}{q:List PV}{x x':AV}(hc:aA C.P f q (·=x))(hb:clF C ops o sl=some (d,f,l))(hq:xY l q)(henter:∀ vs w,(callFunc f vs).run C.P w=.ok (.enter f vs) w)(hr:x.settle=some x')
  (H:M C Q ⟨.op ops r,k,⟨(d,x')::sl,ob⟩⟩):M C Q ⟨.op ops (o::r),k,⟨sl,ob⟩⟩:=by
 unfold clF at hb
 split at hb
 ·rename_i hg
  split at hb
  ·rename_i e hd
   split at hb
   ·rename_i f' args ts ho
    split at hb
    ·rename_i l' hl; cases hb; exact mO hg (bw hc ho (jT hd).1 (jT hd).2 hl hq henter hr H)
    ·cases hb
   ·cases hb
  ·cases hb
 ·cases hb
def tO:Operand→List Nat→List Nat
 | .tmp t,l=>t::l
 | _,l=>l
def tOs:List Operand→List Nat
 | []=>[]
 | x::r=>tO x (tOs r)
def tms (o:Oper):List Nat:=match o.op with
 | .move x=>tO x []
 | .assign x=>tO x []
 | .pick c x y=>tO c (tO x (tO y []))
 | .binOp _ _ x y _=>tO x (tO y [])
 | .unOp _ _ x=>tO x []
 | .fieldAddr _ x _=>tO x []
 | .load _ x=>tO x []
 | .nilCheck x=>tO x []
 | .extract x _=>tO x []
 | .field _ x _=>tO x []
 | .convert _ _ x=>tO x []
 | .build _ parts=>tOs (parts.toList.map (·.2))
 | .call c=>tOs c.args.toList
 | _=>[]
def gdT (ops:Array Oper)(o:Oper)(l:List Nat):List Nat:=match o.guard with
 | some (j,_)=>(match (ops.toList[j]?).bind (·.dst) with
  | some t=>t::l
  | none=>l)
 | none=>l
def knL (base:List (Nat×AV))(o:Oper)(rev:Rev):List Nat→List (Nat×AV)
 | []=>[]
 | i::r=>(match knX base o rev i with
  | some x=>(i,x)::knL base o rev r
  | none=>knL base o rev r)
theorem yQ {base:List (Nat×AV)}{rev:Rev}:∀ {l:List Nat},AP base o rev (knL base o rev l)
 | []=>trivial
 | i::r=>by
  unfold knL
  split
  ·rename_i x hx; exact ⟨CU hx,yQ⟩
  ·exact yQ
theorem lQ {kn:List (Nat×AV)}(hs:∀ i x,look kn i=some x→look sl i=some x)(x:Operand):evo kn x=none∨evo kn x=evo sl x:=by
 cases h:evo kn x with
 | none=>exact .inl Z
 | some y=>exact .inr (iV hs h).symm
theorem vk {kn:List (Nat×AV)}(hs:∀ i x,look kn i=some x→look sl i=some x):∀ {l:List (Nat×Operand)} {ps:List (Nat×AV)},fy kn l=some ps→fy sl l=some ps
 | [],ps,h=>h
 | (i,x)::r,ps,h=>by
  unfold fy at h ⊢
  split at h
  ·rename_i y l hy hl; cases h; rw [iV hs hy,vk hs hl]
  ·cases h
theorem Bl {kn:List (Nat×AV)}{y:AV}(hs:∀ i x,look kn i=some x→look sl i=some x)(h:opV C o kn ob=some y):opV C o sl ob=some y:=by
 unfold opV at h ⊢
 split at h
 ·exact iV hs h
 ·exact iV hs h
 ·rename_i c x y _
  rcases lQ hs c with e | e
  ·rw [e] at h; cases h
  ·rw [← e]
   generalize evo kn c=z at h
   unfold pkP at h ⊢
   split at h
   ·exact iV hs h
   ·exact iV hs h
   ·cases h
 ·rename_i op t x y _ _
  rcases lQ hs x with e | e
  ·rw [e] at h; cases h
  ·rw [← e]
   rcases lQ hs y with e | e
   ·rw [e] at h
    unfold bnP at h
    split at h
    ·rename_i h2; cases h2
    ·rename_i h2; cases h2
    ·cases h
   ·rw [← e]; exact h
 ·rename_i x _; rcases lQ hs x with e | e
  ·rw [e] at h; cases h
  ·rw [← e]; exact h
 ·rename_i t x f _; rcases lQ hs x with e | e
  ·rw [e] at h; unfold faP at h; (repeat' split at h) <;> first | contradiction | cases h
  ·rw [← e]; exact h
 ·rename_i t x _; rcases lQ hs x with e | e
  ·rw [e] at h; unfold ldP at h; split at h <;> cases h
  ·rw [← e]; exact h
 ·rename_i x _; rcases lQ hs x with e | e
  ·rw [e] at h; cases h
  ·rw [← e]; exact h
 ·rename_i x n _; rcases lQ hs x with e | e
  ·rw [e] at h; cases h
  ·rw [← e]; exact h
 ·rename_i t x f _; rcases lQ hs x with e | e
  ·rw [e] at h; unfold flP at h; (repeat' split at h) <;> first | contradiction | cases h
  ·rw [← e]; exact h
 ·rename_i s t x _; rcases lQ hs x with e | e
  ·rw [e] at h; unfold cvP at h; (repeat' split at h) <;> first | contradiction | cases h
  ·rw [← e]; exact h
 ·rename_i t parts _
  cases e:fy kn parts.toList with
  | none=>rw [e] at h; unfold buP at h; (repeat' split at h) <;> first | contradiction | cases h
  | some ps=>rw [e] at h; rw [vk hs e]; exact h
 ·rename_i c _
  unfold laP at h ⊢
  split at h
  ·rename_i x t _
   rcases lQ hs x with e | e
   ·rw [e] at h; (repeat' split at h) <;> first | contradiction | cases h
   ·rw [← e]; exact h
  ·cases h
 ·cases h
def oV (C:Cx)(ops:Array Oper)(o:Oper)(sl:List (Nat×AV))(ob:List (Nat×List AV)):Option AV:=match o.guard with
 | none=>opV C o sl ob
 | some _=>(match gdF ops o sl with
  | some (true,.p (.val (.bool true)))=>opV C o sl ob
  | some (true,.p (.val (.bool false)))=>some (.p (.val Go.undef))
  | some (false,.p (.val (.bool true)))=>some (.p (.val Go.undef))
  | some (false,.p (.val (.bool false)))=>opV C o sl ob
  | some (_,.p (.val v))=>(match isU v with | true=>some (.p (.val Go.undef)) | false=>none)
  | _=>none)
def drF (C:Cx)(ops:Array Oper)(base:List (Nat×AV))(ob:List (Nat×List AV))(o:Oper)(rev:Rev):Option (Nat×AV):=match nwF base rev o with
 | some d=>(match Nat.blt d C.n with
  | true=>(match oV C ops o (knL base o rev (gdT ops o (tms o))) ob with
   | some y=>some (d,y)
   | none=>none)
  | false=>none)
 | none=>none
theorem Em {kn:List (Nat×AV)}{y:AV}(h:oV C ops o kn ob=some y)(hd:o.dst=some d)(hn:Nat.blt d C.n=true):se C ops ob o kn d y:=by
 intro sl hs K hK
 unfold oV at h
 split at h
 ·rename_i hg; exact av hg (tJ (Bl hs h) hd hn hK)
 ·generalize hgd:gdF ops o kn=G0z at h
  have yes:∀ {w:Bool},gdF ops o kn=some (w,.p (.val (.bool w)))→opV C o kn ob=some y→One C ops o K ⟨sl,ob⟩:=λ hgd h=>by
   obtain ⟨j,t,hg,hj,hv⟩:=rm hgd
   exact aX (tJ (Bl hs h) hd hn hK) hg hj (hs _ _ hv) Z
  have no:∀ {w b:Bool},gdF ops o kn=some (w,.p (.val (.bool b)))→b=(!w)→y=.p (.val Go.undef)→One C ops o K ⟨sl,ob⟩:=λ hgd hb h=>by
   subst h
   obtain ⟨j,t,hg,hj,hv⟩:=rm hgd
   exact Br hg hj (hs _ _ hv) hb hd hn hK
  split at h
  ·exact yes hgd h
  ·cases h; exact no hgd Z Z
  ·cases h; exact no hgd Z Z
  ·exact yes hgd h
  ·split at h
   ·rename_i hu
    have:=Ci hu; subst this
    cases h
    obtain ⟨j,t,hg,hj,hv⟩:=rm hgd
    exact Ch hg hj (hs _ _ hv) hd hn hK
   ·cases h
  ·cases h
def drw (C:Cx)(ops:Array Oper)(base:List (Nat×AV))(ob:List (Nat×List AV)):Nat→List Oper→Nat→Rev→Option (List Oper×Nat×Rev)
 | 0,l,i,rev=>some (l,i,rev)
 | n+1,o::l,i,rev=>(match drF C ops base ob o rev with
  | some (d,y)=>drw C ops base ob n l (i+1) ((i,d,y)::rev)
  | none=>none)
 | _+1,[],_,_=>none
theorem dR {base:List (Nat×AV)}:∀ (n:Nat) {l l':List Oper} {i i':Nat} {rev rev':Rev},drw C ops base ob n l i rev=some (l',i',rev')→DQ C ops base ob K l' i' rev'→DQ C ops base ob K l i rev
 | 0,l,l',i,i',rev,rev',h,hK=>by cases h; exact hK
 | n+1,[],l',i,i',rev,rev',h,hK=>by cases h
 | n+1,o::l,l',i,i',rev,rev',h,hK=>by
  unfold drw at h
  split at h
  ·rename_i d y hd
   unfold drF at hd
   split at hd
   ·rename_i e he
    split at hd
    ·rename_i hn
     split at hd
     ·rename_i z hz
      cases hd
      exact zC y _ yQ (Em hz (qb he).1 hn) (qb he).1 (qb he).2.1 (qb he).2.2 (dR n h hK)
     ·cases hd
    ·cases hd
   ·cases hd
  ·cases h
theorem mD (base:List (Nat×AV)){id:Nat}(hm:C.P.follows .mixedOrders=true)(hb:gD sl base)(hord:(ops.toList.zipIdx.all λ p=>p.1.after.toList.all λ e=>!(Region.binds .any e)||Nat.blt e.on p.2)=true)
  (h:DQ C ops base ob (λ s'=>M C Q ⟨.ex .normal,k,s'⟩) ops.toList 0 []):M C Q ⟨.cd (.region id ops true),k,⟨sl,ob⟩⟩:=Ap base hm hb hord h
def DV:Rev→List (Nat×AV)→Option (List (Nat×AV))
 | [],b=>some b
 | (_,p)::r,b=>(match DV r b with | some l=>some (p::l) | none=>none)
theorem zy:∀ {rev:Rev} {b l:List (Nat×AV)},DV rev b=some l→l=oO rev++b
 | [],b,l,h=>by cases h; rfl
 | (i,p)::r,b,l,h=>by
  unfold DV at h
  split at h
  ·rename_i m hm; cases h; rw [zy hm]; rfl
  ·cases h
theorem dE {base l:List (Nat×AV)}{i:Nat}{rev:Rev}(h:DV rev base=some l)(hM:M C Q ⟨.ex .normal,k,⟨l,ob⟩⟩):DQ C ops base ob (λ s'=>M C Q ⟨.ex .normal,k,s'⟩) [] i rev :=
 Fo (by rw [← zy h]; exact hM)
theorem dL {base:List (Nat×AV)}{l:List Oper}{i:Nat}{rev:Rev}{q b:Bool}(hb:q=b)(h:drF C ops base ob o rev=some (d,.p (.val (.bool q))))(hK:DQ C ops base ob K l (i+1) ((i,d,.p (.val (.bool b)))::rev)):DQ C ops base ob K (o::l) i rev:=by
 subst hb
 refine dR 1 (l':=l) (i':=i+1) (rev':=(i,d,.p (.val (.bool q)))::rev) ?_ hK
 simp only [drw,h]
theorem mS (S:gz){id:Nat}(hm:C.P.follows .mixedOrders=true)(hlen:S.imp.length=S.m)(hob:S.obj 0=ob)(hb:gD sl (S.bas 0))
  (hbas:∀ j,j < S.m→gD (trL (S.D j) (S.bas j)) (S.bas (j+1))) (hnd:nodupB S.imp=true) (hin:S.imp.all (λ i=>Nat.blt i ops.size)=true) (hch:chainB ops S.imp=true)
  (hord:(ops.toList.zipIdx.all λ p=>p.1.after.toList.all λ e=>!(Region.binds .any e)||Nat.blt e.on p.2)=true) (h:DS C ops S (λ rev=>M C Q ⟨.ex .normal,k,⟨gx rev S.m++S.bas S.m,S.obj S.m⟩⟩) ops.toList 0 []):M C Q ⟨.cd (.region id ops true),k,⟨sl,ob⟩⟩ :=
 Ax S hm hlen hob hb hbas hnd hin hch hord h
def lkO (ob:List (Nat×List AV)):List Nat→Option (List (List AV))
 | []=>some []
 | t::r=>(match look ob t with
  | some x=>(match lkO ob r with | some l=>some (x::l) | none=>none)
  | none=>none)
theorem yW {sl:List (Nat×AV)}:∀ {q:List (Nat×AV)},lks sl (q.map (·.1))=some (q.map (·.2))→∀ j x,look q j=some x→look sl j=some x
 | [],_,j,x,h=>by cases h
 | (i,y)::r,hT,j,x,h=>by
  simp only [List.map_cons] at hT
  unfold lks at hT
  split at hT
  ·rename_i z hz
   split at hT
   ·rename_i l hl
    simp only [Option.some.injEq,List.cons.injEq] at hT
    rw [bf] at h
    split at h
    ·rename_i e; subst e; cases h; rw [hz,hT.1]
    ·exact yW (hl.trans (congrArg some hT.2)) j x h
   ·cases hT
  ·cases hT
theorem Cv {ob:List (Nat×List AV)}:∀ {q:List (Nat×List AV)},lkO ob (q.map (·.1))=some (q.map (·.2))→∀ j x,look q j=some x→look ob j=some x
 | [],_,j,x,h=>by cases h
 | (i,y)::r,hT,j,x,h=>by
  simp only [List.map_cons] at hT
  unfold lkO at hT
  split at hT
  ·rename_i z hz
   split at hT
   ·rename_i l hl
    simp only [Option.some.injEq,List.cons.injEq] at hT
    rw [bf] at h
    split at h
    ·rename_i e; subst e; cases h; rw [hz,hT.1]
    ·exact Cv (hl.trans (congrArg some hT.2)) j x h
   ·cases hT
  ·cases hT
def lkE (a b:List (Nat×List AV)):List (Nat×List AV)→Prop
 | []=>True
 | (i,_)::r=>look b i=look a i∧lkE a b r
theorem Cg {a b:List (Nat×List AV)}:∀ {l:List (Nat×List AV)},lkE a b l→∀ i x,look l i=some x→look b i=look a i
 | [],_,i,x,h=>by cases h
 | (j,y)::r,⟨h1,h2⟩,i,x,h=>by
  rw [bf] at h
  by_cases e:j=i
  ·subst e; exact h1
  ·rw [if_neg e] at h; exact Cg h2 i x h
theorem Fb {C:Cx}{ops:Array Oper}{S1 S2:gz}{k:Nat}{r1 r2:gS}{imp:List Nat}(h1:lks (gx r2 S2.m++S2.bas S2.m) ((gx r1 S1.m++S1.bas S1.m).map (·.1))=some ((gx r1 S1.m++S1.bas S1.m).map (·.2)))
  (h2:lkE (S1.obj S1.m) (S2.obj S2.m) (S1.obj S1.m)) (h3:rO imp r1 r2) :
  DS C ops S2 (λ rev2=>(⟨gx rev2 S2.m++S2.bas S2.m,S2.obj S2.m⟩:AS).le ⟨gx r1 S1.m++S1.bas S1.m,S1.obj S1.m⟩∧rO imp r1 rev2) [] k r2:=by
 refine ⟨⟨λ j x h=>?_,λ id cs h=>⟨cs,(Cg h2 id cs h).trans h,Nat.le_refl _,λ i c d a b=>by rw [a] at b; cases b; exact AV.sub_refl _⟩⟩,h3⟩
 have:=yW h1 j x h
 unfold AS.get
 rw [this]
 exact AV.sub_refl _
theorem mSS {C:Cx}{Q:Exit→AS→Prop}{k:List Fr}{ops:Array Oper}{sl:List (Nat×AV)}{ob:List (Nat×List AV)}(S1 S2:gz){id k1 k2:Nat}{r:List Nat}(hm:C.P.follows .mixedOrders=true)
  (hi1:S1.imp=k1::k2::r) (hi2:S2.imp=k2::k1::r) (hlen1:S1.imp.length=S1.m) (hlen2:S2.imp.length=S2.m) (hob1:S1.obj 0=ob) (hob2:S2.obj 0=ob) (hb:gD sl (S1.bas 0)) (hb2:S2.bas 0=S1.bas 0)
  (hbas1:∀ j,j < S1.m→gD (trL (S1.D j) (S1.bas j)) (S1.bas (j+1))) (hbas2:∀ j,j < S2.m→gD (trL (S2.D j) (S2.bas j)) (S2.bas (j+1)))
  (hnd:nodupB (k1::k2::r)=true) (hin:(k1::k2::r).all (λ i=>Nat.blt i ops.size)=true) (hch1:chainB ops (k1::r)=true) (hch2:chainB ops (k2::r)=true)
  (hord:(ops.toList.zipIdx.all λ p=>p.1.after.toList.all λ e=>!(Region.binds .any e)||Nat.blt e.on p.2)=true)
  (h:DS C ops S1 (λ rev1=>M C Q ⟨.ex .normal,k,⟨gx rev1 S1.m++S1.bas S1.m,S1.obj S1.m⟩⟩∧DS C ops S2 (λ rev2=>(⟨gx rev2 S2.m++S2.bas S2.m,S2.obj S2.m⟩:AS).le ⟨gx rev1 S1.m++S1.bas S1.m,S1.obj S1.m⟩∧rO (k1::k2::r) rev1 rev2) ops.toList 0 []) ops.toList 0 []) :
  M C Q ⟨.cd (.region id ops true),k,⟨sl,ob⟩⟩ :=
 yu S1 S2 hm hi1 hi2 hlen1 hlen2 hob1 hob2 hb hb2 hbas1 hbas2 hnd hin hch1 hch2 hord h
theorem gE {s t:AS}(h1:lks s.sl (t.sl.map (·.1))=some (t.sl.map (·.2)))(h2:lkO s.ob (t.ob.map (·.1))=some (t.ob.map (·.2))):dY C s t :=
 aP ⟨λ j x hx=>by
  have:=yW h1 j x hx
  simp only [AS.get,this,Option.getD_some]; exact AV.sub_refl x,λ id cs h=>⟨cs,Cv h2 id cs h,Nat.le_refl _,λ i c d hc hd=>by rw [hc] at hd; cases hd; exact AV.sub_refl _⟩⟩
theorem mP {β:Type}{v0:β}{tt:List (Nat×TI)}{fn:Func}{c:Code}(mk:β→AV)(h:M C (λ e s=>∃ v,v=v0∧BA tt fn (λ x=>x.sub (mk v)) e s) ⟨.cd c,[],s⟩):awp C c (BA tt fn (λ x=>x.sub (mk v0))) s :=
 oZ (λ e s h=>by obtain ⟨t,h1,v,rfl,h2⟩:=h; exact ⟨t,h1,h2⟩) h |> yT
theorem mQ {β:Type}{v v0:β}{tt:List (Nat×TI)}{fn:Func}{mk:β→AV}{l:List AV}(e:v=v0)(h:nP tt fn.results.toList s=some l)(hR:(np l).sub (mk v)):M C (λ e s=>∃ v,v=v0∧BA tt fn (λ x=>x.sub (mk v)) e s) ⟨.ex .ret,[],s⟩ :=
 ⟨s,bW s,v,e,nF h hR⟩
theorem mPo {β:Type}{v0:β}{tt:List (Nat×TI)}{fn:Func}{ts ids:List Nat}{c:Code}(mk:β→AV)(mo:β→List (Nat×List AV))(h:M C (λ e s=>∃ v,v=v0∧xa C tt fn ts ids (mk v) (mo v) e s) ⟨.cd c,[],s⟩):awp C c (xa C tt fn ts ids (mk v0) (mo v0)) s :=
 oZ (λ e s h=>by obtain ⟨t,h1,v,rfl,h2⟩:=h; exact ⟨t,h1,h2⟩) h |> yT
theorem mQo {β:Type}{v v0:β}{tt:List (Nat×TI)}{fn:Func}{ts ids:List Nat}{mk:β→AV}{mo:β→List (Nat×List AV)}{r1:AV}{obs obs':List (Nat×List AV)}{t:AS}{l:List AV}(e:v=v0)(hg:dY C s t)(h1:nP tt fn.results.toList t=some l)(h2:(np l).mapA (j4 ts)=some r1)
  (h3:gU t.ob ids=some obs) (h4:ia (j4 ts) obs=some obs') (h5:r1.sub (mk v)) (h6:leO obs' (mo v)):M C (λ e s=>∃ v,v=v0∧xa C tt fn ts ids (mk v) (mo v) e s) ⟨.ex .ret,[],s⟩ :=
 ⟨s,bW s,v,e,pn hg h1 h2 h3 h4 h5 h6⟩
theorem BH {β:Type}{v v0:β}{tt:List (Nat×TI)}{fn:Func}{ts ids:List Nat}{mk:β→AV}{mo:β→List (Nat×List AV)}{r1:AV}{obs obs':List (Nat×List AV)}{t:AS}{l:List AV}(e:v=v0)(hg:dY C s t)(h1:nP tt fn.results.toList t=some l)(h2:(np l).mapA (j4 ts)=some r1)
  (h3:gU t.ob ids=some obs) (h4:ia (j4 ts) obs=some obs') (h5:r1.sub (mk v)) (h6:leO obs' (mo v)):M C (λ e s=>∃ v,v=v0∧xa C tt fn ts ids (mk v) (mo v) e s) ⟨.ex .normal,[],s⟩ :=
 ⟨s,bW s,v,e,DK hg h1 h2 h3 h4 h5 h6⟩
theorem kN {c:Code}{σ:Type}(w:σ)(mk:σ→AS)(h2:M C Q ⟨.ex .normal,k,mk w⟩)(h1:M C Q ⟨.cd c,.jo (λ t=>∃ v,w=v∧t=mk v)::k,s⟩):M C Q ⟨.cd c,k,s⟩ :=
 kX (λ v=>w=v) mk (λ _ e=>e ▸ h2) h1
theorem kE (id:Nat){c:Code}{σ:Type}(w:σ)(mk:σ→AS)(h2:M C Q ⟨.ex (.exit id),k,mk w⟩)(h1:M C Q ⟨.cd c,.je id (λ t=>∃ v,w=v∧t=mk v)::k,s⟩):M C Q ⟨.cd c,k,s⟩ :=
 kEx id (λ v=>w=v) mk (λ _ e=>e ▸ h2) h1
end
end Go.Ab
namespace Go.Ab
/- What holds no identity is not touched by the marks of a box or a new object. -/
mutual
theorem DD {D:Nat→Bool}:∀ {x y:AV},AV.mapA (λ _=>none) x=some y→y=x→x.dem D=x
 | .undef,_,_,_=>rfl
 | .p _,_,_,_=>rfl
 | .vec ..,y,h,e=>by simp only [AV.mapA,Option.some.injEq] at h; subst h; cases e
 | .arr ..,_,h,_=>by simp only [AV.mapA] at h; cases h
 | .ptr ..,_,h,_=>by simp only [AV.mapA] at h; cases h
 | .bptr ..,_,h,_=>by simp only [AV.mapA] at h; cases h
 | .mp ..,_,h,_=>by simp only [AV.mapA] at h; cases h
 | .mpr ..,_,h,_=>by simp only [AV.mapA] at h; cases h
 | .stk ..,_,h,_=>by simp only [AV.mapA] at h; cases h
 | .sem _,_,h,_=>by simp only [AV.mapA] at h; cases h
 | .it ..,_,h,_=>by simp only [AV.mapA] at h; cases h
 | .vecp ..,_,h,_=>by simp only [AV.mapA] at h; cases h
 | .elp ..,_,h,_=>by simp only [AV.mapA] at h; cases h
 | .rptr _,_,_,_=>rfl
 | .agg cs,y,h,e=>by
  subst e
  simp only [AV.mapA] at h
  cases hl:AV.mapA.go (λ _=>none) cs with
  | none=>rw [hl] at h; cases h
  | some l=>rw [hl] at h; cases h; simp only [AV.dem]; exact congrArg _ (mY hl rfl)
 | .tuple cs,y,h,e=>by
  subst e
  simp only [AV.mapA] at h
  cases hl:AV.mapA.go (λ _=>none) cs with
  | none=>rw [hl] at h; cases h
  | some l=>rw [hl] at h; cases h; simp only [AV.dem]; exact congrArg _ (mY hl rfl)
 | .func f cs,y,h,e=>by
  subst e
  simp only [AV.mapA] at h
  cases hl:AV.mapA.go (λ _=>none) cs with
  | none=>rw [hl] at h; cases h
  | some l=>rw [hl] at h; cases h; simp only [AV.dem]; exact congrArg _ (mY hl rfl)
theorem mY {D:Nat→Bool}:∀ {l l':List AV},AV.mapA.go (λ _=>none) l=some l'→l'=l→ls D l=l
 | [],_,_,_=>rfl
 | x::r,l',h,e=>by
  subst e
  simp only [AV.mapA.go] at h
  split at h
  ·rename_i y z hy hz
   cases h
   simp only [ls,DD hy rfl,mY hz rfl]
  ·cases h
end
theorem F6 {C:List AV}(K:AV.mapA.go (λ _=>none) C=some C)(D:Nat→Bool):ls D C=C:=mY K Z
end Go.Ab
end
section
namespace Go.Ab
open Go
def tmO:Operand→List Nat
 | .tmp t=>[t]
 | _=>[]
def tmL:List (Nat×Operand)→List Nat
 | []=>[]
 | (_,x)::r=>tmO x++tmL r
def opR (o:Oper):List Nat:=match o.op with
 | .move x=>tmO x
 | .assign x=>tmO x
 | .pick c x y=>tmO c++(tmO x++tmO y)
 | .binOp _ _ x y _=>tmO x++tmO y
 | .unOp _ _ x=>tmO x
 | .fieldAddr _ x _=>tmO x
 | .load _ x=>tmO x
 | .nilCheck x=>tmO x
 | .extract x _=>tmO x
 | .field _ x _=>tmO x
 | .convert _ _ x=>tmO x
 | .build _ parts=>tmL parts.toList
 | .store _ x v=>tmO x++tmO v
 | _=>[]
def p8 (o:Oper):Bool:=match o.op with
 | .call _=>false
 | _=>true
def knKS:gS→Nat→Option Nat
 | [],_=>none
 | (k,d,_)::r,i=>bif Nat.beq d i then some k else knKS r i
def Fq (bas:List (Nat×AV))(o:Oper)(rev:gS)(j i:Nat):Option AV:=match look bas i with
 | some x=>some x
 | none=>(match knKS rev i with
  | some k=>(match ik o k with
   | true=>(match dA rev k with
    | some (i',v)=>(match Nat.beq i' i with
     | true=>some (v j)
     | false=>none)
    | none=>none)
   | false=>none)
  | none=>none)
def yR (bas:List (Nat×AV))(o:Oper)(rev:gS)(j:Nat):List Nat→List (Nat×AV)
 | []=>[]
 | i::r=>(match Fq bas o rev j i with
  | some x=>(i,x)::yR bas o rev j r
  | none=>yR bas o rev j r)
theorem Dt {bas:List (Nat×AV)}{o:Oper}{rev:gS}{j i:Nat}{x:AV}(h:Fq bas o rev j i=some x):look bas i=some x∨∃ k v,ik o k=true∧dA rev k=some (i,v)∧v j=x:=by
 unfold Fq at h
 split at h
 ·rename_i y hy; cases h; exact .inl hy
 ·split at h
  ·rename_i k hk
   split at h
   ·rename_i hb
    split at h
    ·rename_i i' v hl
     split at h
     ·rename_i hi
      cases h
      exact .inr ⟨k,v,hb,by rw [hl,Nat.eq_of_beq_eq_true hi],Z⟩
     ·cases h
    ·cases h
   ·cases h
  ·cases h
theorem pp {bas:List (Nat×AV)}{o:Oper}{rev:gS}{j:Nat}:∀ (l:List Nat),KnS bas o rev j (yR bas o rev j l)
 | []=>trivial
 | i::r=>by
  unfold yR
  split
  ·rename_i x hx; exact ⟨Dt hx,pp r⟩
  ·exact pp r
section
variable {kn sl:List (Nat×AV)} {ob:List (Nat×List AV)} {C:Cx} {o:Oper}
theorem y5 {F:Option AV→Option AV}{x:Operand}{y:AV}(hs:∀ i x,look kn i=some x→look sl i=some x)(hF:F none=none)(h:F (evo kn x)=some y):F (evo sl x)=some y:=by
 cases hx:evo kn x with
 | none=>rw [hx,hF] at h; cases h
 | some v=>rw [hx] at h; rw [iV hs hx]; exact h
theorem DO {c x y:Operand}{z:AV}(hs:∀ i x,look kn i=some x→look sl i=some x)(h:pkP kn x y (evo kn c)=some z):pkP sl x y (evo sl c)=some z:=by
 cases hc:evo kn c with
 | none=>rw [hc] at h; cases h
 | some v =>
  rw [hc] at h
  rw [iV hs hc]
  unfold pkP at h ⊢
  split at h
  ·exact iV hs h
  ·exact iV hs h
  ·cases h
theorem Do {op:BinOp}{t:TypeId}(Y0z:Option AV):bnP C op t none Y0z=none:=by
 unfold bnP
 split <;> first | rfl | contradiction | (rename_i h _; cases h) | (rename_i h; cases h)
theorem C6 {op:BinOp}{t:TypeId}(X:Option AV):bnP C op t X none=none:=by
 unfold bnP
 split <;> first | rfl | contradiction | (rename_i h _; cases h) | (rename_i h; cases h)
theorem Eo {op:BinOp}{t:TypeId}{x y:Operand}{z:AV}(hs:∀ i x,look kn i=some x→look sl i=some x)(h:bnP C op t (evo kn x) (evo kn y)=some z):bnP C op t (evo sl x) (evo sl y)=some z:=by
 cases hx:evo kn x with
 | none=>rw [hx,Do] at h; cases h
 | some v =>
  cases hy:evo kn y with
  | none=>rw [hy,C6] at h; cases h
  | some u =>
   rw [hx,hy] at h
   rw [iV hs hx,iV hs hy]; exact h
theorem uu (hs:∀ i x,look kn i=some x→look sl i=some x):∀ {ps:List (Nat×Operand)} {l:List (Nat×AV)},fy kn ps=some l→fy sl ps=some l
 | [],l,h=>h
 | (i,x)::r,l,h=>by
  unfold fy at h ⊢
  cases hx:evo kn x with
  | none=>rw [hx] at h; cases h
  | some v =>
   cases hr:fy kn r with
   | none=>rw [hx,hr] at h; cases h
   | some m =>
    rw [hx,hr] at h
    rw [iV hs hx,uu hs hr]; exact h
theorem Ei {t f:Nat}:faP C t f none=none:=by
 unfold faP
 repeat' split
 all_goals first | rfl | contradiction
theorem Dv {t:Nat}:ldP C ob t none=none:=by
 unfold ldP
 repeat' split
 all_goals first | rfl | contradiction
theorem Dk {t f:Nat}:flP C t f none=none:=by
 unfold flP
 repeat' split
 all_goals first | rfl | contradiction
theorem DN {t f:Nat}:cvP C t f none=none:=by
 unfold cvP
 repeat' split
 all_goals first | rfl | contradiction
theorem Di {t:Nat}:buP C t none=none:=by
 unfold buP
 repeat' split
 all_goals first | rfl | contradiction
theorem D4 {t:Nat}{ps:List (Nat×Operand)}{y:AV}(hs:∀ i x,look kn i=some x→look sl i=some x)(h:buP C t (fy kn ps)=some y):buP C t (fy sl ps)=some y:=by
 cases hp:fy kn ps with
 | none=>rw [hp,Di] at h; cases h
 | some l=>rw [hp] at h; rw [uu hs hp]; exact h
theorem xK {y:AV}(hs:∀ i x,look kn i=some x→look sl i=some x)(hc:p8 o=true)(h:opV C o kn ob=some y):opV C o sl ob=some y:=by
 unfold opV p8 at *
 cases ho:o.op <;> simp only [ho] at h hc ⊢
 all_goals first
  | (cases h; done)
  | exact iV hs h
  | exact DO hs h
  | exact Eo hs h
  | exact y5 (F:=faP C _ _) hs Ei h
  | exact y5 (F:=ldP C ob _) hs Dv h
  | exact y5 (F:=ncP) hs Z h
  | exact y5 (F:=xtP _) hs Z h
  | exact y5 (F:=flP C _ _) hs Dk h
  | exact y5 (F:=cvP C _ _) hs DN h
  | exact D4 hs h
  | (cases hc; done)
  | skip
 all_goals (rename_i op _ _; cases op <;> simp only at h ⊢)
 all_goals first
  | (cases h; done)
  | exact y5 (F:=ntP) hs Z h
def stV (C:Cx)(o:Oper)(kn:List (Nat×AV))(ob:List (Nat×List AV)):Option (List (Nat×List AV)):=match o.op with
 | .store t x v=>(match look C.tt t with
  | some i=>(match evo kn x with
   | some (.ptr id k)=>(match evo kn v with
    | some y=>(match y.cellsA with
     | some xs=>(match Nat.beq xs.length i.size with
      | true=>(match look ob id with
       | some cs=>(match Nat.ble (k+xs.length) cs.length with
        | true=>some ((id,ra cs k xs)::ob)
        | false=>none)
       | none=>none)
      | false=>none)
     | none=>none)
    | none=>none)
   | _=>none)
  | none=>none)
 | _=>none
theorem EW {ops:Array Oper}{ob':List (Nat×List AV)}{K:AS→Prop}(h:stV C o kn ob=some ob')(hg:o.guard=none)(hd:o.dst=none)(hs:∀ i x,look kn i=some x→look sl i=some x)(hK:K ⟨sl,ob'⟩):One C ops o K ⟨sl,ob⟩:=by
 unfold stV at h
 split at h
 ·rename_i t x v ho
  split at h
  ·rename_i i hi
   split at h
   ·rename_i id k hx
    split at h
    ·rename_i y hv
     split at h
     ·rename_i xs hc
      split at h
      ·rename_i hsz
       split at h
       ·rename_i cs hob
        split at h
        ·rename_i hl
         cases h
         exact av hg (oU ho hd hi (iV hs hx) (iV hs hv) hc (Nat.eq_of_beq_eq_true hsz) hob (Nat.le_of_ble_eq_true hl) hK)
        ·cases h
       ·cases h
      ·cases h
     ·cases h
    ·cases h
   ·cases h
  ·cases h
 ·cases h
end
section
variable {C:Cx} {ops:Array Oper} {S:gz} {K:gS→Prop} {o:Oper} {k:Nat} {rev:gS} {d:Nat}
def sV (C:Cx)(ops:Array Oper)(S:gz)(o:Oper)(R:List Nat)(k:Nat)(rev:gS)(v:Nat→AV)(j:Nat):Option AV:=match nJ ops S.imp o k j with
 | true=>opV C o (yR (S.bas j) o rev j R) (S.obj j)
 | false=>some (v j)
def sL (C:Cx)(ops:Array Oper)(S:gz)(o:Oper)(R:List Nat)(k:Nat)(rev:gS)(v:Nat→AV):Nat→List (Option AV)
 | 0=>[]
 | j+1=>sV C ops S o R k rev v j::sL C ops S o R k rev v j
def gL (ops:Array Oper)(S:gz)(o:Oper)(R:List Nat)(k:Nat)(rev:gS)(t:Nat)(x:AV):Nat→List (Option AV)
 | 0=>[]
 | j+1=>(match nJ ops S.imp o k j with
  | true=>look (yR (S.bas j) o rev j R) t
  | false=>some x)::gL ops S o R k rev t x j
def vL (v:Nat→AV):Nat→List (Option AV)
 | 0=>[]
 | j+1=>some (v j)::vL v j
theorem Ew {v:Nat→AV}(hg:o.guard=none)(hd:o.dst=some d)(hn:Nat.blt d C.n=true)(hc:p8 o=true):∀ {m:Nat},sL C ops S o (opR o) k rev v m=vL v m→Stg C ops S o k rev d v m
 | 0,_=>trivial
 | j+1,h=>by
  have h1:sV C ops S o (opR o) k rev v j=some (v j):=(List.cons.inj h).1
  refine ⟨λ ha=>?_,Ew hg hd hn hc (List.cons.inj h).2⟩
  unfold sV at h1
  rw [ha] at h1
  exact ⟨_,pp _,λ sl hs K hK=>av hg (tJ (xK hs hc h1) hd hn hK)⟩
def cL (S:gz)(d:Nat):Nat→List (Option AV)
 | 0=>[]
 | j+1=>look (S.bas j) d::cL S d j
def nL:Nat→List (Option AV)
 | 0=>[]
 | j+1=>none::nL j
def aL (v:Nat→AV):Nat→List AV
 | 0=>[]
 | j+1=>v (j+1)::aL v j
def bL (S:gz)(v:Nat→AV):Nat→List AV
 | 0=>[]
 | j+1=>trA (S.D j) (v j)::bL S v j
theorem BL:∀ {m:Nat},cL S d m=nL m→∀ j,j < m→look (S.bas j) d=none
 | 0,_,j,h=>absurd h (Nat.not_lt_zero _)
 | m+1,h,j,hj=>by
  by_cases e:j=m
  ·subst e; exact (List.cons.inj h).1
  ·exact BL (List.cons.inj h).2 j O
theorem zr {v:Nat→AV}:∀ {m:Nat},aL v m=bL S v m→∀ j,j < m→v (j+1)=trA (S.D j) (v j)
 | 0,_,j,h=>absurd h (Nat.not_lt_zero _)
 | m+1,h,j,hj=>by
  by_cases e:j=m
  ·subst e; exact (List.cons.inj h).1
  ·exact zr (List.cons.inj h).2 j O
theorem dP {rest:List Oper}(v:Nat→AV)
  (e:(o.dst,S.imp.findIdx? (Nat.beq k),o.guard,p8 o,(rev.all λ p=>!(Nat.beq p.2.1 d)),Nat.blt d C.n,cL S d S.m,(λ j=>look (S.bas (j+S.m)) d),aL v S.m,sL C ops S o (opR o) k rev v (S.m+1))=(some d,none,none,true,true,true,nL S.m,(λ _=>none),bL S v S.m,vL v (S.m+1)))
  (h:DS C ops S K rest (k+1) ((k,d,v)::rev)):DS C ops S K (o::rest) k rev:=by
 simp only [Prod.mk.injEq] at e
 obtain ⟨e1,e2,e3,e4,e5,e6,e7,e8,e9,e10⟩:=e
 refine bE v e2 e1 e5 (λ j=>?_) (zr e9) (Ew e3 e1 e6 e4 e10) h
 by_cases hj:j < S.m
 ·exact BL e7 j hj
 ·have:look (S.bas (j - S.m+S.m)) d=none:=congrFun e8 (j - S.m)
  rwa [show j - S.m+S.m=j by omega] at this
theorem dPc {rest:List Oper}(y:AV)
  (e:(o.dst,S.imp.findIdx? (Nat.beq k),o.guard,p8 o,(rev.all λ p=>!(Nat.beq p.2.1 d)),Nat.blt d C.n,cL S d S.m,(λ j=>look (S.bas (j+S.m)) d),aL (λ _=>y) S.m,sL C ops S o (opR o) k rev (λ _=>y) (S.m+1))=(some d,none,none,true,true,true,nL S.m,(λ _=>none),bL S (λ _=>y) S.m,vL (λ _=>y) (S.m+1)))
  (h:DS C ops S K rest (k+1) ((k,d,λ _=>y)::rev)):DS C ops S K (o::rest) k rev:=dP (λ _=>y) e h
theorem dS {rest:List Oper}{i:Nat}
  (e:(S.imp.findIdx? (Nat.beq k),o.dst,o.guard,S.D i,stV C o (yR (S.bas i) o rev i (opR o)) (S.obj i))=(some i,none,none,Tr.none,some (S.obj (i+1))))
  (h:DS C ops S K rest (k+1) rev):DS C ops S K (o::rest) k rev:=by
 simp only [Prod.mk.injEq] at e
 obtain ⟨e1,e2,e3,e4,e5⟩:=e
 refine qR _ e1 (pp (opR o)) e2 (λ sl hs K hK=>?_) h
 rw [e4] at hK
 exact EW e5 e3 e2 hs hK
theorem BQ (e7:cL S d S.m=nL S.m)(e8:(λ j=>look (S.bas (j+S.m)) d)=λ _=>none)(j:Nat):look (S.bas j) d=none:=by
 by_cases hj:j < S.m
 ·exact BL e7 j hj
 ·have:look (S.bas (j - S.m+S.m)) d=none:=congrFun e8 (j - S.m)
  rwa [show j - S.m+S.m=j by omega] at this
theorem Bg {v:Nat→AV}{R:List Nat}{w b:Bool}{g t:Nat}(hb:b=w)(hg:o.guard=some (g,w))(hj:(ops.toList[g]?).bind (·.dst)=some t)(hd:o.dst=some d)(hn:Nat.blt d C.n=true)(hc:p8 o=true) :
  ∀ {m:Nat},gL ops S o R k rev t (.p (.val (.bool b))) m=vL (λ _=>.p (.val (.bool b))) m→sL C ops S o R k rev v m=vL v m→Stg C ops S o k rev d v m
 | 0,_,_=>trivial
 | j+1,hG,h=>by
  have h1:sV C ops S o R k rev v j=some (v j):=(List.cons.inj h).1
  have h2:=(List.cons.inj hG).1
  refine ⟨λ ha=>?_,Bg hb hg hj hd hn hc (List.cons.inj hG).2 (List.cons.inj h).2⟩
  unfold sV at h1
  rw [ha] at h1 h2
  exact ⟨_,pp _,λ sl hs K hK=>aX (tJ (xK hs hc h1) hd hn hK) hg hj (hs _ _ h2) hb⟩
theorem dPy {rest:List Oper}{w b:Bool}{g t:Nat}(v:Nat→AV)(hb:b=w)
  (e:(o.dst,o.guard,(ops.toList[g]?).bind (·.dst),S.imp.findIdx? (Nat.beq k),p8 o,(rev.all λ p=>!(Nat.beq p.2.1 d)),Nat.blt d C.n,cL S d S.m,(λ j=>look (S.bas (j+S.m)) d),aL v S.m,gL ops S o (t::opR o) k rev t (.p (.val (.bool b))) (S.m+1),sL C ops S o (t::opR o) k rev v (S.m+1))=(some d,some (g,w),some t,none,true,true,true,nL S.m,(λ _=>none),bL S v S.m,vL (λ _=>.p (.val (.bool b))) (S.m+1),vL v (S.m+1)))
  (h:DS C ops S K rest (k+1) ((k,d,v)::rev)):DS C ops S K (o::rest) k rev:=by
 simp only [Prod.mk.injEq] at e
 obtain ⟨e1,e2,e3,e4,e5,e6,e7,e8,e9,e10,e11,e12⟩:=e
 exact bE v e4 e1 e6 (BQ e8 e9) (zr e10) (Bg hb e2 e3 e1 e7 e5 e11 e12) h
theorem Co {R:List Nat}{w b:Bool}{g t:Nat}(hb:b=!w)(hg:o.guard=some (g,w))(hj:(ops.toList[g]?).bind (·.dst)=some t)(hd:o.dst=some d)(hn:Nat.blt d C.n=true) :
  ∀ {m:Nat},gL ops S o R k rev t (.p (.val (.bool b))) m=vL (λ _=>.p (.val (.bool b))) m→Stg C ops S o k rev d (λ _=>.p (.val Go.undef)) m
 | 0,_=>trivial
 | j+1,hG=>by
  have h2:=(List.cons.inj hG).1
  refine ⟨λ ha=>?_,Co hb hg hj hd hn (List.cons.inj hG).2⟩
  rw [ha] at h2
  exact ⟨_,pp _,λ sl hs K hK=>Br hg hj (hs _ _ h2) hb hd hn hK⟩
theorem dPn {rest:List Oper}{w b:Bool}{g t:Nat}(hb:b=!w)
  (e:(o.dst,o.guard,(ops.toList[g]?).bind (·.dst),S.imp.findIdx? (Nat.beq k),(rev.all λ p=>!(Nat.beq p.2.1 d)),Nat.blt d C.n,cL S d S.m,(λ j=>look (S.bas (j+S.m)) d),aL (λ _=>.p (.val Go.undef)) S.m,gL ops S o [t] k rev t (.p (.val (.bool b))) (S.m+1))=(some d,some (g,w),some t,none,true,true,nL S.m,(λ _=>none),bL S (λ _=>.p (.val Go.undef)) S.m,vL (λ _=>.p (.val (.bool b))) (S.m+1)))
  (h:DS C ops S K rest (k+1) ((k,d,λ _=>.p (.val Go.undef))::rev)):DS C ops S K (o::rest) k rev:=by
 simp only [Prod.mk.injEq] at e
 obtain ⟨e1,e2,e3,e4,e6,e7,e8,e9,e10,e11⟩:=e
 exact bE _ e4 e1 e6 (BQ e8 e9) (zr e10) (Co hb e2 e3 e1 e7 e11) h
end
def lkM (s:List (Nat×List AV)):List (Nat×List AV)→List (Option (List AV))
 | []=>[]
 | (j,_)::r=>look s j::lkM s r
def smM:List (Nat×List AV)→List (Option (List AV))
 | []=>[]
 | (_,cs)::r=>some cs::smM r
theorem uq {s:List (Nat×List AV)}:∀ {t:List (Nat×List AV)},lkM s t=smM t→leO s t
 | [],_=>trivial
 | (j,cs)::r,h=>⟨⟨cs,(List.cons.inj h).1,ah cs⟩,uq (List.cons.inj h).2⟩
theorem uR:∀ l:List AV,pT l l
 | []=>trivial
 | x::r=>⟨AV.sub_refl x,uR r⟩
def lkB (sl:List (Nat×AV)):List (Nat×AV)→List (Option AV)
 | []=>[]
 | (i,_)::r=>look sl i::lkB sl r
def smB:List (Nat×AV)→List (Option AV)
 | []=>[]
 | (_,x)::r=>some x::smB r
theorem rC {sl:List (Nat×AV)}:∀ {b:List (Nat×AV)},lkB sl b=smB b→gD sl b
 | [],_=>trivial
 | (i,x)::r,h=>⟨(List.cons.inj h).1,rC (List.cons.inj h).2⟩
def lkS (S:gz):Nat→List (List (Option AV))
 | 0=>[]
 | j+1=>lkB (trL (S.D j) (S.bas j)) (S.bas (j+1))::lkS S j
def smS (S:gz):Nat→List (List (Option AV))
 | 0=>[]
 | j+1=>smB (S.bas (j+1))::smS S j
theorem ui {S:gz}:∀ {m:Nat},lkS S m=smS S m→∀ j,j < m→gD (trL (S.D j) (S.bas j)) (S.bas (j+1))
 | 0,_,j,h=>absurd h (Nat.not_lt_zero _)
 | m+1,h,j,hj=>by
  by_cases e:j=m
  ·subst e; exact rC (List.cons.inj h).1
  ·exact ui (List.cons.inj h).2 j O
section
variable {C:Cx} {Q:Exit→AS→Prop} {K:AS→Prop} {sl:List (Nat×AV)} {ob:List (Nat×List AV)} {o:Oper} {d:Nat} {s:AS} {k:List Fr} {ops:Array Oper}
theorem cVq (ids vids:List Nat)(NB NE:Nat){f:FuncId}{args:Array Operand}{ts:Array TypeId}{l q:List AV}{obs qo rob ob':List (Nat×List AV)}{r r':AV}(hc:bN C.P f q qo (λ x y=>x=r∧y=rob))(henter:∀ vs w,(callFunc f vs).run C.P w=.ok (.enter f vs) w)
  (e:(o.op,o.dst,Nat.blt d C.n,lN sl args.toList,AV.mapA.go (pS ids vids) l,gU ob ids,ia (pS ids vids) obs,lkM qo qo,nodupB ids,ids.all (λ i=>Nat.blt i (2*M1)),Nat.ble ids.length M1,Nat.ble NE M1,ids.all (λ i=>!(eM vids NB NE i)),nodupB vids,vids.all (λ i=>Nat.blt i M1),Nat.ble vids.length 100000,r.mapA (ln ids NB NE),ia (ln ids NB NE) rob)=(.call { callee:=.value (.func f),args:=args,argTypes:=ts },some d,true,some l,some q,some obs,some qo,smM qo,true,true,true,true,true,true,true,true,some r',some ob'))
  (hK:K ⟨(d,r')::(ct (eM vids NB NE) ⟨sl,ob⟩).sl,ob'++(ct (eM vids NB NE) ⟨sl,ob.filter λ p=>!(ids.any (Nat.beq p.1))⟩).ob⟩):aW C o K ⟨sl,ob⟩:=by
 simp only [Prod.mk.injEq] at e
 obtain ⟨e1,e2,e3,e4,e5,e6,e7,e8,e9,e10,e11,e12,e13,e14,e15,e16,e17,e18⟩:=e
 exact b8 ids vids NB NE hc e1 e2 e3 e4 e5 (uR _) e6 e7 (uq e8) e9 e10 e11 e12 e13 e14 e15 e16 henter e17 e18 hK
theorem Ca {β:Type}{v v0:β}{tt:List (Nat×TI)}{fn:Func}{ts ids:List Nat}{mk:β→AV}{mo:β→List (Nat×List AV)}{obs:List (Nat×List AV)}{l:List AV}(e:some v=some v0)
  (h:(nP tt fn.results.toList s,(np l).mapA (j4 ts),gU s.ob ids,ia (j4 ts) obs,lkM (mo v) (mo v))=(some l,some (mk v),some obs,some (mo v),smM (mo v))):M C (λ e s=>∃ v,v=v0∧xa C tt fn ts ids (mk v) (mo v) e s) ⟨.ex .ret,[],s⟩:=by
 simp only [Prod.mk.injEq] at h
 obtain ⟨h1,h2,h3,h4,h5⟩:=h
 exact mQo (Option.some.inj e) (bW _) h1 h2 h3 h4 (AV.sub_refl _) (uq h5)
theorem mSq (S:gz){id:Nat}
  (e:(C.P.follows .mixedOrders,S.imp.length,S.obj 0,lkB sl (S.bas 0),lkS S S.m,nodupB S.imp,S.imp.all (λ i=>Nat.blt i ops.size),chainB ops S.imp,(ops.toList.zipIdx.all λ p=>p.1.after.toList.all λ e=>!(Region.binds .any e)||Nat.blt e.on p.2))=(true,S.m,ob,smB (S.bas 0),smS S S.m,true,true,true,true))
  (h:DS C ops S (λ rev=>M C Q ⟨.ex .normal,k,⟨gx rev S.m++S.bas S.m,S.obj S.m⟩⟩) ops.toList 0 []):M C Q ⟨.cd (.region id ops true),k,⟨sl,ob⟩⟩:=by
 simp only [Prod.mk.injEq] at e
 obtain ⟨e1,e2,e3,e4,e5,e6,e7,e8,e9⟩:=e
 exact mS S e1 e2 e3 (rC e4) (ui e5) e6 e7 e8 e9 h
end
def ob2 (A:List (Nat×List AV))(x:Nat×List AV):Nat→List (Nat×List AV)
 | 0=>A
 | _+1=>x::A
def ob3 (A:List (Nat×List AV))(x y:Nat×List AV):Nat→List (Nat×List AV)
 | 0=>A
 | 1=>x::A
 | _+2=>y::x::A
def ob4 (A:List (Nat×List AV))(x y z:Nat×List AV):Nat→List (Nat×List AV)
 | 0=>A
 | 1=>x::A
 | 2=>y::x::A
 | _+3=>z::y::x::A
end Go.Ab
end
section
namespace Go.Ab
set_option autoImplicit false
structure lR where
 fFrom:Bytes
 fTo:Bytes
 deriving Inhabited,DecidableEq
def lR.cs (x:lR):List PV:=[eS x.fFrom,eS x.fTo]
def mI (x:lR):PV:=.agg (lR.cs x)
theorem lR.cells_eq (x:lR):(mI x).cells=lR.cs x:=rfl
structure gp where
 fNodes:List Bytes
 fEdges:List lR
 deriving Inhabited,DecidableEq
def gp.cs (x:gp):List PV:=[eL eS x.fNodes,eL mI x.fEdges]
inductive ay where
 | mk (fKind:Int) (fNum:Int) (fStr:Bytes) (fItems:List ay) (fKeys:List Bytes)
def ay.fKind:ay→Int | .mk x _ _ _ _=>x
def ay.fNum:ay→Int | .mk _ x _ _ _=>x
def ay.fStr:ay→Bytes | .mk _ _ x _ _=>x
def ay.fItems:ay→List ay | .mk _ _ _ x _=>x
def ay.fKeys:ay→List Bytes | .mk _ _ _ _ x=>x
instance:Inhabited ay:=⟨.mk 0 0 [] [] []⟩
mutual
def ay.ccs:ay→List PV
 | .mk fKind fNum fStr fItems fKeys=>[eI fKind]++[eI fNum]++[eS fStr]++[.slice (ay.els fItems)]++[eL eS fKeys]
def ay.els:List ay→List PV
 | []=>[]
 | x::r=>.agg (ay.ccs x)::ay.els r
end
def b5 (x:ay):PV:=.agg (ay.ccs x)
theorem ay.els_eq:∀ l,ay.els l=l.map b5
 | []=>by simp only [ay.els,List.map_nil]
 | x::r=>by simp only [ay.els,List.map_cons,ay.els_eq r,b5]
def ay.cs (x:ay):List PV:=[eI x.fKind,eI x.fNum,eS x.fStr,eL b5 x.fItems,eL eS x.fKeys]
theorem ay.ccs_eq (x:ay):ay.ccs x=ay.cs x:=by
 cases x
 simp only [ay.ccs,ay.cs,eL,List.cons_append,List.nil_append,ay.els_eq,ay.fKind,ay.fNum,ay.fStr,ay.fItems,ay.fKeys]
theorem ay.cells_eq (x:ay):(b5 x).cells=ay.cs x:=ay.ccs_eq x
theorem ay.agg_eq (x:ay):b5 x=.agg (ay.cs x):=congrArg PV.agg (ay.ccs_eq x)
theorem ay.eta (x:ay):ay.mk x.fKind x.fNum x.fStr x.fItems x.fKeys=x:=by cases x; rfl
structure ab where
 fAddr:Bytes
 fDeposed:Bytes
 fType:Bytes
 fAction:Int
 fReason:Int
 fBefore:ay
 fAfter:ay
 fID:Bytes
 fReplace:List Bytes
 fCreateFirst:Bool
 fProtect:Bool
 fImport:Bool
 fDeps:List Bytes
 fOldDeps:List Bytes
 deriving Inhabited
def ab.cs (x:ab):List PV:=[eS x.fAddr,eS x.fDeposed,eS x.fType,eI x.fAction,eI x.fReason,eI x.fBefore.fKind,eI x.fBefore.fNum,eS x.fBefore.fStr,eL b5 x.fBefore.fItems,eL eS x.fBefore.fKeys,eI x.fAfter.fKind,eI x.fAfter.fNum,eS x.fAfter.fStr,eL b5 x.fAfter.fItems,eL eS x.fAfter.fKeys,eS x.fID,eL eS x.fReplace,eB x.fCreateFirst,eB x.fProtect,eB x.fImport,eL eS x.fDeps,eL eS x.fOldDeps]
def ae (x:ab):PV:=.agg (ab.cs x)
theorem ab.cells_eq (x:ab):(ae x).cells=ab.cs x:=rfl
structure cN where
 fchanges:List ab
 fresources:List Bytes
 fchosen:List Bool
 ftodo:List Int
 deriving Inhabited
structure bT where
 fKind:Int
 fNum:Int
 fStr:Bytes
 deriving Inhabited,DecidableEq
def bT.cs (x:bT):List PV:=[eI x.fKind,eI x.fNum,eS x.fStr]
structure ac where
 fName:Bytes
 fKey:bT
 deriving Inhabited,DecidableEq
def ac.cs (x:ac):List PV:=[eS x.fName,eI x.fKey.fKind,eI x.fKey.fNum,eS x.fKey.fStr]
def ag (x:ac):PV:=.agg (ac.cs x)
theorem ac.cells_eq (x:ac):(ag x).cells=ac.cs x:=rfl
structure al where
 fModule:List ac
 fData:Bool
 fType:Bytes
 fName:Bytes
 fKey:bT
 deriving Inhabited,DecidableEq
def al.cs (x:al):List PV:=[eL ag x.fModule,eB x.fData,eS x.fType,eS x.fName,eI x.fKey.fKind,eI x.fKey.fNum,eS x.fKey.fStr]
structure am where
 frest:Bytes
 fbad:Bool
 deriving Inhabited,DecidableEq
def am.cs (x:am):List PV:=[eS x.frest,eB x.fbad]
structure fc where
 fAddr:al
 fWhole:Bool
 deriving Inhabited,DecidableEq
def fc.cs (x:fc):List PV:=[eL ag x.fAddr.fModule,eB x.fAddr.fData,eS x.fAddr.fType,eS x.fAddr.fName,eI x.fAddr.fKey.fKind,eI x.fAddr.fKey.fNum,eS x.fAddr.fKey.fStr,eB x.fWhole]
end Go.Ab
end
section
namespace Go.Ab
open Go.Proofs
def tt:List (Nat×TI):=[
 (2,⟨.int .i64,1,8,[.int .i64 0]⟩),
 (3,⟨.int .i64,1,8,[.int .i64 0]⟩),
 (4,⟨.bool,1,1,[.bool false]⟩),
 (5,⟨.int .u8,1,1,[.int .u8 0]⟩),
 (6,⟨.int .u8,1,1,[.int .u8 0]⟩),
 (7,⟨.struct [(0,2),(1,3),(2,4),(3,6)],4,24,[.int .i64 0,.int .i64 0,.bool false,.int .u8 0]⟩),
 (8,⟨.struct [(0,2),(1,3),(2,4),(3,6)],4,24,[.int .i64 0,.int .i64 0,.bool false,.int .u8 0]⟩),
 (9,⟨.string,1,16,[.string ⟨#[]⟩]⟩),
 (10,⟨.string,1,16,[.string ⟨#[]⟩]⟩),
 (11,⟨.string,1,16,[.string ⟨#[]⟩]⟩),
 (12,⟨.int .u64,1,8,[.int .u64 0]⟩),
 (13,⟨.struct [(0,9),(1,12)],2,24,[.string ⟨#[]⟩,.int .u64 0]⟩),
 (14,⟨.struct [(0,9),(1,12)],2,24,[.string ⟨#[]⟩,.int .u64 0]⟩),
 (15,⟨.ptr 208,1,8,[.pointer none]⟩),
 (16,⟨.ptr 211,1,8,[.pointer none]⟩),
 (17,⟨.ptr 218,1,8,[.pointer none]⟩),
 (18,⟨.struct [(0,17)],1,8,[.pointer none]⟩),
 (19,⟨.struct [(0,17)],1,8,[.pointer none]⟩),
 (20,⟨.iface,1,16,[.nilIface]⟩),
 (21,⟨.int .i32,1,4,[.int .i32 0]⟩),
 (22,⟨.slice 9,1,24,[.slice none 0 0]⟩),
 (24,⟨.int .i64,1,8,[.int .i64 0]⟩),
 (30,⟨.slice 56,1,24,[.slice none 0 0]⟩),
 (31,⟨.struct [(0,22),(1,30)],2,48,[.slice none 0 0,.slice none 0 0]⟩),
 (32,⟨.struct [(0,22),(1,30)],2,48,[.slice none 0 0,.slice none 0 0]⟩),
 (37,⟨.slice 47,1,24,[.slice none 0 0]⟩),
 (40,⟨.int .i64,1,8,[.int .i64 0]⟩),
 (41,⟨.int .i64,1,8,[.int .i64 0]⟩),
 (42,⟨.int .i64,1,8,[.int .i64 0]⟩),
 (43,⟨.slice 45,1,24,[.slice none 0 0]⟩),
 (44,⟨.struct [(0,42),(1,3),(2,9),(3,43),(4,22)],5,80,[.int .i64 0,.int .i64 0,.string ⟨#[]⟩,.slice none 0 0,.slice none 0 0]⟩),
 (45,⟨.struct [(0,42),(1,3),(2,9),(3,43),(4,22)],5,80,[.int .i64 0,.int .i64 0,.string ⟨#[]⟩,.slice none 0 0,.slice none 0 0]⟩),
 (46,⟨.struct [(0,9),(1,9),(2,9),(3,40),(4,41),(5,45),(10,45),(15,9),(16,22),(17,4),(18,4),(19,4),(20,22),(21,22)],22,320,[.string ⟨#[]⟩,.string ⟨#[]⟩,.string ⟨#[]⟩,.int .i64 0,.int .i64 0,.int .i64 0,.int .i64 0,.string ⟨#[]⟩,.slice none 0 0,.slice none 0 0,.int .i64 0,.int .i64 0,.string ⟨#[]⟩,.slice none 0 0,.slice none 0 0,.string ⟨#[]⟩,.slice none 0 0,.bool false,.bool false,.bool false,.slice none 0 0,.slice none 0 0]⟩),
 (47,⟨.struct [(0,9),(1,9),(2,9),(3,40),(4,41),(5,45),(10,45),(15,9),(16,22),(17,4),(18,4),(19,4),(20,22),(21,22)],22,320,[.string ⟨#[]⟩,.string ⟨#[]⟩,.string ⟨#[]⟩,.int .i64 0,.int .i64 0,.int .i64 0,.int .i64 0,.string ⟨#[]⟩,.slice none 0 0,.slice none 0 0,.int .i64 0,.int .i64 0,.string ⟨#[]⟩,.slice none 0 0,.slice none 0 0,.string ⟨#[]⟩,.slice none 0 0,.bool false,.bool false,.bool false,.slice none 0 0,.slice none 0 0]⟩),
 (55,⟨.struct [(0,9),(1,9)],2,32,[.string ⟨#[]⟩,.string ⟨#[]⟩]⟩),
 (56,⟨.struct [(0,9),(1,9)],2,32,[.string ⟨#[]⟩,.string ⟨#[]⟩]⟩),
 (61,⟨.ptr 65,1,8,[.pointer none]⟩),
 (62,⟨.slice 4,1,24,[.slice none 0 0]⟩),
 (63,⟨.slice 3,1,24,[.slice none 0 0]⟩),
 (64,⟨.struct [(0,37),(1,22),(2,62),(3,63)],4,96,[.slice none 0 0,.slice none 0 0,.slice none 0 0,.slice none 0 0]⟩),
 (65,⟨.struct [(0,37),(1,22),(2,62),(3,63)],4,96,[.slice none 0 0,.slice none 0 0,.slice none 0 0,.slice none 0 0]⟩),
 (75,⟨.slice 101,1,24,[.slice none 0 0]⟩),
 (76,⟨.int .i64,1,8,[.int .i64 0]⟩),
 (77,⟨.struct [(0,76),(1,3),(2,9)],3,32,[.int .i64 0,.int .i64 0,.string ⟨#[]⟩]⟩),
 (78,⟨.struct [(0,76),(1,3),(2,9)],3,32,[.int .i64 0,.int .i64 0,.string ⟨#[]⟩]⟩),
 (79,⟨.struct [(0,75),(1,4),(2,9),(3,9),(4,78)],7,96,[.slice none 0 0,.bool false,.string ⟨#[]⟩,.string ⟨#[]⟩,.int .i64 0,.int .i64 0,.string ⟨#[]⟩]⟩),
 (80,⟨.struct [(0,75),(1,4),(2,9),(3,9),(4,78)],7,96,[.slice none 0 0,.bool false,.string ⟨#[]⟩,.string ⟨#[]⟩,.int .i64 0,.int .i64 0,.string ⟨#[]⟩]⟩),
 (86,⟨.map 9 4,1,8,[.map none]⟩),
 (88,⟨.map 9 22,1,8,[.map none]⟩),
 (96,⟨.ptr 98,1,8,[.pointer none]⟩),
 (97,⟨.struct [(0,9),(1,4)],2,24,[.string ⟨#[]⟩,.bool false]⟩),
 (98,⟨.struct [(0,9),(1,4)],2,24,[.string ⟨#[]⟩,.bool false]⟩),
 (100,⟨.struct [(0,9),(1,78)],4,48,[.string ⟨#[]⟩,.int .i64 0,.int .i64 0,.string ⟨#[]⟩]⟩),
 (101,⟨.struct [(0,9),(1,78)],4,48,[.string ⟨#[]⟩,.int .i64 0,.int .i64 0,.string ⟨#[]⟩]⟩),
 (107,⟨.ptr 110,1,8,[.pointer none]⟩),
 (108,⟨.slice 5,1,24,[.slice none 0 0]⟩),
 (109,⟨.struct [(0,107),(1,108)],2,32,[.pointer none,.slice none 0 0]⟩),
 (110,⟨.struct [(0,107),(1,108)],2,32,[.pointer none,.slice none 0 0]⟩),
 (111,⟨.iface,1,16,[.nilIface]⟩),
 (112,⟨.iface,1,16,[.nilIface]⟩),
 (117,⟨.struct [(0,80),(7,4)],8,104,[.slice none 0 0,.bool false,.string ⟨#[]⟩,.string ⟨#[]⟩,.int .i64 0,.int .i64 0,.string ⟨#[]⟩,.bool false]⟩),
 (118,⟨.struct [(0,80),(7,4)],8,104,[.slice none 0 0,.bool false,.string ⟨#[]⟩,.string ⟨#[]⟩,.int .i64 0,.int .i64 0,.string ⟨#[]⟩,.bool false]⟩),
 (136,⟨.ptr 5,1,8,[.pointer none]⟩),
 (165,⟨.int .u64,1,8,[.int .u64 0]⟩),
 (166,⟨.ptr 146,1,8,[.pointer none]⟩),
 (171,⟨.array 256 5,256,256,List.replicate 256 (.int .u8 0)⟩),
 (172,⟨.struct [(0,5),(1,5)],2,2,[.int .u8 0,.int .u8 0]⟩),
 (173,⟨.struct [(0,5),(1,5)],2,2,[.int .u8 0,.int .u8 0]⟩),
 (174,⟨.array 16 173,32,32,[.int .u8 0,.int .u8 0,.int .u8 0,.int .u8 0,.int .u8 0,.int .u8 0,.int .u8 0,.int .u8 0,.int .u8 0,.int .u8 0,.int .u8 0,.int .u8 0,.int .u8 0,.int .u8 0,.int .u8 0,.int .u8 0,.int .u8 0,.int .u8 0,.int .u8 0,.int .u8 0,.int .u8 0,.int .u8 0,.int .u8 0,.int .u8 0,.int .u8 0,.int .u8 0,.int .u8 0,.int .u8 0,.int .u8 0,.int .u8 0,.int .u8 0,.int .u8 0]⟩),
 (175,⟨.int .u32,1,4,[.int .u32 0]⟩),
 (176,⟨.array 24 5,24,24,[.int .u8 0,.int .u8 0,.int .u8 0,.int .u8 0,.int .u8 0,.int .u8 0,.int .u8 0,.int .u8 0,.int .u8 0,.int .u8 0,.int .u8 0,.int .u8 0,.int .u8 0,.int .u8 0,.int .u8 0,.int .u8 0,.int .u8 0,.int .u8 0,.int .u8 0,.int .u8 0,.int .u8 0,.int .u8 0,.int .u8 0,.int .u8 0]⟩),
 (177,⟨.int .u64,1,8,[.int .u64 0]⟩),
 (182,⟨.int .i64,1,8,[.int .i64 0]⟩),
 (185,⟨.ptr 196,1,8,[.pointer none]⟩),
 (191,⟨.array 20 177,20,160,[.int .u64 0,.int .u64 0,.int .u64 0,.int .u64 0,.int .u64 0,.int .u64 0,.int .u64 0,.int .u64 0,.int .u64 0,.int .u64 0,.int .u64 0,.int .u64 0,.int .u64 0,.int .u64 0,.int .u64 0,.int .u64 0,.int .u64 0,.int .u64 0,.int .u64 0,.int .u64 0]⟩),
 (195,⟨.struct [(0,9),(1,9),(2,112)],3,48,[.string ⟨#[]⟩,.string ⟨#[]⟩,.nilIface]⟩),
 (196,⟨.struct [(0,9),(1,9),(2,112)],3,48,[.string ⟨#[]⟩,.string ⟨#[]⟩,.nilIface]⟩),
 (201,⟨.ptr 203,1,8,[.pointer none]⟩),
 (202,⟨.struct [(0,9)],1,16,[.string ⟨#[]⟩]⟩),
 (203,⟨.struct [(0,9)],1,16,[.string ⟨#[]⟩]⟩),
 (205,⟨.array 32 5,32,32,[.int .u8 0,.int .u8 0,.int .u8 0,.int .u8 0,.int .u8 0,.int .u8 0,.int .u8 0,.int .u8 0,.int .u8 0,.int .u8 0,.int .u8 0,.int .u8 0,.int .u8 0,.int .u8 0,.int .u8 0,.int .u8 0,.int .u8 0,.int .u8 0,.int .u8 0,.int .u8 0,.int .u8 0,.int .u8 0,.int .u8 0,.int .u8 0,.int .u8 0,.int .u8 0,.int .u8 0,.int .u8 0,.int .u8 0,.int .u8 0,.int .u8 0,.int .u8 0]⟩),
 (207,⟨.struct [(0,17),(1,17),(2,17),(3,9)],4,40,[.pointer none,.pointer none,.pointer none,.string ⟨#[]⟩]⟩),
 (208,⟨.struct [(0,17),(1,17),(2,17),(3,9)],4,40,[.pointer none,.pointer none,.pointer none,.string ⟨#[]⟩]⟩),
 (209,⟨.array 0 16,0,0,[]⟩),
 (210,⟨.struct [(0,209)],0,0,[]⟩),
 (211,⟨.struct [(0,209)],0,0,[]⟩),
 (212,⟨.int .u8,1,1,[.int .u8 0]⟩),
 (213,⟨.int .u8,1,1,[.int .u8 0]⟩),
 (215,⟨.int .i32,1,4,[.int .i32 0]⟩),
 (216,⟨.int .i32,1,4,[.int .i32 0]⟩),
 (217,⟨.struct [(0,12),(1,12),(2,175),(3,212),(4,5),(5,5),(6,213),(7,214),(8,136),(9,215),(10,216)],11,48,[.int .u64 0,.int .u64 0,.int .u32 0,.int .u8 0,.int .u8 0,.int .u8 0,.int .u8 0,.nilFunc,.pointer none,.int .i32 0,.int .i32 0]⟩),
 (218,⟨.struct [(0,12),(1,12),(2,175),(3,212),(4,5),(5,5),(6,213),(7,214),(8,136),(9,215),(10,216)],11,48,[.int .u64 0,.int .u64 0,.int .u32 0,.int .u8 0,.int .u8 0,.int .u8 0,.int .u8 0,.nilFunc,.pointer none,.int .i32 0,.int .i32 0]⟩)]
theorem good:dv Tryz.prog tt:=by
 unfold tt
 simp only [dv]
 refine ⟨?_,?_,?_,?_,?_,?_,?_,?_,?_,?_,?_,?_,?_,?_,?_,?_,?_,?_,?_,?_,?_,?_,?_,?_,?_,?_,?_,?_,?_,?_,?_,?_,?_,?_,?_,?_,?_,?_,?_,?_,?_,?_,?_,?_,?_,?_,?_,?_,?_,?_,?_,?_,?_,?_,?_,?_,?_,?_,?_,?_,?_,?_,?_,?_,?_,?_,?_,?_,?_,?_,?_,?_,?_,?_,?_,?_,?_,?_,?_,?_,?_,?_,?_,?_,?_,?_,?_,?_,?_,?_,?_,?_,trivial⟩
 all_goals exact ⟨by kernel_rfl,by kernel_rfl⟩
end Go.Ab
end
section
namespace Go.Ab
open Go.Proofs Go.RowKit Go
structure aH where
 fbuf:Bytes
def cr (b:aH):Option aH:=some b
def dF (b:aH):Option (Bytes×aH):=ck (b.fbuf.length≤9223372036854775807) <| some (b.fbuf,b)
theorem Et:∃ j,Tryz.prog.info? 110=some j∧j.size=2:=by
 have h:(Tryz.prog.info? 110).map (·.size)=some 2:=by kernel_rfl
 obtain ⟨j,hj,hs⟩:=Option.map_eq_some_iff.1 h
 exact ⟨j,hj,hs⟩
set_option maxRecDepth 100000 in
theorem tR (b:Nat)(w:World)(h0:w.cell? ⟨b,0,none⟩=some (.pointer (some ⟨b,0,none⟩))) :
  Calls Tryz.prog 100 #[.pointer (some ⟨b,0,none⟩)] w λ e w'=>e=.returned (.tuple #[])∧w'=w:=by
 obtain ⟨j,hj,_⟩:=Et
 go_enter Tryz.func100,Tryz.ntmps100
 go_wp2
 rw [Lib.run_neq_ptr_same w _ Tryz.underlying107 hj]
 go_wp2
 go_end0
 exact ⟨Z,Z⟩
set_option maxRecDepth 100000 in
theorem sO (b:Nat)(w:World)(h0:w.cell? ⟨b,0,none⟩=some (.pointer none))(hsh:w.shape? b=some (110,2))(hfz:w.frozen? ⟨b,0,none⟩=false) :
  Calls Tryz.prog 100 #[.pointer (some ⟨b,0,none⟩)] w λ e w'=>e=.returned (.tuple #[])∧w'=w.setCell ⟨b,0,none⟩ (.pointer (some ⟨b,0,none⟩)):=by
 obtain ⟨j,hj,hjs⟩:=Et
 go_enter Tryz.func100,Tryz.ntmps100
 go_wp2
 rw [Lib.run_to_unsafe w ⟨b,0,none⟩ Tryz.underlying107 Tryz.underlying160 hj (by rw [hjs]; decide) hsh (Nat.zero_lt_succ 1)]
 simp only [Result.andThen]
 rw [Oper.upon_value]
 go_wp2
 rw [run_callFunc_extern Tryz.func127 (by kernel_rfl) (by kernel_rfl) (by kernel_rfl) (e:=Extern.AbiNoEscape.same) (by kernel_rfl)]
 rw [Lib.run_noEscape]
 simp only [Result.andThen]
 rw [Oper.upon_value]
 go_wp2
 rw [Lib.run_from_unsafe w ⟨b,0,none⟩ Tryz.underlying160 Tryz.underlying107 hj hsh (by kernel_rfl)]
 simp only [Result.andThen]
 rw [Oper.upon_value]
 go_wp2
 go_end0
 exact ⟨Z,Z⟩
structure zk (b:Nat)(w w':World):Prop where
 os:w'.os=w.os
 out:w'.output=w.output
 tape:w'.tape=w.tape
 size:w'.heap.size=w.heap.size
 other:∀ k,k≠b→w'.heap[k]? = w.heap[k]?
def back (i:Nat):Option Nat:=if i=900000 then some 2000000 else if i=1000000 then some 1000000 else none
def ghB (g:Gh):Gh:=⟨g.st,λ i=>if i=2000000 then g.ow 900000 else if M1≤i∧i < 2*M1 then g.ow i else none⟩
theorem wS {g:Gh}{i b:Nat}(h:(ghB g).ow i=some b):(i=2000000∧g.ow 900000=some b)∨(M1≤i∧i < 2*M1∧g.ow i=some b):=by
 simp only [ghB] at h
 split at h
 ·exact .inl ⟨‹_›,h⟩
 ·split at h
  ·rename_i h1; exact .inr ⟨h1.1,h1.2,h⟩
  ·cases h
theorem xu {g:Gh}:∀ i j b,back i=some j→g.ow i=some b→(ghB g).ow j=some b:=by
 intro i j b h hb
 unfold back at h
 split at h
 ·cases h; subst_vars; simp only [ghB,if_true]; exact hb
 ·split at h
  ·cases h; subst_vars
   simp only [ghB]
   rw [if_neg (by decide),if_pos (by decide)]; exact hb
  ·cases h
theorem zx {w w':World}{g:Gh}{b:Nat}(hok:Ok0 w g.st)(hown:∀ i b,g.ow i=some b→b < w.heap.size∧i < 2*M1)
  (hinj:∀ i j b,g.ow i=some b→g.ow j=some b→i=j) (hnst:∀ i b,M1≤i→g.ow i=some b→∀ o,¬ g.st b o)
  (hb:g.ow 1000000=some b) (h:zk b w w')
  (hsh:∀ (c:Array Value) (e:TypeId),w.heap[b]? = some (.cells c e (0,0))→∃ c':Array Value,w'.heap[b]? = some (.cells c' e (0,0))∧c'.size=c.size):oH w g w' (ghB g):=by
 have hbs:∀ o,¬ g.st b o:=hnst _ b (Nat.le_refl _) hb
 have hev:Ev w g.st w' g.st:=λ k o hk=>⟨hk,by
  have:k≠b:=λ e=>hbs o (e ▸ hk)
  simp only [World.cell?,h.other k this]⟩
 refine ⟨h.os,h.out,h.tape,by rw [h.size]; exact Nat.le_refl _,λ k hk hno=>h.other k (λ e=>hno 1000000 (e ▸ hb)),λ i k hi=>?_,λ i j k hi hj=>?_,λ k o hk=>by rw [h.size]; exact hok.lt k o hk,λ k hk _ o=>Iff.rfl,λ i h1 h2=>?_,λ i k c e h1 h2 h3=>?_,λ i k hi hk o=>hnst i k hi hk o,hev⟩
 ·rcases wS hi with ⟨_,h1⟩ | ⟨_,_,h1⟩
  ·exact ⟨by rw [h.size]; exact (hown _ _ h1).1,.inr ⟨_,h1⟩⟩
  ·exact ⟨by rw [h.size]; exact (hown _ _ h1).1,.inr ⟨_,h1⟩⟩
 ·rcases wS hi with ⟨e1,h1⟩ | ⟨a1,a2,h1⟩ <;> rcases wS hj with ⟨e2,h2⟩ | ⟨b1,b2,h2⟩
  ·omega
  ·have:=hinj _ _ _ h1 h2; unfold M1 at *; omega
  ·have:=hinj _ _ _ h1 h2; unfold M1 at *; omega
  ·exact hinj _ _ _ h1 h2
 ·simp only [ghB]
  rw [if_neg (by unfold M1 at *; omega),if_pos ⟨h1,h2⟩]
 ·by_cases e1:k=b
  ·subst e1; exact hsh c e h3
  ·exact ⟨c,(h.other k e1).trans h3,Z⟩
theorem FU {w w':World}{g:Gh}{b:Nat}(hbs:∀ o,¬ g.st b o)(h:zk b w w')(hc:∃ c e,w.heap[b]? = some (.cells c e (0,0)))
  (hsh:∀ (c:Array Value) (e:TypeId),w.heap[b]? = some (.cells c e (0,0))→∃ c':Array Value,w'.heap[b]? = some (.cells c' e (0,0))∧c'.size=c.size):EvO (λ _=>false) w g w' g:=by
 refine ⟨λ k o hk=>⟨hk,?_⟩,λ _ _ _ h=>h,λ id k c e _ _ hk=>?_,λ _ _ _ _ _ h=>h,λ id k es k' _ _ hk=>(h.other k (λ e=>by subst e; obtain ⟨c,t,hc⟩:=hc; rw [hc] at hk; cases hk)).trans hk,λ _ _=>rfl,λ id k o _ _ ho=>h.other k (λ e=>hbs o (e ▸ ho))⟩
 ·have:k≠b:=λ e=>hbs o (e ▸ hk)
  simp only [World.cell?,h.other k this]
 ·by_cases e1:k=b
  ·subst e1; exact hsh c e hk
  ·exact ⟨c,(h.other k e1).trans hk,Z⟩
theorem C3 {w:World}{g:Gh}{es:List PV}{vs:Array Value}{T ty:Nat}(hsz:vs.size=1)
  (hargs:∀ (i:Nat) c v,[AV.ptr 1000000 0][i]? = some c→vs[i]? = some v→ARep w g c v)
  (hobs:∀ id cs,look [(1000000,[AV.bptr T 2 1000000,AV.vec 900000 1 ty es])] id=some cs→jb w g id cs) :
  ∃ b p q,g.ow 1000000=some b∧vs=#[.pointer (some ⟨b,0,none⟩)]∧w.heap[b]? = some (.cells #[p,q] T (0,0))∧(∀ o,¬ g.st b o) ∧
   (p=.pointer none∨p=.pointer (some ⟨b,0,none⟩))∧ARep w g (.vec 900000 1 ty es) q:=by
 obtain ⟨b,c,e,h1,h2,h3,h4,h5⟩:=hobs 1000000 _ rfl
 obtain ⟨p,hp,hpr⟩:=h5 0 _ rfl
 obtain ⟨q,hq,hqr⟩:=h5 1 _ rfl
 have hv0:vs[0]? = some vs[0]:=Array.getElem?_eq_getElem O
 have ha:=hargs 0 _ _ Z hv0
 have hvs:vs=#[vs[0]]:=by
  apply Array.ext
  ·simp [hsz]
  ·intro i h1 h2
   have:i=0:=by omega
   subst this; rfl
 have hc:∀ c1:Array Value,c1=c→c1.size=2→c=#[p,q]:=by
  rintro c1 rfl h
  apply Array.ext
  ·simp [h]
  ·intro i k1 k2
   match i,k2 with
   | 0,_=>rw [Array.getElem?_eq_getElem k1] at hp; simpa using hp
   | 1,_=>rw [Array.getElem?_eq_getElem k1] at hq; simpa using hq
 have hav:vs[0]=.pointer (some ⟨b,0,none⟩):=by
  generalize vs[0]=v at ha
  cases ha with
  | ptr how=>rw [h1] at how; cases how; rfl
 refine ⟨b,p,q,h1,by rw [hvs,hav],?_,h4,?_,hqr⟩
 ·cases hpr with
  | bptrn how hb hcs=>rw [h1] at how; cases how; rw [h2] at hb; cases hb; rw [h2,hc _ rfl hcs]
  | bptr how hb hcs=>rw [h1] at how; cases how; rw [h2] at hb; cases hb; rw [h2,hc _ rfl hcs]
 ·cases hpr with
  | bptrn how hb hcs=>exact .inl Z
  | bptr how hb hcs=>rw [h1] at how; cases how; exact .inr rfl
theorem ob_B {w':World}{g:Gh}{es:List PV}{T ty b:Nat}{p q:Value}(hb:g.ow 1000000=some b)(h4:∀ o,¬ g.st b o)(h:w'.heap[b]? = some (.cells #[p,q] T (0,0)))
  (hp:p=.pointer none∨p=.pointer (some ⟨b,0,none⟩)) (hq:ARep w' g (.vec 900000 1 ty es) q):jb w' (ghB g) 1000000 [.bptr T 2 1000000,.vec 2000000 1 ty es]:=by
 have how:(ghB g).ow 1000000=some b:=xu 1000000 1000000 b Z hb
 refine ⟨b,#[p,q],T,how,h,by simp,h4,λ i x hx=>?_⟩
 match i,hx with
 | 0,hx =>
  simp only [List.getElem?_cons_zero,Option.some.injEq] at hx; subst hx
  refine ⟨p,Z,?_⟩
  rcases hp with rfl | rfl
  ·exact .bptrn how h Z
  ·exact .bptr how h Z
 | 1,hx =>
  simp only [List.getElem?_cons_succ,List.getElem?_cons_zero,Option.some.injEq] at hx; subst hx
  exact ⟨q,Z,jM (m:=back) (g:=g) (g':=ghB g) Z xu hq Z⟩
 | n+2,hx=>simp at hx
theorem fq (b_0:aH)(r:aH)(h0:cr b_0=some r):bN Tryz.prog 100 [.ptr 1000000 0] [(1000000,[.bptr 110 2 1000000,.vec 900000 1 (5+1) (b_0.fbuf.map eU)])]
  (λ x y=>x=.tuple []∧y=[(1000000,[.bptr 110 2 1000000,.vec 2000000 1 (5+1) (r.fbuf.map eU)])]):=by
 cases h0
 intro w g vs hok hown hinj hnst hsz hargs hobs
 obtain ⟨b,p,q,hb,rfl,hheap,hbs,hp,hq⟩:=C3 hsz hargs hobs
 have hc0:w.cell? ⟨b,0,none⟩=some p:=by simp [World.cell?,hheap]
 rcases hp with rfl | rfl
 ·refine (sO b w hc0 (by simp [World.shape?,hheap]) (by simp [World.frozen?,hheap])).mono ?_
  rintro e w' ⟨rfl,rfl⟩
  have hO:zk b w (w.setCell ⟨b,0,none⟩ (.pointer (some ⟨b,0,none⟩))):=⟨Z,Z,Z,by simp [World.setCell],λ k hk=>Below.heap_setCell _ _ _ _ hk⟩
  have hheap':(w.setCell ⟨b,0,none⟩ (.pointer (some ⟨b,0,none⟩))).heap[b]? = some (.cells #[.pointer (some ⟨b,0,none⟩),q] 110 (0,0)):=by
   simp [World.setCell,Array.getElem?_modify,hheap]
  have hsh:∀ (c:Array Value) (e:TypeId),w.heap[b]? = some (.cells c e (0,0))→∃ c':Array Value,(w.setCell ⟨b,0,none⟩ (.pointer (some ⟨b,0,none⟩))).heap[b]? = some (.cells c' e (0,0))∧c'.size=c.size:=λ c e h=>by
   rw [hheap] at h; cases h; exact ⟨_,hheap',rfl⟩
  refine ⟨_,_,_,ghB g,Z,⟨Z,Z⟩,.tuple Z G,λ x hx=>?_,zx hok hown hinj hnst hb hO hsh⟩
  simp only [List.mem_singleton] at hx; subst hx
  exact ob_B hb hbs hheap' (.inr Z) (hq.mono (FU hbs hO ⟨_,_,hheap⟩ hsh))
 ·refine (tR b w hc0).mono ?_
  rintro e w' ⟨rfl,rfl⟩
  have hO:zk b w' w':=⟨Z,Z,Z,Z,λ k hk=>rfl⟩
  refine ⟨_,_,_,ghB g,Z,⟨Z,Z⟩,.tuple Z G,λ x hx=>?_,zx hok hown hinj hnst hb hO (λ c e h=>⟨c,h,Z⟩)⟩
  simp only [List.mem_singleton] at hx; subst hx
  exact ob_B hb hbs hheap (.inr Z) hq
theorem wy:Tryz.prog.follows .mixedOrders=true:=by kernel_rfl
theorem qh (w:World):Below w.heap.size w w.drew:=Below.drew (Below.refl _ w)
set_option maxRecDepth 100000 in
theorem yf (b:Nat)(p:Value)(w:World)(hbk:w.heap[b]? = some (.cells #[p,.slice none 0 0] 110 (0,0))) :
  Calls Tryz.prog 80 #[.pointer (some ⟨b,0,none⟩)] w λ e w'=>e=.returned (.string ⟨#[]⟩)∧Below w.heap.size w w':=by
 have mixed:=wy
 have hUS:∀ (W:World) (q:Option Addr),(Builtin.unsafeString_ #[136,3] 9 #[.pointer q,.int .i64 0]).run Tryz.prog W=.ok (.string .empty) W:=λ W q=>Lib.run_unsafeString_none W _ _ _ q
 have c1:w.drew.cell? ⟨b,1,none⟩=some (.slice none 0 0):=by
  have:w.drew.heap[b]? = some (.cells #[p,.slice none 0 0] 110 (0,0)):=hbk
  rw [Lib.cell_of_heap this]; rfl
 have hSD:(Builtin.unsafeSliceData_ #[108] 136 #[.slice none 0 0]).run Tryz.prog w.drew=.ok (.pointer none) w.drew:=rfl
 go_enter Tryz.func80,Tryz.ntmps80
 go_wp2
 go_region_o
 all_goals (go_wp2; go_ret; exact ⟨Z,qh w⟩)
set_option maxRecDepth 100000 in
theorem xt (b g cap:Nat)(p:Value)(w:World)(hc0:cap≠0)(hbk:w.heap[b]? = some (.cells #[p,.slice (some ⟨g,0,none⟩) 0 cap] 110 (0,0))) :
  Calls Tryz.prog 80 #[.pointer (some ⟨b,0,none⟩)] w λ e w'=>e=.returned (.string ⟨#[]⟩)∧Below w.heap.size w w':=by
 have mixed:=wy
 have hUS:∀ (W:World) (q:Option Addr),(Builtin.unsafeString_ #[136,3] 9 #[.pointer q,.int .i64 0]).run Tryz.prog W=.ok (.string .empty) W:=λ W q=>Lib.run_unsafeString_none W _ _ _ q
 have c1:w.drew.cell? ⟨b,1,none⟩=some (.slice (some ⟨g,0,none⟩) 0 cap):=by
  have:w.drew.heap[b]? = some (.cells #[p,.slice (some ⟨g,0,none⟩) 0 cap] 110 (0,0)):=hbk
  rw [Lib.cell_of_heap this]; rfl
 have hSD:(Builtin.unsafeSliceData_ #[108] 136 #[.slice (some ⟨g,0,none⟩) 0 cap]).run Tryz.prog w.drew=.ok (.pointer (some ⟨g,0,none⟩)) w.drew:=Lib.run_unsafeSliceData_row _ _ _ _ _ _ hc0
 clear hc0
 go_enter Tryz.func80,Tryz.ntmps80
 go_wp2
 go_region_o
 all_goals (go_wp2; go_ret; exact ⟨Z,qh w⟩)
set_option maxRecDepth 100000 in
theorem u9 (b g:Nat)(p:Value)(cur:Array Value)(w:World)(hbk:w.heap[b]? = some (.cells #[p,.slice (some ⟨g,0,none⟩) 0 0] 110 (0,0)))(hg:w.heap[g]? = some (.cells cur 5 (0,0))) :
  Calls Tryz.prog 80 #[.pointer (some ⟨b,0,none⟩)] w λ e w'=>e=.returned (.string ⟨#[]⟩)∧Below w.heap.size w w':=by
 have mixed:=wy
 have hUS:∀ (W:World) (q:Option Addr),(Builtin.unsafeString_ #[136,3] 9 #[.pointer q,.int .i64 0]).run Tryz.prog W=.ok (.string .empty) W:=λ W q=>Lib.run_unsafeString_none W _ _ _ q
 have hlt:b < w.heap.size:=by
  rcases Nat.lt_or_ge b w.heap.size with h' | h'
  ·exact h'
  ·simp [Array.getElem?_eq_none h'] at hbk
 have c1:w.drew.cell? ⟨b,1,none⟩=some (.slice (some ⟨g,0,none⟩) 0 0):=by
  have:w.drew.heap[b]? = some (.cells #[p,.slice (some ⟨g,0,none⟩) 0 0] 110 (0,0)):=hbk
  rw [Lib.cell_of_heap this]; rfl
 have hSD:(Builtin.unsafeSliceData_ #[108] 136 #[.slice (some ⟨g,0,none⟩) 0 0]).run Tryz.prog w.drew=.ok (.pointer (some ⟨w.drew.heap.size,0,none⟩)) (w.drew.alloc (.view ⟨g,0,none⟩ 5)) :=
  Lib.run_unsafeSliceData_zero w.drew _ _ 5 Tryz.underlying136 ⟨g,0,none⟩ 0 (5,cur.size) (by have hg':w.drew.heap[g]? = some (.cells cur 5 (0,0)):=hg; simp [World.shape?,hg'])
 have c2:(w.drew.alloc (.view ⟨g,0,none⟩ 5)).cell? ⟨b,1,none⟩=some (.slice (some ⟨g,0,none⟩) 0 0):=by
  have:(w.drew.alloc (.view ⟨g,0,none⟩ 5)).heap[b]? = _:=(Lib.alloc_old w.drew _ b hlt).trans hbk
  rw [Lib.cell_of_heap this]; rfl
 have c3:(w.alloc (.view ⟨g,0,none⟩ 5)).drew.cell? ⟨b,1,none⟩=some (.slice (some ⟨g,0,none⟩) 0 0):=c2
 have c0:w.cell? ⟨b,1,none⟩=some (.slice (some ⟨g,0,none⟩) 0 0):=c1
 go_enter Tryz.func80,Tryz.ntmps80
 go_wp2
 go_region_o
 all_goals (go_wp2; go_ret; exact ⟨Z,(qh w).alloc (Nat.le_refl _) _⟩)
set_option maxRecDepth 100000 in
theorem x9 (b g cap:Nat)(p:Value)(cur:Array Value)(l:List UInt8)(w:World)(h0:l≠[])(hbk:w.heap[b]? = some (.cells #[p,.slice (some ⟨g,0,none⟩) l.length cap] 110 (0,0)))(hg:w.heap[g]? = some (.cells cur 5 (0,0)))
  (hnc:l.length≤cap) (hcs:cur.size=cap) (hcm:l.length≤9223372036854775807) (hcell:∀ (j:Nat) x,l[j]? = some x→w.cell? ⟨g,j,none⟩=some (.int .u8 x.toNat)) :
  Calls Tryz.prog 80 #[.pointer (some ⟨b,0,none⟩)] w λ e w'=>e=.returned (.string ⟨l.toArray⟩)∧w'=(w.drew.freeze ⟨g,0,none⟩ l.length):=by
 have mixed:=wy
 have hl0:l.length≠0:=by simpa using h0
 have c1:w.drew.cell? ⟨b,1,none⟩=some (.slice (some ⟨g,0,none⟩) l.length cap):=by
  have:w.drew.heap[b]? = some (.cells #[p,.slice (some ⟨g,0,none⟩) l.length cap] 110 (0,0)):=hbk
  rw [Lib.cell_of_heap this]; rfl
 have hSD:(Builtin.unsafeSliceData_ #[108] 136 #[.slice (some ⟨g,0,none⟩) l.length cap]).run Tryz.prog w.drew=.ok (.pointer (some ⟨g,0,none⟩)) w.drew:=Lib.run_unsafeSliceData_row _ _ _ _ _ _ O
 have hUS:(Builtin.unsafeString_ #[136,3] 9 #[.pointer (some ⟨g,0,none⟩),.int .i64 l.length]).run Tryz.prog w.drew=.ok (.string ⟨l.toArray⟩) (w.drew.freeze ⟨g,0,none⟩ l.length):=by
  refine Lib.run_unsafeString_row w.drew 136 3 9 5 Tryz.underlying136 (by kernel_rfl) g cur.size (by have hg':w.drew.heap[g]? = some (.cells cur 5 (0,0)):=hg; simp [World.shape?,hg']) l h0 O hcm ?_
  intro j x hx
  have:=hcell j x hx
  rw [add_lit,Nat.zero_add,World.cell?_drew]; exact this
 clear hcell hcs hcm hnc h0 hl0
 go_enter Tryz.func80,Tryz.ntmps80
 go_wp2
 go_region_o
 all_goals (go_wp2; go_ret; exact ⟨Z,Z⟩)
theorem wn (w:World)(g n k:Nat)(h:k≠g):(w.freeze ⟨g,0,none⟩ n).heap[k]? = w.heap[k]?:=by
 unfold World.freeze
 split
 ·rfl
 ·simp only [Array.getElem?_modify]
  rw [if_neg (λ e=>h e.symm)]
theorem xn (w:World)(g n:Nat)(a:Addr):(w.freeze ⟨g,0,none⟩ n).cell? a=w.cell? a:=by
 unfold World.freeze
 split
 ·rfl
 ·simp only [World.cell?,Array.getElem?_modify]
  by_cases h:g=a.block
  ·simp only [h,if_true]
   cases w.heap[a.block]? with
   | none=>rfl
   | some o=>cases o <;> rfl
  ·simp only [h,if_false]
theorem x3 (w:World)(g n:Nat):(w.freeze ⟨g,0,none⟩ n).heap.size=w.heap.size:=by
 unfold World.freeze; split <;> simp
theorem xB (w:World)(g n:Nat):(w.freeze ⟨g,0,none⟩ n).os=w.os∧(w.freeze ⟨g,0,none⟩ n).output=w.output∧(w.freeze ⟨g,0,none⟩ n).tape=w.tape:=by
 unfold World.freeze; split <;> exact ⟨Z,Z,Z⟩
def ghS (g:Gh):Gh:=⟨g.st,λ i=>if M1≤i∧i < 2*M1 then g.ow i else none⟩
theorem wC {g:Gh}{i b:Nat}(h:(ghS g).ow i=some b):M1≤i∧i < 2*M1∧g.ow i=some b:=by
 simp only [ghS] at h
 split at h
 ·rename_i h1; exact ⟨h1.1,h1.2,h⟩
 ·cases h
theorem zt {w w':World}{g:Gh}{q:Nat}(hok:Ok0 w g.st)(hown:∀ i b,g.ow i=some b→b < w.heap.size∧i < 2*M1)
  (hinj:∀ i j b,g.ow i=some b→g.ow j=some b→i=j) (hnst:∀ i b,M1≤i→g.ow i=some b→∀ o,¬ g.st b o)
  (hq:g.ow 900000=some q∨w.heap.size≤q) (os:w'.os=w.os) (out:w'.output=w.output) (tape:w'.tape=w.tape) (size:w.heap.size≤w'.heap.size)
  (other:∀ k,k < w.heap.size→k≠q→w'.heap[k]? = w.heap[k]?) (cell:∀ b o,b < w.heap.size→w'.cell? ⟨b,o,none⟩=w.cell? ⟨b,o,none⟩):oH w g w' (ghS g):=by
 have hev:Ev w g.st w' g.st:=λ k o hk=>⟨hk,cell k o (hok.lt k o hk)⟩
 refine ⟨os,out,tape,size,λ k hk hno=>other k hk (λ e=>?_),λ i k hi=>?_,λ i j k hi hj=>?_,λ k o hk=>Nat.lt_of_lt_of_le (hok.lt k o hk) size,λ k hk _ o=>Iff.rfl,λ i h1 h2=>?_,λ i k c e h1 h2 h3=>?_,λ i k hi hk o=>hnst i k hi hk o,hev⟩
 ·rcases hq with hq | hq
  ·exact hno _ (e ▸ hq)
  ·omega
 ·obtain ⟨_,_,h1⟩:=wC hi
  exact ⟨Nat.lt_of_lt_of_le (hown _ _ h1).1 size,.inr ⟨_,h1⟩⟩
 ·exact hinj _ _ _ (wC hi).2.2 (wC hj).2.2
 ·simp only [ghS]; rw [if_pos ⟨h1,h2⟩]
 ·refine ⟨c,(other k (hown _ _ h2).1 (λ e=>?_)).trans h3,Z⟩
  rcases hq with hq | hq
  ·have:=hinj _ _ _ h2 (e ▸ hq); unfold M1 at *; omega
  ·have:=(hown _ _ h2).1; omega
theorem ob_S {w':World}{g:Gh}{es:List PV}{T b:Nat}{p q:Value}(hb:g.ow 1000000=some b)(h4:∀ o,¬ g.st b o)(h:w'.heap[b]? = some (.cells #[p,q] T (0,0)))
  (hp:p=.pointer none∨p=.pointer (some ⟨b,0,none⟩)) (hq:PRep w' g.st (.slice es) q):jb w' (ghS g) 1000000 [.bptr T 2 1000000,.p (.slice es)]:=by
 have how:(ghS g).ow 1000000=some b:=by simp only [ghS]; rw [if_pos (by decide)]; exact hb
 refine ⟨b,#[p,q],T,how,h,by simp,h4,λ i x hx=>?_⟩
 match i,hx with
 | 0,hx =>
  simp only [List.getElem?_cons_zero,Option.some.injEq] at hx; subst hx
  refine ⟨p,Z,?_⟩
  rcases hp with rfl | rfl
  ·exact .bptrn how h Z
  ·exact .bptr how h Z
 | 1,hx =>
  simp only [List.getElem?_cons_succ,List.getElem?_cons_zero,Option.some.injEq] at hx; subst hx
  exact ⟨q,Z,.p hq⟩
 | n+2,hx=>simp at hx
theorem fX (b_0:aH)(r:Bytes×aH)(h0:dF b_0=some r):bN Tryz.prog 80 [.ptr 1000000 0] [(1000000,[.bptr 110 2 1000000,.vec 900000 1 (5+1) (b_0.fbuf.map eU)])]
  (λ x y=>x=.p (eS r.1)∧y=[(1000000,[.bptr 110 2 1000000,.p (eL eU r.2.fbuf)])]):=by
 obtain ⟨hmax,h0⟩:=ll h0
 cases h0
 intro w g vs hok hown hinj hnst hsz hargs hobs
 obtain ⟨b,p,q,hb,rfl,hheap,hbs,hp,hq⟩:=C3 hsz hargs hobs
 have hbl:b < w.heap.size:=(hown _ _ hb).1
 obtain ⟨l,hl⟩:∃ l,l=b_0.fbuf:=⟨_,rfl⟩
 rw [← hl] at hq ⊢
 -- a builder that holds nothing
 have none_:∀ q0,l=[]→q=q0→(Calls Tryz.prog 80 #[.pointer (some ⟨b,0,none⟩)] w λ e w'=>e=.returned (.string ⟨#[]⟩)∧Below w.heap.size w w')→PRep w g.st (.slice []) q0 →
   Calls Tryz.prog 80 #[.pointer (some ⟨b,0,none⟩)] w λ e w'=>∃ v r obs' g',e=.returned v∧(r=.p (eS l)∧obs'=[(1000000,[.bptr 110 2 1000000,.p (eL eU l)])])∧ARep w' g' r v∧(∀ p∈obs',jb w' g' p.1 p.2)∧oH w g w' g':=by
  rintro q0 rfl rfl hc hr
  refine hc.mono ?_
  rintro e w' ⟨rfl,hB⟩
  have hcell:∀ b o,b < w.heap.size→w'.cell? ⟨b,o,none⟩=w.cell? ⟨b,o,none⟩:=λ b o h=>hB.cell (p:=⟨b,o,none⟩) h
  refine ⟨_,_,_,ghS g,Z,⟨Z,Z⟩,.p (.val _),λ x hx=>?_,zt (q:=w.heap.size) hok hown hinj hnst (.inr (Nat.le_refl _)) hB.os hB.output hB.tape hB.size (λ k hk _=>hB.block k hk) hcell⟩
  simp only [List.mem_singleton] at hx; subst hx
  exact ob_S hb hbs ((hB.block b hbl).trans hheap) hp (hr.mono (w':=w') (st':=g.st) (λ k o hk=>⟨hk,hcell k o (hok.lt k o hk)⟩))
 generalize hes:l.map eU=es at hq
 cases hq with
 | vecn =>
  have e:l=[]:=by simpa using hes
  exact none_ _ e Z (yf b p w hheap) .nils
 | vec how hb2 hcs hsz2 hst hr hty =>
  rename_i g2 off2 cap c e2
  have he2:e2=5∧off2=0:=by
   rcases hty with h | h
   ·cases h
   ·exact ⟨(Nat.succ.inj h.1).symm,h.2⟩
  obtain ⟨rfl,rfl⟩:=he2
  rw [Nat.zero_add] at hcs
  simp only [Nat.zero_add] at hst
  have hgl:g2 < w.heap.size:=(hown _ _ how).1
  subst hes
  simp only [List.length_map] at hheap
  by_cases hl0:l=[]
  ·subst hl0
   by_cases hc0:cap=0
   ·subst hc0
    exact none_ _ Z Z (u9 b g2 p c w hheap hb2) (by simpa using hr)
   ·exact none_ _ Z Z (xt b g2 cap p w hc0 hheap) (by simpa using hr)
  ·have hcap:l.length≤cap:=by
    obtain ⟨a',cap',he,hle⟩:=oL hr
    cases he
    simpa using hle
   have hcell:∀ (j:Nat) x,l[j]? = some x→w.cell? ⟨g2,j,none⟩=some (.int .u8 x.toNat):=by
    intro j x hx
    have hinv:=De hsz2 hb2 hr
    obtain ⟨_,u,hu,hru⟩:=hinv j (eU x) 0 (eU x) (by simp [hx]) rfl
    cases hru
    simp only [World.cell?,hb2]
    simpa using hu
   refine (x9 b g2 cap p c l w hl0 (by simpa using hheap) hb2 hcap (by simpa using hcs) ?_ hcell).mono ?_
   ·rw [hl]; exact hmax
   rintro e w' ⟨rfl,rfl⟩
   have hother:∀ k,k≠g2→(w.drew.freeze ⟨g2,0,none⟩ l.length).heap[k]? = w.heap[k]?:=λ k hk=>wn w.drew g2 _ k hk
   have hcell2:∀ b o,(w.drew.freeze ⟨g2,0,none⟩ l.length).cell? ⟨b,o,none⟩=w.cell? ⟨b,o,none⟩:=λ b o=>xn w.drew g2 _ _
   obtain ⟨r1,r2,r3⟩:=xB w.drew g2 l.length
   refine ⟨_,_,_,ghS g,Z,⟨Z,Z⟩,.p (.val _),λ x hx=>?_,zt (q:=g2) hok hown hinj hnst (.inl how) r1 r2 r3 (by rw [x3]; exact Nat.le_refl _) (λ k _ hk=>hother k hk) (λ b o _=>hcell2 b o)⟩
   simp only [List.mem_singleton] at hx; subst hx
   have hne:b≠g2:=λ e=>by subst e; have:=hinj _ _ _ hb how; omega
   exact ob_S hb hbs ((hother b hne).trans (by simpa using hheap)) hp (by simpa using hr.mono (w':=w.drew.freeze ⟨g2,0,none⟩ l.length) (st':=g.st) (λ k o hk=>⟨hk,hcell2 k o⟩))
end Go.Ab
end
section
namespace Go.Ab.RB
open Go.Proofs Go.Ab
attribute [local irreducible] awp eC aW aA bN AV.sub M dY
def dm (p_0:List UInt8)(r_1:Int):Option (List UInt8) :=
 if IntKind.wrap .u32 (r_1)≤2047 then
  ck ((0:Int)≤6) <|
  ck ((0:Int)≤iOr .u8 192 (IntKind.wrap .u8 (cS .i32 r_1 6))∧iOr .u8 192 (IntKind.wrap .u8 (cS .i32 r_1 6)) < 256) <|
  ck ((0:Int)≤iOr .u8 128 (bG .u8 (IntKind.wrap .u8 (r_1)) 63)∧iOr .u8 128 (bG .u8 (IntKind.wrap .u8 (r_1)) 63) < 256) <|
  ck ((p_0.length+[u8 (iOr .u8 192 (IntKind.wrap .u8 (cS .i32 r_1 6))),u8 (iOr .u8 128 (bG .u8 (IntKind.wrap .u8 (r_1)) 63))].length)*1≤140737488355328) <|
  some (p_0++[u8 (iOr .u8 192 (IntKind.wrap .u8 (cS .i32 r_1 6))),u8 (iOr .u8 128 (bG .u8 (IntKind.wrap .u8 (r_1)) 63))])
 else
  (
    if IntKind.wrap .u32 (r_1) < 55296 then
     some true
    else
     if 57343 < IntKind.wrap .u32 (r_1) then
      some (decide (IntKind.wrap .u32 (r_1)≤65535))
     else
      some false
   : Option Bool).bind λ t8 =>
  if t8=true then
   ck ((0:Int)≤12) <|
   ck ((0:Int)≤6) <|
   ck ((0:Int)≤iOr .u8 224 (IntKind.wrap .u8 (cS .i32 r_1 12))∧iOr .u8 224 (IntKind.wrap .u8 (cS .i32 r_1 12)) < 256) <|
   ck ((0:Int)≤iOr .u8 128 (bG .u8 (IntKind.wrap .u8 (cS .i32 r_1 6)) 63)∧iOr .u8 128 (bG .u8 (IntKind.wrap .u8 (cS .i32 r_1 6)) 63) < 256) <|
   ck ((0:Int)≤iOr .u8 128 (bG .u8 (IntKind.wrap .u8 (r_1)) 63)∧iOr .u8 128 (bG .u8 (IntKind.wrap .u8 (r_1)) 63) < 256) <|
   ck ((p_0.length+[u8 (iOr .u8 224 (IntKind.wrap .u8 (cS .i32 r_1 12))),u8 (iOr .u8 128 (bG .u8 (IntKind.wrap .u8 (cS .i32 r_1 6)) 63)),u8 (iOr .u8 128 (bG .u8 (IntKind.wrap .u8 (r_1)) 63))].length)*1≤140737488355328) <|
   some (p_0++[u8 (iOr .u8 224 (IntKind.wrap .u8 (cS .i32 r_1 12))),u8 (iOr .u8 128 (bG .u8 (IntKind.wrap .u8 (cS .i32 r_1 6)) 63)),u8 (iOr .u8 128 (bG .u8 (IntKind.wrap .u8 (r_1)) 63))])
  else
   (
     if 65535 < IntKind.wrap .u32 (r_1) then
      some (decide (IntKind.wrap .u32 (r_1)≤1114111))
     else
      some false
    : Option Bool).bind λ t17 =>
   if t17=true then
    ck ((0:Int)≤18) <|
    ck ((0:Int)≤12) <|
    ck ((0:Int)≤6) <|
    ck ((0:Int)≤iOr .u8 240 (IntKind.wrap .u8 (cS .i32 r_1 18))∧iOr .u8 240 (IntKind.wrap .u8 (cS .i32 r_1 18)) < 256) <|
    ck ((0:Int)≤iOr .u8 128 (bG .u8 (IntKind.wrap .u8 (cS .i32 r_1 12)) 63)∧iOr .u8 128 (bG .u8 (IntKind.wrap .u8 (cS .i32 r_1 12)) 63) < 256) <|
    ck ((0:Int)≤iOr .u8 128 (bG .u8 (IntKind.wrap .u8 (cS .i32 r_1 6)) 63)∧iOr .u8 128 (bG .u8 (IntKind.wrap .u8 (cS .i32 r_1 6)) 63) < 256) <|
    ck ((0:Int)≤iOr .u8 128 (bG .u8 (IntKind.wrap .u8 (r_1)) 63)∧iOr .u8 128 (bG .u8 (IntKind.wrap .u8 (r_1)) 63) < 256) <|
    ck ((p_0.length+[u8 (iOr .u8 240 (IntKind.wrap .u8 (cS .i32 r_1 18))),u8 (iOr .u8 128 (bG .u8 (IntKind.wrap .u8 (cS .i32 r_1 12)) 63)),u8 (iOr .u8 128 (bG .u8 (IntKind.wrap .u8 (cS .i32 r_1 6)) 63)),u8 (iOr .u8 128 (bG .u8 (IntKind.wrap .u8 (r_1)) 63))].length)*1≤140737488355328) <|
    some (p_0++[u8 (iOr .u8 240 (IntKind.wrap .u8 (cS .i32 r_1 18))),u8 (iOr .u8 128 (bG .u8 (IntKind.wrap .u8 (cS .i32 r_1 12)) 63)),u8 (iOr .u8 128 (bG .u8 (IntKind.wrap .u8 (cS .i32 r_1 6)) 63)),u8 (iOr .u8 128 (bG .u8 (IntKind.wrap .u8 (r_1)) 63))])
   else
    ck ((p_0.length+[(239:UInt8),(191:UInt8),(189:UInt8)].length)*1≤140737488355328) <|
    some (p_0++[(239:UInt8),(191:UInt8),(189:UInt8)])
theorem jB (p_0:List UInt8)(r_1:Int)(r:(List UInt8))(h0:dm p_0 r_1=some r):bN Tryz.prog 151 [.vec 900000 1 (5+1) (p_0.map eU),.p (eK .i32 r_1)] [] (λ x y=>x=.vec 2000000 1 (5+1) (r.map eU)∧y=[]):=by
 unfold dm at h0
 refine gR good [800000] [] Tryz.func151 Z Z Z Z Z λ w0 F=>mPo (λ v:(List UInt8)=>.vec 2000000 1 (5+1) (v.map eU)) (λ v=>[]) ?_
 refine nx 17 Z (fD [11,13] h0 Z (λ c1 h0=>?_) λ c1 h0=>?_)
 ·exact nx 5 Z (cc' h0 λ hk2 h0=>mO Z (j9 Z Z Z Z Z Z hk2 (nx 6 Z (cc' h0 λ hk4 h0=>cc' h0 λ hk3 h0=>mO Z (bs eU [u8 (iOr .u8 192 (IntKind.wrap .u8 (cS .i32 r_1 6))),u8 (iOr .u8 128 (bG .u8 (IntKind.wrap .u8 (r_1)) 63))] Z Z Z Z Z Z Z Z Z Z Z Z Z (congr (congrArg List.cons (iu hk4)) (congr (congrArg List.cons (iu hk3)) Z)) (cc' h0 λ hk5 h0=>mO Z (gB eU p_0 [u8 (iOr .u8 192 (IntKind.wrap .u8 (cS .i32 r_1 6))),u8 (iOr .u8 128 (bG .u8 (IntKind.wrap .u8 (r_1)) 63))] Z Z Z Z Z Z Z Z Z Z Z Z Z Y Z Z Z Z hk5 (nx 3 Z (mQo (oi h0) (bD (bB 24 800000 Z Z Z Z Z) (bW _)) Z Z Z Z (sr) trivial)))))))))
 refine nx 2 Z (bd h0 λ o30 h1 h0=>?_)
 refine kN o30 (λ v31=>⟨[(0,.vec 900000 1 (5+1) (p_0.map eU)),(1,.p (eK .i32 r_1)),(5,.p (eK .u32 (IntKind.wrap .u32 (r_1)))),(25,.p (eB v31))],[]⟩) ?_ ?_
 ·refine nx 1 Z (fB [25] h0 Z (λ c9 h0=>?_) λ c9 h0=>?_)
  ·refine nx 5 Z (cc' h0 λ hk10 h0=>mO Z (j9 Z Z Z Z Z Z hk10 (nx 3 Z (cc' h0 λ hk11 h0=>mO Z (j9 Z Z Z Z Z Z hk11 (nx 7 Z (cc' h0 λ hk14 h0=>cc' h0 λ hk13 h0=>cc' h0 λ hk12 h0=>mO Z (bs eU [u8 (iOr .u8 224 (IntKind.wrap .u8 (cS .i32 r_1 12))),u8 (iOr .u8 128 (bG .u8 (IntKind.wrap .u8 (cS .i32 r_1 6)) 63)),u8 (iOr .u8 128 (bG .u8 (IntKind.wrap .u8 (r_1)) 63))] Z Z Z Z Z Z Z Z Z Z Z Z Z (congr (congrArg List.cons (iu hk14)) (congr (congrArg List.cons (iu hk13)) (congr (congrArg List.cons (iu hk12)) Z))) (cc' h0 λ hk15 h0=>mO Z (gB eU p_0 [u8 (iOr .u8 224 (IntKind.wrap .u8 (cS .i32 r_1 12))),u8 (iOr .u8 128 (bG .u8 (IntKind.wrap .u8 (cS .i32 r_1 6)) 63)),u8 (iOr .u8 128 (bG .u8 (IntKind.wrap .u8 (r_1)) 63))] Z Z Z Z Z Z Z Z Z Z Z Z Z Y Z Z Z Z hk15 ?_))))))))))
   exact nx 3 Z (mQo (oi h0) (bD (bB 49 800000 Z Z Z Z Z) (bW _)) Z Z Z Z (sr) trivial)
  refine nx 2 Z (bd h0 λ o32 h1 h0=>?_)
  refine kN o32 (λ v33=>⟨[(0,.vec 900000 1 (5+1) (p_0.map eU)),(1,.p (eK .i32 r_1)),(50,.p (eB v33))],[]⟩) ?_ ?_
  ·refine nx 1 Z (fB [50] h0 Z (λ c18 h0=>?_) λ c18 h0=>?_)
   ·refine nx 5 Z (cc' h0 λ hk19 h0=>mO Z (j9 Z Z Z Z Z Z hk19 (nx 3 Z (cc' h0 λ hk20 h0=>mO Z (j9 Z Z Z Z Z Z hk20 (nx 4 Z (cc' h0 λ hk21 h0=>mO Z (j9 Z Z Z Z Z Z hk21 (nx 7 Z (cc' h0 λ hk25 h0=>?_))))))))))
    exact cc' h0 λ hk24 h0=>cc' h0 λ hk23 h0=>cc' h0 λ hk22 h0=>mO Z (bs eU [u8 (iOr .u8 240 (IntKind.wrap .u8 (cS .i32 r_1 18))),u8 (iOr .u8 128 (bG .u8 (IntKind.wrap .u8 (cS .i32 r_1 12)) 63)),u8 (iOr .u8 128 (bG .u8 (IntKind.wrap .u8 (cS .i32 r_1 6)) 63)),u8 (iOr .u8 128 (bG .u8 (IntKind.wrap .u8 (r_1)) 63))] Z Z Z Z Z Z Z Z Z Z Z Z Z (congr (congrArg List.cons (iu hk25)) (congr (congrArg List.cons (iu hk24)) (congr (congrArg List.cons (iu hk23)) (congr (congrArg List.cons (iu hk22)) Z)))) (cc' h0 λ hk26 h0=>mO Z (gB eU p_0 [u8 (iOr .u8 240 (IntKind.wrap .u8 (cS .i32 r_1 18))),u8 (iOr .u8 128 (bG .u8 (IntKind.wrap .u8 (cS .i32 r_1 12)) 63)),u8 (iOr .u8 128 (bG .u8 (IntKind.wrap .u8 (cS .i32 r_1 6)) 63)),u8 (iOr .u8 128 (bG .u8 (IntKind.wrap .u8 (r_1)) 63))] Z Z Z Z Z Z Z Z Z Z Z Z Z Y Z Z Z Z hk26 (nx 3 Z (mQo (oi h0) (bD (bB 77 800000 Z Z Z Z Z) (bW _)) Z Z Z Z (sr) trivial)))))
   exact nx 4 Z (mO Z (bs eU [(239:UInt8),(191:UInt8),(189:UInt8)] Z Z Z Z Z Z Z Z Z Z Z Z Z Z (cc' h0 λ hk27 h0=>mO Z (gB eU p_0 [(239:UInt8),(191:UInt8),(189:UInt8)] Z Z Z Z Z Z Z Z Z Z Z Z Z Y Z Z Z Z hk27 (nx 3 Z (mQo (oi h0) (bD (bB 10 800000 Z Z Z Z Z) (bW _)) Z Z Z Z (sr) trivial))))))
  refine nx 4 Z (fD [52,53] h1 Z (λ c16 h1=>?_) λ c16 h1=>?_)
  ·exact nx 5 Z (eX _ (oi h1).symm (gE Z Z))
  exact nx 5 Z (eX _ (oi h1).symm (gE Z Z))
 refine nx 6 Z (fD [25,27] h1 Z (λ c6 h1=>?_) λ c6 h1=>?_)
 ·exact nx 2 Z (eX _ (oi h1).symm (gE Z Z))
 refine nx 5 Z (fD [29,30] h1 Z (λ c7 h1=>?_) λ c7 h1=>?_)
 ·exact nx 5 Z (eX _ (oi h1).symm (gE Z Z))
 exact nx 5 Z (eX _ (oi h1).symm (gE Z Z))
def ea (p_0:List UInt8)(r_1:Int):Option (List UInt8) :=
 if IntKind.wrap .u32 (r_1)≤127 then
  ck ((0:Int)≤IntKind.wrap .u8 (r_1)∧IntKind.wrap .u8 (r_1) < 256) <|
  ck ((p_0.length+[u8 (IntKind.wrap .u8 (r_1))].length)*1≤140737488355328) <|
  some (p_0++[u8 (IntKind.wrap .u8 (r_1))])
 else
  (dm p_0 r_1).bind λ r4 =>
  some r4
theorem lU (p_0:List UInt8)(r_1:Int)(r:(List UInt8))(h0:ea p_0 r_1=some r):bN Tryz.prog 139 [.vec 900000 1 (5+1) (p_0.map eU),.p (eK .i32 r_1)] [] (λ x y=>x=.vec 2000000 1 (5+1) (r.map eU)∧y=[]):=by
 unfold ea at h0
 refine gR good [800000] [] Tryz.func139 Z Z Z Z Z λ w0 F=>mPo (λ v:(List UInt8)=>.vec 2000000 1 (5+1) (v.map eU)) (λ v=>[]) ?_
 refine nx 11 Z (fD [7] h0 Z (λ c1 h0=>?_) λ c1 h0=>?_)
 ·exact nx 6 Z (cc' h0 λ hk2 h0=>mO Z (bs eU [u8 (IntKind.wrap .u8 (r_1))] Z Z Z Z Z Z Z Z Z Z Z Z Z (congr (congrArg List.cons (iu hk2)) Z) (cc' h0 λ hk3 h0=>mO Z (gB eU p_0 [u8 (IntKind.wrap .u8 (r_1))] Z Z Z Z Z Z Z Z Z Z Z Z Z Y Z Z Z Z hk3 (nx 3 Z (mQo (oi h0) (bD (bB 12 800000 Z Z Z Z Z) (bW _)) Z Z Z Z (sr) trivial))))))
 exact nx 6 Z (bd h0 λ r4 e5 h0=>mO Z (b8 [] [900000] 101000 101001 (jB p_0 r_1 _ e5) Z Z Z Z Z ⟨sr,sr,trivial⟩ Z Z trivial Z Z Z Z Z Z Z Z Tryz.call151 Z Z (nx 3 Z (mQo (oi h0) (bD (bB 101000 800000 Z Z Z Z Z) (bW _)) Z Z Z Z (sr) trivial))))
def bh (b_0:aH)(s_1:Bytes):Option (Int×Bool×aH) :=
 (cr (aH.mk b_0.fbuf)).bind λ r1 =>
 ck ((r1.fbuf.length+s_1.length)*1≤140737488355328) <|
 some ((s_1.length:Int),false,(aH.mk (r1.fbuf++s_1)))
theorem bU (b_0:aH)(s_1:Bytes)(r:Int×Bool×aH)(h0:bh b_0 s_1=some r):bN Tryz.prog 78 [.ptr 1000000 0,.p (eS s_1)] [(1000000,[.bptr 110 2 1000000,.vec 900000 1 (5+1) (b_0.fbuf.map eU)])] (λ x y=>x=.tuple [.p (eI r.1),.p (eE r.2.1)]∧y=[(1000000,[.bptr 110 2 1000000,.vec 2000000 1 (5+1) (r.2.2.fbuf.map eU)])]):=by
 unfold bh at h0
 refine gR good [800000] [1000000] Tryz.func78 Z Z Z Z Z λ w0 F=>mPo (λ v:Int×Bool×aH=>.tuple [.p (eI v.1),.p (eE v.2.1)]) (λ v=>[(1000000,[.bptr 110 2 1000000,.vec 2000000 1 (5+1) (v.2.2.fbuf.map eU)])]) ?_
 exact nx 8 Z (bd h0 λ r1 e2 h0=>mO Z (b8 [1000000] [900000] 101000 101001 (fq (aH.mk b_0.fbuf) _ e2) Z Z Z Z Z ⟨sr,trivial⟩ Z Z ⟨⟨_,Z,⟨sr,sr,trivial⟩⟩,trivial⟩ Z Z Z Z Z Z Z Z Tryz.call100 Z Z (nx 9 Z (cc' h0 λ hk3 h0=>mO Z (CY r1.fbuf s_1 Z Z Z Z Z Z Z Z Z Z Z Z Z Z Z hk3 (nx 7 Z (oLs Z (nx 4 Z (mQo (oi h0) (bD (bB 14 800000 Z Z Z Z Z) (bW _)) Z Z Z Z (aC ⟨sr,sr,trivial⟩) ⟨⟨_,Z,⟨sr,sr,trivial⟩⟩,trivial⟩)))))))))
def bQ (b_0:aH)(c_1:Int):Option (Bool×aH) :=
 (cr (aH.mk b_0.fbuf)).bind λ r1 =>
 ck ((0:Int)≤c_1∧c_1 < 256) <|
 ck ((r1.fbuf.length+[u8 c_1].length)*1≤140737488355328) <|
 some (false,(aH.mk (r1.fbuf++[u8 c_1])))
theorem cU (b_0:aH)(c_1:Int)(r:Bool×aH)(h0:bQ b_0 c_1=some r):bN Tryz.prog 120 [.ptr 1000000 0,.p (eK .u8 c_1)] [(1000000,[.bptr 110 2 1000000,.vec 900000 1 (5+1) (b_0.fbuf.map eU)])] (λ x y=>x=.p (eE r.1)∧y=[(1000000,[.bptr 110 2 1000000,.vec 2000000 1 (5+1) (r.2.fbuf.map eU)])]):=by
 unfold bQ at h0
 refine gR good [800000] [1000000] Tryz.func120 Z Z Z Z Z λ w0 F=>mPo (λ v:Bool×aH=>.p (eE v.1)) (λ v=>[(1000000,[.bptr 110 2 1000000,.vec 2000000 1 (5+1) (v.2.fbuf.map eU)])]) ?_
 exact nx 7 Z (bd h0 λ r1 e2 h0=>mO Z (b8 [1000000] [900000] 101000 101001 (fq (aH.mk b_0.fbuf) _ e2) Z Z Z Z Z ⟨sr,trivial⟩ Z Z ⟨⟨_,Z,⟨sr,sr,trivial⟩⟩,trivial⟩ Z Z Z Z Z Z Z Z Tryz.call100 Z Z (nx 9 Z (cc' h0 λ hk3 h0=>mO Z (bs eU [u8 c_1] Z Z Z Z Z Z Z Z Z Z Z Z Z (congr (congrArg List.cons (iu hk3)) Z) (cc' h0 λ hk4 h0=>mO Z (gB eU r1.fbuf [u8 c_1] Z Z Z Z Z Z Z Z Z Z Z Z Z Y Z Z Z Z hk4 (nx 9 Z (mQo (oi h0) (bD (bB 14 800000 Z Z Z Z Z) (bW _)) Z Z Z Z (sr) ⟨⟨_,Z,⟨sr,sr,trivial⟩⟩,trivial⟩)))))))))
def dG (b_0:aH)(r_1:Int):Option (Int×Bool×aH) :=
 (cr (aH.mk b_0.fbuf)).bind λ r1 =>
 (ea r1.fbuf r_1).bind λ r3 =>
 ck (inR ((r3.length:Int) - (r1.fbuf.length:Int))) <|
 some ((r3.length:Int) - (r1.fbuf.length:Int),false,(aH.mk r3))
theorem lm (b_0:aH)(r_1:Int)(r:Int×Bool×aH)(h0:dG b_0 r_1=some r):bN Tryz.prog 118 [.ptr 1000000 0,.p (eK .i32 r_1)] [(1000000,[.bptr 110 2 1000000,.vec 900000 1 (5+1) (b_0.fbuf.map eU)])] (λ x y=>x=.tuple [.p (eI r.1),.p (eE r.2.1)]∧y=[(1000000,[.bptr 110 2 1000000,.vec 2000000 1 (5+1) (r.2.2.fbuf.map eU)])]):=by
 unfold dG at h0
 refine gR good [800000] [1000000] Tryz.func118 Z Z Z Z Z λ w0 F=>mPo (λ v:Int×Bool×aH=>.tuple [.p (eI v.1),.p (eE v.2.1)]) (λ v=>[(1000000,[.bptr 110 2 1000000,.vec 2000000 1 (5+1) (v.2.2.fbuf.map eU)])]) ?_
 refine nx 8 Z (bd h0 λ r1 e2 h0=>mO Z (b8 [1000000] [900000] 101000 101001 (fq (aH.mk b_0.fbuf) _ e2) Z Z Z Z Z ⟨sr,trivial⟩ Z Z ⟨⟨_,Z,⟨sr,sr,trivial⟩⟩,trivial⟩ Z Z Z Z Z Z Z Z Tryz.call100 Z Z (nx 7 Z (oLl (f:=eU) Z Z (nx 10 Z (bd h0 λ r3 e4 h0=>mO Z (b8 [] [101000] 102000 102001 (lU r1.fbuf r_1 _ e4) Z Z Z Z Z ⟨sr,sr,trivial⟩ Z Z trivial Z Z Z Z Z Z Z Z Tryz.call139 Z Z (nx 10 Z (oLl (f:=eU) Z Z (nx 1 Z (oA h0 Z Z λ hk5 h0=>?_)))))))))))
 exact nx 3 Z (mG (gE (t:=⟨[(4,.p (eI ((r3.length:Int) - (r1.fbuf.length:Int)))),(5,.p (eE false))],[(1000000,[.bptr 110 2 1000000,.vec 102000 1 (5+1) (r3.map eU)])]⟩) Z Z) (nx 1 Z (mQo (oi h0) (bD (bB 102000 800000 Z Z Z Z Z) (bW _)) Z Z Z Z (aC ⟨sr,sr,trivial⟩) ⟨⟨_,Z,⟨sr,sr,trivial⟩⟩,trivial⟩)))
def iU (b_0:aH):Option (Int×aH) :=
 some ((b_0.fbuf.length:Int),(aH.mk b_0.fbuf))
theorem nR (b_0:aH)(r:Int×aH)(h0:iU b_0=some r):bN Tryz.prog 119 [.ptr 1000000 0] [(1000000,[.bptr 110 2 1000000,.vec 900000 1 (5+1) (b_0.fbuf.map eU)])] (λ x y=>x=.p (eI r.1)∧y=[(1000000,[.bptr 110 2 1000000,.vec 2000000 1 (5+1) (r.2.fbuf.map eU)])]):=by
 unfold iU at h0
 refine gR good [800000] [1000000] Tryz.func119 Z Z Z Z Z λ w0 F=>mPo (λ v:Int×aH=>.p (eI v.1)) (λ v=>[(1000000,[.bptr 110 2 1000000,.vec 2000000 1 (5+1) (v.2.fbuf.map eU)])]) ?_
 exact nx 10 Z (oLl (f:=eU) Z Z (nx 3 Z (mQo (oi h0) (bD (bB 900000 800000 Z Z Z Z Z) (bW _)) Z Z Z Z (sr) ⟨⟨_,Z,⟨sr,sr,trivial⟩⟩,trivial⟩)))
end Go.Ab.RB
end
section
namespace Go.Ab
open Go.RowKit
theorem aA.of_calls {P:Program}{f:FuncId}{l:List Value}{r:AV}
  (h:∀ (w:World) (st:Nat→Nat→Prop),Ok0 w st→Calls P f l.toArray w λ e w'=>∃ v,e=.returned v∧Below w.heap.size w w'∧∀ g',ARep w' g' r v):aA P f (l.map PV.val) (·=r):=by
 intro w st vs hok hsz hargs
 have e:vs=l.toArray:=by
  apply Array.ext
  ·simpa using hsz
  ·intro i h1 h2
   have hi:i < l.length:=by simpa using h2
   have:=hargs i (.val l[i]) vs[i] (by simp [hi]) (Array.getElem?_eq_getElem h1)
   generalize hv:vs[i]=v at this
   cases this
   simp
 subst e
 refine (h w st hok).mono ?_
 rintro e w' ⟨v,rfl,hB,hr⟩
 refine ⟨v,r,⟨st,λ _=>none⟩,Z,Z,hr _,⟨hB.os,hB.output,hB.tape,hB.size,λ b hb=>hB.block b hb,?_,?_,λ b o hb=>Nat.lt_of_lt_of_le (hok.lt b o hb) hB.size,λ b _ o=>Iff.rfl⟩⟩
 ·intro i b hi; cases hi
 ·intro i j b hi; cases hi
theorem oW {w:World}{st:Nat→Nat→Prop}(h:lj w st){g j:Nat}{l:List GC}{k:IntKind}{n:Int}(hl:look qz g=some l)(hj:l[j]? = some (.int k n)):w.cell? ⟨g,j,none⟩=some (.int k n):=by
 obtain ⟨_,v,h2,h3⟩:=(h g (l.map GC.pv) (by rw [nK,hl]; rfl)).1 j (.val (.int k n)) (by rw [List.getElem?_map,hj]; rfl)
 cases h3
 exact h2
theorem w7 {w:World}{st:Nat→Nat→Prop}(h:lj w st){g j:Nat}{l:List GC}(hl:look qz g=some l)(hj:l[j]? = some .ifc):∃ t v,w.cell? ⟨g,j,none⟩=some (.iface t v):=by
 obtain ⟨_,v,h2,h3⟩:=(h g (l.map GC.pv) (by rw [nK,hl]; rfl)).1 j .ifc (by rw [List.getElem?_map,hj]; rfl)
 cases h3 with
 | ifc t v=>exact ⟨t,v,h2⟩
theorem Bm {P:Program}{w:World}{st:Nat→Nat→Prop}(h:lj w st){g:Nat}{l:List GC}{nm:String}{k:IntKind}{zs:List Int}(hl:look qz g=some l)(hn:P.globalNamed nm=some g)(hz:l=zs.map (GC.int k))(hne:zs≠[]):Lib.TabIs P w nm k zs:=by
 obtain ⟨h0,h1,h2⟩:=h g (l.map GC.pv) (by rw [nK,hl]; rfl)
 have hc:∀ (j:Nat) z,zs[j]? = some z→w.cell? ⟨g,j,none⟩=some (.int k z):=λ j z hj=>oW h hl (by rw [hz,List.getElem?_map,hj]; rfl)
 unfold Lib.TabIs World.var?
 rw [hn]
 simp only [Option.bind_some]
 have hlen:(l.map GC.pv).length=zs.length:=by rw [hz]; simp
 rw [hlen] at h2
 obtain ⟨z0,hz0⟩:∃ z0,zs[0]? = some z0:=by
  cases zs with
  | nil=>exact absurd Z hne
  | cons z r=>exact ⟨z,Z⟩
 have hc0:=hc 0 z0 hz0
 simp only [World.cell?] at hc hc0 h2
 cases hh:w.heap[g]? with
 | none=>rw [hh] at hc0; cases hc0
 | some o =>
  rw [hh] at hc hc0 h2
  cases o with
  | cells c e fz =>
   simp only [Option.isSome_none,Bool.false_eq_true,if_false] at hc hc0 h2
   refine congrArg some ?_
   apply Array.ext_getElem?
   intro j
   by_cases hj:j < zs.length
   ·rw [hc j zs[j] (List.getElem?_eq_getElem hj)]
    simp [hj]
   ·have h3:c.size≤zs.length:=by
     rcases Nat.lt_or_ge zs.length c.size with h' | h'
     ·rw [Array.getElem?_eq_getElem h'] at h2; cases h2
     ·exact h'
    rw [Array.getElem?_eq_none O,Array.getElem?_eq_none (by simp; omega)]
  | _=>simp at hc0
theorem g8 (s:Bytes):(str s).data.toList=s:=by simp [str]
theorem mc (w:World):Below w.heap.size w w:=Below.refl _ w
end Go.Ab
end
section
namespace Go.Proofs
open Go.Shelf
def Tryz.lays119_ren:Go.Shelf.Ren:=⟨λ | 119=>134 | n=>n,λ | 21=>21 | 4=>4 | n=>n,λ | n=>n⟩
theorem Tryz.lays119:Go.Proofs.Lays.n119 Tryz.prog Tryz.lays119_ren:={
 mixed:=by kernel_rfl
 f119:=Tryz.func134.trans (congrArg some (by kernel_rfl))
 t4:=Tryz.underlying4
 a4:=Tryz.isAgg4
 z4:=Tryz.sizeOf4
 v4:=Tryz.zeroValue4
 t21:=Tryz.underlying21
 a21:=Tryz.isAgg21
 z21:=Tryz.sizeOf21
 v21:=Tryz.zeroValue21 }
theorem Tryz.utf8_ValidRune (r:Int)(w:World) :
  Calls Tryz.prog 134 #[.int .i32 r] w λ e w'=>e=.returned (.bool (Lib.validRune r))∧w'=w:=Any.utf8_ValidRune Tryz.lays119 r w
def Tryz.lays137_ren:Go.Shelf.Ren:=⟨λ | 137=>97 | 217=>122 | 266=>141 | n=>n,λ | 9=>9 | 5=>5 | 3=>3 | n=>n,λ | n=>n⟩
theorem Tryz.lays137:Go.Proofs.Lays.n137 Tryz.prog Tryz.lays137_ren:={
 mixed:=by kernel_rfl
 f137:=Tryz.func97.trans (congrArg some (by kernel_rfl))
 f217:=Tryz.func122.trans (congrArg some (by kernel_rfl))
 f266:=Tryz.func141.trans (congrArg some (by kernel_rfl))
 t3:=Tryz.underlying3
 a3:=Tryz.isAgg3
 z3:=Tryz.sizeOf3
 v3:=Tryz.zeroValue3
 t5:=Tryz.underlying5
 a5:=Tryz.isAgg5
 z5:=Tryz.sizeOf5
 v5:=Tryz.zeroValue5
 t9:=Tryz.underlying9
 a9:=Tryz.isAgg9
 z9:=Tryz.sizeOf9
 v9:=Tryz.zeroValue9 }
open Go.RowKit in
theorem Tryz.strings_IndexByte (s:ByteArray)(c:Int)(w:World) :
  Calls Tryz.prog 97 #[.string s,.int .u8 c] w λ e w'=>e=.returned (.int .i64 (Lib.indexByte s.data.toList c.toNat.toUInt8))∧w'=w:=Any.strings_IndexByte Tryz.lays137 s c w
def Tryz.lays103_ren:Go.Shelf.Ren:=⟨λ | 103=>92 | 210=>111 | 206=>91 | n=>n,λ | 9=>9 | 4=>4 | 24=>126 | 3=>3 | n=>n,λ | n=>n⟩
theorem Tryz.lays103:Go.Proofs.Lays.n103 Tryz.prog Tryz.lays103_ren:={
 mixed:=by kernel_rfl
 f103:=Tryz.func92.trans (congrArg some (by kernel_rfl))
 f206:=Tryz.func91.trans (congrArg some (by kernel_rfl))
 f210:=Tryz.func111.trans (congrArg some (by kernel_rfl))
 t3:=Tryz.underlying3
 a3:=Tryz.isAgg3
 z3:=Tryz.sizeOf3
 v3:=Tryz.zeroValue3
 t4:=Tryz.underlying4
 a4:=Tryz.isAgg4
 z4:=Tryz.sizeOf4
 v4:=Tryz.zeroValue4
 t9:=Tryz.underlying9
 a9:=Tryz.isAgg9
 z9:=Tryz.sizeOf9
 v9:=Tryz.zeroValue9
 t24:=Tryz.underlying126
 a24:=Tryz.isAgg126
 z24:=Tryz.sizeOf126
 v24:=Tryz.zeroValue126 }
open Go.RowKit in
theorem Tryz.strings_CutPrefix (s p:ByteArray)(w:World) :
  Calls Tryz.prog 92 #[.string s,.string p] w λ e w'=>e=.returned (.tuple #[.string ⟨(Lib.trimPrefix s.data.toList p.data.toList).toArray⟩,.bool (Lib.hasPrefix s.data.toList p.data.toList)])∧w'=w:=Any.strings_CutPrefix Tryz.lays103 s p w
def Tryz.lays99_ren:Go.Shelf.Ren:=⟨λ | 99=>68 | 206=>91 | n=>n,λ | 9=>9 | 4=>4 | 3=>3 | n=>n,λ | n=>n⟩
theorem Tryz.lays99:Go.Proofs.Lays.n99 Tryz.prog Tryz.lays99_ren:={
 mixed:=by kernel_rfl
 f99:=Tryz.func68.trans (congrArg some (by kernel_rfl))
 f206:=Tryz.func91.trans (congrArg some (by kernel_rfl))
 t3:=Tryz.underlying3
 a3:=Tryz.isAgg3
 z3:=Tryz.sizeOf3
 v3:=Tryz.zeroValue3
 t4:=Tryz.underlying4
 a4:=Tryz.isAgg4
 z4:=Tryz.sizeOf4
 v4:=Tryz.zeroValue4
 t9:=Tryz.underlying9
 a9:=Tryz.isAgg9
 z9:=Tryz.sizeOf9
 v9:=Tryz.zeroValue9 }
open Go.RowKit Go.Lib in
theorem Tryz.strings_HasPrefix (s p:ByteArray)(w:World) :
  Calls Tryz.prog 68 #[.string s,.string p] w λ e w'=>e=.returned (.bool (Lib.hasPrefix s.data.toList p.data.toList))∧w'=w:=Any.strings_HasPrefix Tryz.lays99 s p w
def Tryz.laysM171_ren:Go.Shelf.Ren:=⟨λ | 171=>128 | 243=>145 | 246=>140 | 283=>152 | 284=>153 | 285=>154 | 286=>155 | 129=>165 | 317=>164 | 318=>166 | 319=>167 | 320=>168 | 337=>175 | 338=>176 | n=>n,λ | 3=>3 | 9=>9 | 2=>2 | 4=>4 | 171=>176 | 0=>0 | 53=>177 | 37=>108 | 5=>5 | 173=>180 | 212=>191 | 51=>175 | 20=>20 | 213=>192 | 46=>165 | 232=>205 | 233=>206 | n=>n,λ | 17=>3 | 18=>6 | 19=>7 | n=>n⟩
theorem Tryz.laysM171:Go.Proofs.LaysM.n171 Tryz.prog Tryz.laysM171_ren:={
 mixed:=by kernel_rfl
 f129:=Tryz.func165.trans (congrArg some (by kernel_rfl))
 f171:=Tryz.func128.trans (congrArg some (by kernel_rfl))
 f243:=Tryz.func145.trans (congrArg some (by kernel_rfl))
 f246:=Tryz.func140.trans (congrArg some (by kernel_rfl))
 f283:=Tryz.func152.trans (congrArg some (by kernel_rfl))
 f284:=Tryz.func153.trans (congrArg some (by kernel_rfl))
 f285:=Tryz.func154.trans (congrArg some (by kernel_rfl))
 f286:=Tryz.func155.trans (congrArg some (by kernel_rfl))
 f317:=Tryz.func164.trans (congrArg some (by kernel_rfl))
 f318:=Tryz.func166.trans (congrArg some (by kernel_rfl))
 f319:=Tryz.func167.trans (congrArg some (by kernel_rfl))
 f320:=Tryz.func168.trans (congrArg some (by kernel_rfl))
 f337:=Tryz.func175.trans (congrArg some (by kernel_rfl))
 f338:=Tryz.func176.trans (congrArg some (by kernel_rfl))
 t0:=Tryz.underlying0
 a0:=Tryz.isAgg0
 z0:=Tryz.sizeOf0
 v0:=Tryz.zeroValue0
 t2:=Tryz.underlying2
 a2:=Tryz.isAgg2
 z2:=Tryz.sizeOf2
 v2:=Tryz.zeroValue2
 t3:=Tryz.underlying3
 a3:=Tryz.isAgg3
 z3:=Tryz.sizeOf3
 v3:=Tryz.zeroValue3
 t4:=Tryz.underlying4
 a4:=Tryz.isAgg4
 z4:=Tryz.sizeOf4
 v4:=Tryz.zeroValue4
 t5:=Tryz.underlying5
 a5:=Tryz.isAgg5
 z5:=Tryz.sizeOf5
 v5:=Tryz.zeroValue5
 t9:=Tryz.underlying9
 a9:=Tryz.isAgg9
 z9:=Tryz.sizeOf9
 v9:=Tryz.zeroValue9
 t20:=Tryz.underlying20
 a20:=Tryz.isAgg20
 z20:=Tryz.sizeOf20
 v20:=Tryz.zeroValue20
 t37:=Tryz.underlying108
 a37:=Tryz.isAgg108
 z37:=Tryz.sizeOf108
 v37:=Tryz.zeroValue108
 t46:=Tryz.underlying165
 a46:=Tryz.isAgg165
 z46:=Tryz.sizeOf165
 v46:=Tryz.zeroValue165
 t51:=Tryz.underlying175
 a51:=Tryz.isAgg175
 z51:=Tryz.sizeOf175
 v51:=Tryz.zeroValue175
 t53:=Tryz.underlying177
 a53:=Tryz.isAgg177
 z53:=Tryz.sizeOf177
 v53:=Tryz.zeroValue177
 t171:=Tryz.underlying176
 a171:=Tryz.isAgg176
 z171:=Tryz.sizeOf176
 v171:=Tryz.zeroValue176
 t173:=Tryz.underlying180
 a173:=Tryz.isAgg180
 z173:=Tryz.sizeOf180
 v173:=Tryz.zeroValue180
 t212:=Tryz.underlying191
 a212:=Tryz.isAgg191
 z212:=Tryz.sizeOf191
 v212:=Tryz.zeroValue191
 t213:=Tryz.underlying192
 a213:=Tryz.isAgg192
 z213:=Tryz.sizeOf192
 t232:=Tryz.underlying205
 a232:=Tryz.isAgg205
 z232:=Tryz.sizeOf205
 v232:=Tryz.zeroValue205
 t233:=Tryz.underlying206
 a233:=Tryz.isAgg206
 z233:=Tryz.sizeOf206
 v233:=Tryz.zeroValue206
 g17:=by kernel_rfl
 g18:=by kernel_rfl
 g19:=by kernel_rfl
 i0:=by kernel_rfl
 i2:=by kernel_rfl
 i3:=by kernel_rfl
 i4:=by kernel_rfl
 i5:=by kernel_rfl
 i9:=by kernel_rfl
 i20:=by kernel_rfl
 i37:=by kernel_rfl
 i46:=by kernel_rfl
 i51:=by kernel_rfl
 i53:=by kernel_rfl
 i171:=by kernel_rfl
 i173:=by kernel_rfl
 i212:=by kernel_rfl
 i232:=by kernel_rfl
 i233:=by kernel_rfl
 m17:=by kernel_rfl
 m18:=by kernel_rfl
 m19:=by kernel_rfl }
open Go.RowKit Go.Sort Go.Lib in
theorem Tryz.strconv_Itoa (n:Int)(h0:-9223372036854775808≤n)(h1:n≤9223372036854775807)(w:World)(htab:Lib.TabIs Tryz.prog w "internal/strconv.uint64pow10" .u64 Lib.pow10Tab) :
  Calls Tryz.prog 128 #[.int .i64 n] w λ e w'=>e=.returned (.string ⟨(Lib.itoa n).toArray⟩)∧∃ k os,w'=grow (w.drewN k) os:=Any.strconv_Itoa Tryz.laysM171 n h0 h1 w htab
def Tryz.laysC174_ren:Go.Shelf.Ren:=⟨λ | 174=>124 | 247=>142 | 245=>143 | 287=>156 | 279=>157 | 280=>158 | 281=>159 | 282=>160 | 321=>169 | 322=>170 | 316=>171 | 171=>128 | 205=>172 | 243=>145 | 246=>140 | 283=>152 | 284=>153 | 285=>154 | 286=>155 | 129=>165 | 317=>164 | 318=>166 | 319=>167 | 320=>168 | 337=>175 | 338=>176 | n=>n,λ | 9=>9 | 3=>3 | 2=>2 | 75=>112 | 85=>158 | 4=>4 | 167=>182 | 5=>5 | 53=>177 | 175=>183 | 46=>165 | 168=>185 | 37=>108 | 0=>0 | 210=>196 | 21=>21 | 127=>136 | 145=>203 | 143=>201 | 171=>176 | 173=>180 | 212=>191 | 51=>175 | 20=>20 | 213=>192 | 232=>205 | 233=>206 | 80=>104 | n=>n,λ | 15=>4 | 16=>5 | 17=>3 | 18=>6 | 19=>7 | n=>n⟩
theorem Tryz.laysC174:Go.Proofs.LaysC.n174 Tryz.prog Tryz.laysC174_ren:={
 mixed:=by kernel_rfl
 f129:=Tryz.func165.trans (congrArg some (by kernel_rfl))
 f171:=Tryz.func128.trans (congrArg some (by kernel_rfl))
 f174:=Tryz.func124.trans (congrArg some (by kernel_rfl))
 f205:=Tryz.func172.trans (congrArg some (by kernel_rfl))
 f243:=Tryz.func145.trans (congrArg some (by kernel_rfl))
 f245:=Tryz.func143.trans (congrArg some (by kernel_rfl))
 f246:=Tryz.func140.trans (congrArg some (by kernel_rfl))
 f247:=Tryz.func142.trans (congrArg some (by kernel_rfl))
 f279:=Tryz.func157.trans (congrArg some (by kernel_rfl))
 f280:=Tryz.func158.trans (congrArg some (by kernel_rfl))
 f281:=Tryz.func159.trans (congrArg some (by kernel_rfl))
 f282:=Tryz.func160.trans (congrArg some (by kernel_rfl))
 f283:=Tryz.func152.trans (congrArg some (by kernel_rfl))
 f284:=Tryz.func153.trans (congrArg some (by kernel_rfl))
 f285:=Tryz.func154.trans (congrArg some (by kernel_rfl))
 f286:=Tryz.func155.trans (congrArg some (by kernel_rfl))
 f287:=Tryz.func156.trans (congrArg some (by kernel_rfl))
 f316:=Tryz.func171.trans (congrArg some (by kernel_rfl))
 f317:=Tryz.func164.trans (congrArg some (by kernel_rfl))
 f318:=Tryz.func166.trans (congrArg some (by kernel_rfl))
 f319:=Tryz.func167.trans (congrArg some (by kernel_rfl))
 f320:=Tryz.func168.trans (congrArg some (by kernel_rfl))
 f321:=Tryz.func169.trans (congrArg some (by kernel_rfl))
 f322:=Tryz.func170.trans (congrArg some (by kernel_rfl))
 f337:=Tryz.func175.trans (congrArg some (by kernel_rfl))
 f338:=Tryz.func176.trans (congrArg some (by kernel_rfl))
 t0:=Tryz.underlying0
 a0:=Tryz.isAgg0
 z0:=Tryz.sizeOf0
 v0:=Tryz.zeroValue0
 t2:=Tryz.underlying2
 a2:=Tryz.isAgg2
 z2:=Tryz.sizeOf2
 v2:=Tryz.zeroValue2
 t3:=Tryz.underlying3
 a3:=Tryz.isAgg3
 z3:=Tryz.sizeOf3
 v3:=Tryz.zeroValue3
 t4:=Tryz.underlying4
 a4:=Tryz.isAgg4
 z4:=Tryz.sizeOf4
 v4:=Tryz.zeroValue4
 t5:=Tryz.underlying5
 a5:=Tryz.isAgg5
 z5:=Tryz.sizeOf5
 v5:=Tryz.zeroValue5
 t9:=Tryz.underlying9
 a9:=Tryz.isAgg9
 z9:=Tryz.sizeOf9
 v9:=Tryz.zeroValue9
 t20:=Tryz.underlying20
 a20:=Tryz.isAgg20
 z20:=Tryz.sizeOf20
 v20:=Tryz.zeroValue20
 t21:=Tryz.underlying21
 a21:=Tryz.isAgg21
 z21:=Tryz.sizeOf21
 v21:=Tryz.zeroValue21
 t37:=Tryz.underlying108
 a37:=Tryz.isAgg108
 z37:=Tryz.sizeOf108
 v37:=Tryz.zeroValue108
 t46:=Tryz.underlying165
 a46:=Tryz.isAgg165
 z46:=Tryz.sizeOf165
 v46:=Tryz.zeroValue165
 t51:=Tryz.underlying175
 a51:=Tryz.isAgg175
 z51:=Tryz.sizeOf175
 v51:=Tryz.zeroValue175
 t53:=Tryz.underlying177
 a53:=Tryz.isAgg177
 z53:=Tryz.sizeOf177
 v53:=Tryz.zeroValue177
 t75:=Tryz.underlying112
 a75:=Tryz.isAgg112
 z75:=Tryz.sizeOf112
 v75:=Tryz.zeroValue112
 t85:=Tryz.underlying158
 a85:=Tryz.isAgg158
 z85:=Tryz.sizeOf158
 v85:=Tryz.zeroValue158
 t127:=Tryz.underlying136
 a127:=Tryz.isAgg136
 z127:=Tryz.sizeOf136
 v127:=Tryz.zeroValue136
 t143:=Tryz.underlying201
 a143:=Tryz.isAgg201
 z143:=Tryz.sizeOf201
 v143:=Tryz.zeroValue201
 t145:=Tryz.underlying203
 a145:=Tryz.isAgg203
 z145:=Tryz.sizeOf203
 v145:=Tryz.zeroValue203
 t167:=Tryz.underlying182
 a167:=Tryz.isAgg182
 z167:=Tryz.sizeOf182
 v167:=Tryz.zeroValue182
 t168:=Tryz.underlying185
 a168:=Tryz.isAgg185
 z168:=Tryz.sizeOf185
 v168:=Tryz.zeroValue185
 t171:=Tryz.underlying176
 a171:=Tryz.isAgg176
 z171:=Tryz.sizeOf176
 v171:=Tryz.zeroValue176
 t173:=Tryz.underlying180
 a173:=Tryz.isAgg180
 z173:=Tryz.sizeOf180
 v173:=Tryz.zeroValue180
 t175:=Tryz.underlying183
 a175:=Tryz.isAgg183
 z175:=Tryz.sizeOf183
 v175:=Tryz.zeroValue183
 t210:=Tryz.underlying196
 a210:=Tryz.isAgg196
 z210:=Tryz.sizeOf196
 v210:=Tryz.zeroValue196
 t212:=Tryz.underlying191
 a212:=Tryz.isAgg191
 z212:=Tryz.sizeOf191
 v212:=Tryz.zeroValue191
 t213:=Tryz.underlying192
 a213:=Tryz.isAgg192
 z213:=Tryz.sizeOf192
 t232:=Tryz.underlying205
 a232:=Tryz.isAgg205
 z232:=Tryz.sizeOf205
 v232:=Tryz.zeroValue205
 t233:=Tryz.underlying206
 a233:=Tryz.isAgg206
 z233:=Tryz.sizeOf206
 v233:=Tryz.zeroValue206
 g15:=by kernel_rfl
 g16:=by kernel_rfl
 g17:=by kernel_rfl
 g18:=by kernel_rfl
 g19:=by kernel_rfl
 t80:=Tryz.underlying104
 a80:=Tryz.isAgg104
 z80:=Tryz.sizeOf104
 v80:=Tryz.zeroValue104
 i0:=by kernel_rfl
 i2:=by kernel_rfl
 i3:=by kernel_rfl
 i4:=by kernel_rfl
 i5:=by kernel_rfl
 i9:=by kernel_rfl
 i20:=by kernel_rfl
 i21:=by kernel_rfl
 i37:=by kernel_rfl
 i46:=by kernel_rfl
 i51:=by kernel_rfl
 i53:=by kernel_rfl
 i75:=by kernel_rfl
 i80:=by kernel_rfl
 i85:=by kernel_rfl
 i127:=by kernel_rfl
 i143:=by kernel_rfl
 i145:=by kernel_rfl
 i167:=by kernel_rfl
 i168:=by kernel_rfl
 i171:=by kernel_rfl
 i173:=by kernel_rfl
 i175:=by kernel_rfl
 i210:=by kernel_rfl
 i212:=by kernel_rfl
 i232:=by kernel_rfl
 i233:=by kernel_rfl
 m15:=by kernel_rfl
 m16:=by kernel_rfl
 m17:=by kernel_rfl
 m18:=by kernel_rfl
 m19:=by kernel_rfl
 c0:=by kernel_rfl
 c2:=by kernel_rfl
 c3:=by kernel_rfl
 c4:=by kernel_rfl
 c5:=by kernel_rfl
 c9:=by kernel_rfl
 c20:=by kernel_rfl
 c21:=by kernel_rfl
 c37:=by kernel_rfl
 c46:=by kernel_rfl
 c51:=by kernel_rfl
 c53:=by kernel_rfl
 c75:=by kernel_rfl
 c80:=by kernel_rfl
 c85:=by kernel_rfl
 c127:=by kernel_rfl
 c143:=by kernel_rfl
 c145:=by kernel_rfl
 c167:=by kernel_rfl
 c168:=by kernel_rfl
 c171:=by kernel_rfl
 c173:=by kernel_rfl
 c175:=by kernel_rfl
 c210:=by kernel_rfl
 c212:=by kernel_rfl
 c213:=by kernel_rfl
 c232:=by kernel_rfl
 c233:=by kernel_rfl }
open Go.RowKit in
theorem Tryz.strconv_ParseInt_10_at64_ok (s:ByteArray)(hmax:s.size≤9223372036854775806)(v:Int)(h:Lib.parseIntB 64 s.data.toList=.ok v)(w:World) :
  Calls Tryz.prog 124 #[.string s,.int .i64 10,.int .i64 64] w λ e w'=>e=.returned (.tuple #[.int .i64 v,.nilIface])∧(w'=w∨∃ t,w'=Lib.bytesWorld w 5 t):=Any.strconv_ParseInt_10_at64_ok Tryz.laysC174 s hmax v h w
open Go.RowKit in
theorem Tryz.strconv_ParseInt_10_at64_range (s:ByteArray)(hlim:s.size≤281474976710656)(h:Lib.parseIntB 64 s.data.toList=.range)(ev:Value)(w:World)(hv:w.cell? ⟨5,0,none⟩=some ev)(hev:ev=.nilIface∨∃ te pe,ev=.iface te pe) :
  Calls Tryz.prog 124 #[.string s,.int .i64 10,.int .i64 64] w λ e w'=>∃ N,e=.returned (.tuple #[.int .i64 (Lib.intSat 64 s.data.toList),.iface 185 (.pointer (some ⟨N,0,none⟩))])∧w.heap.size≤N∧w'.heap[N]? = some (.cells #[.string ⟨#[80,97,114,115,101,73,110,116]⟩,.string s,ev] 196 (0,0))∧Below w.heap.size w w':=Any.strconv_ParseInt_10_at64_range Tryz.laysC174 s hlim h ev w hv hev
open Go.RowKit in
theorem Tryz.strconv_ParseInt_10_at64_syntax (s:ByteArray)(hlim:s.size≤281474976710656)(h:Lib.parseIntB 64 s.data.toList=Lib.parseIntB 64 [])(ev:Value)(w:World)(hv:w.cell? ⟨4,0,none⟩=some ev)(hev:ev=.nilIface∨∃ te pe,ev=.iface te pe) :
  Calls Tryz.prog 124 #[.string s,.int .i64 10,.int .i64 64] w λ e w'=>∃ N,e=.returned (.tuple #[.int .i64 (0),.iface 185 (.pointer (some ⟨N,0,none⟩))])∧w.heap.size≤N∧w'.heap[N]? = some (.cells #[.string ⟨#[80,97,114,115,101,73,110,116]⟩,.string s,ev] 196 (0,0))∧Below w.heap.size w w':=Any.strconv_ParseInt_10_at64_syntax Tryz.laysC174 s hlim h ev w hv hev
def Tryz.lays197_ren:Go.Shelf.Ren:=⟨λ | 197=>116 | 260=>137 | n=>n,λ | 9=>9 | 21=>21 | 3=>3 | 4=>4 | 5=>5 | 105=>150 | 119=>171 | 0=>0 | 46=>165 | 139=>174 | 138=>173 | n=>n,λ | 3=>1 | 4=>2 | n=>n⟩
theorem Tryz.lays197:Go.Proofs.Lays.n197 Tryz.prog Tryz.lays197_ren:={
 mixed:=by kernel_rfl
 f197:=Tryz.func116.trans (congrArg some (by kernel_rfl))
 f260:=Tryz.func137.trans (congrArg some (by kernel_rfl))
 t0:=Tryz.underlying0
 a0:=Tryz.isAgg0
 z0:=Tryz.sizeOf0
 v0:=Tryz.zeroValue0
 t3:=Tryz.underlying3
 a3:=Tryz.isAgg3
 z3:=Tryz.sizeOf3
 v3:=Tryz.zeroValue3
 t4:=Tryz.underlying4
 a4:=Tryz.isAgg4
 z4:=Tryz.sizeOf4
 v4:=Tryz.zeroValue4
 t5:=Tryz.underlying5
 a5:=Tryz.isAgg5
 z5:=Tryz.sizeOf5
 v5:=Tryz.zeroValue5
 t9:=Tryz.underlying9
 a9:=Tryz.isAgg9
 z9:=Tryz.sizeOf9
 v9:=Tryz.zeroValue9
 t21:=Tryz.underlying21
 a21:=Tryz.isAgg21
 z21:=Tryz.sizeOf21
 v21:=Tryz.zeroValue21
 t46:=Tryz.underlying165
 a46:=Tryz.isAgg165
 z46:=Tryz.sizeOf165
 v46:=Tryz.zeroValue165
 t105:=Tryz.underlying150
 a105:=Tryz.isAgg150
 z105:=Tryz.sizeOf150
 v105:=Tryz.zeroValue150
 t119:=Tryz.underlying171
 a119:=Tryz.isAgg171
 z119:=Tryz.sizeOf171
 t138:=Tryz.underlying173
 a138:=Tryz.isAgg173
 z138:=Tryz.sizeOf173
 v138:=Tryz.zeroValue173
 t139:=Tryz.underlying174
 a139:=Tryz.isAgg174
 z139:=Tryz.sizeOf174
 v139:=Tryz.zeroValue174
 g3:=by kernel_rfl
 g4:=by kernel_rfl }
open Go.RowKit Go.Lib in
theorem Tryz.utf8_DecodeRuneInString (s:ByteArray)(w:World)(hT:Lib.Utf8Tabs 1 2 w) :
  Calls Tryz.prog 116 #[.string s] w λ e w'=>e=.returned (.tuple #[.int .i32 (Lib.decodeGo s).1,.int .i64 (Lib.decodeGo s).2])∧Below w.heap.size w w':=Any.utf8_DecodeRuneInString Tryz.lays197 s w hT
def Tryz.lays153_ren:Go.Shelf.Ren:=⟨λ | 153=>93 | 152=>112 | 226=>113 | 227=>114 | 228=>115 | 137=>97 | 119=>134 | 224=>135 | 225=>136 | 217=>122 | 266=>141 | n=>n,λ | 9=>9 | 3=>3 | 4=>4 | 5=>5 | 21=>21 | 117=>147 | 116=>146 | 0=>0 | 46=>165 | 124=>166 | n=>n,λ | n=>n⟩
theorem Tryz.lays153:Go.Proofs.Lays.n153 Tryz.prog Tryz.lays153_ren:={
 mixed:=by kernel_rfl
 f119:=Tryz.func134.trans (congrArg some (by kernel_rfl))
 f137:=Tryz.func97.trans (congrArg some (by kernel_rfl))
 f152:=Tryz.func112.trans (congrArg some (by kernel_rfl))
 f153:=Tryz.func93.trans (congrArg some (by kernel_rfl))
 f217:=Tryz.func122.trans (congrArg some (by kernel_rfl))
 f224:=Tryz.func135.trans (congrArg some (by kernel_rfl))
 f225:=Tryz.func136.trans (congrArg some (by kernel_rfl))
 f226:=Tryz.func113.trans (congrArg some (by kernel_rfl))
 f227:=Tryz.func114.trans (congrArg some (by kernel_rfl))
 f228:=Tryz.func115.trans (congrArg some (by kernel_rfl))
 f266:=Tryz.func141.trans (congrArg some (by kernel_rfl))
 t0:=Tryz.underlying0
 a0:=Tryz.isAgg0
 z0:=Tryz.sizeOf0
 v0:=Tryz.zeroValue0
 t3:=Tryz.underlying3
 a3:=Tryz.isAgg3
 z3:=Tryz.sizeOf3
 v3:=Tryz.zeroValue3
 t4:=Tryz.underlying4
 a4:=Tryz.isAgg4
 z4:=Tryz.sizeOf4
 v4:=Tryz.zeroValue4
 t5:=Tryz.underlying5
 a5:=Tryz.isAgg5
 z5:=Tryz.sizeOf5
 v5:=Tryz.zeroValue5
 t9:=Tryz.underlying9
 a9:=Tryz.isAgg9
 z9:=Tryz.sizeOf9
 v9:=Tryz.zeroValue9
 t21:=Tryz.underlying21
 a21:=Tryz.isAgg21
 z21:=Tryz.sizeOf21
 v21:=Tryz.zeroValue21
 t46:=Tryz.underlying165
 a46:=Tryz.isAgg165
 z46:=Tryz.sizeOf165
 v46:=Tryz.zeroValue165
 t116:=Tryz.underlying146
 a116:=Tryz.isAgg146
 z116:=Tryz.sizeOf146
 t117:=Tryz.underlying147
 a117:=Tryz.isAgg147
 z117:=Tryz.sizeOf147
 v117:=Tryz.zeroValue147
 t124:=Tryz.underlying166
 a124:=Tryz.isAgg166
 z124:=Tryz.sizeOf166
 v124:=Tryz.zeroValue166 }
open Go.RowKit Go.Lib in
theorem Tryz.strings_IndexAny_long (hv116:∀ w,(zeroValue 146).run Tryz.prog w=.ok (.agg (Array.replicate 256 (.bool false))) w)(s chars:ByteArray)(w:World)(h2:2≤chars.size)(h8:8 < s.size)(hs:s.size < 4294967281)(hcs:chars.size < 4294967281)(hascii:∀ (j:Nat) b,chars.data.toList[j]? = some b→b.toNat < 128) :
  Calls Tryz.prog 93 #[.string s,.string chars] w λ e w'=>e=.returned (.int .i64 (Lib.indexAny s.data.toList chars.data.toList))∧w'=((w.alloc (.cells (Lib.setCells chars.data.toList) 146)).alloc (.cells (Lib.setCells chars.data.toList) 146)):=Any.strings_IndexAny_long Tryz.lays153 hv116 (by kernel_rfl) s chars w h2 h8 hs hcs hascii
def Tryz.lays152_ren:Go.Shelf.Ren:=⟨λ | 152=>112 | 137=>97 | 119=>134 | 224=>135 | 225=>136 | 217=>122 | 266=>141 | n=>n,λ | 9=>9 | 21=>21 | 3=>3 | 4=>4 | 5=>5 | 0=>0 | 46=>165 | n=>n,λ | n=>n⟩
theorem Tryz.lays152:Go.Proofs.Lays.n152 Tryz.prog Tryz.lays152_ren:={
 mixed:=by kernel_rfl
 f119:=Tryz.func134.trans (congrArg some (by kernel_rfl))
 f137:=Tryz.func97.trans (congrArg some (by kernel_rfl))
 f152:=Tryz.func112.trans (congrArg some (by kernel_rfl))
 f217:=Tryz.func122.trans (congrArg some (by kernel_rfl))
 f224:=Tryz.func135.trans (congrArg some (by kernel_rfl))
 f225:=Tryz.func136.trans (congrArg some (by kernel_rfl))
 f266:=Tryz.func141.trans (congrArg some (by kernel_rfl))
 t0:=Tryz.underlying0
 a0:=Tryz.isAgg0
 z0:=Tryz.sizeOf0
 v0:=Tryz.zeroValue0
 t3:=Tryz.underlying3
 a3:=Tryz.isAgg3
 z3:=Tryz.sizeOf3
 v3:=Tryz.zeroValue3
 t4:=Tryz.underlying4
 a4:=Tryz.isAgg4
 z4:=Tryz.sizeOf4
 v4:=Tryz.zeroValue4
 t5:=Tryz.underlying5
 a5:=Tryz.isAgg5
 z5:=Tryz.sizeOf5
 v5:=Tryz.zeroValue5
 t9:=Tryz.underlying9
 a9:=Tryz.isAgg9
 z9:=Tryz.sizeOf9
 v9:=Tryz.zeroValue9
 t21:=Tryz.underlying21
 a21:=Tryz.isAgg21
 z21:=Tryz.sizeOf21
 v21:=Tryz.zeroValue21
 t46:=Tryz.underlying165
 a46:=Tryz.isAgg165
 z46:=Tryz.sizeOf165
 v46:=Tryz.zeroValue165 }
open Go.RowKit Go.Lib in
theorem Tryz.strings_IndexRune_ascii (s:ByteArray)(r:Int)(w:World)(h0:0≤r)(h1:r < 128) :
  Calls Tryz.prog 112 #[.string s,.int .i32 r] w λ e w'=>e=.returned (.int .i64 (Lib.indexByte s.data.toList r.toNat.toUInt8))∧w'=w:=Any.strings_IndexRune_ascii Tryz.lays152 s r w h0 h1
def Tryz.lays196_ren:Go.Shelf.Ren:=⟨λ | 196=>144 | 259=>161 | n=>n,λ | 9=>9 | 4=>4 | 3=>3 | 5=>5 | 12=>12 | 119=>171 | 0=>0 | 46=>165 | 139=>174 | 138=>173 | 53=>177 | n=>n,λ | 3=>1 | 4=>2 | n=>n⟩
theorem Tryz.lays196:Go.Proofs.Lays.n196 Tryz.prog Tryz.lays196_ren:={
 mixed:=by kernel_rfl
 f196:=Tryz.func144.trans (congrArg some (by kernel_rfl))
 f259:=Tryz.func161.trans (congrArg some (by kernel_rfl))
 t0:=Tryz.underlying0
 a0:=Tryz.isAgg0
 z0:=Tryz.sizeOf0
 v0:=Tryz.zeroValue0
 t3:=Tryz.underlying3
 a3:=Tryz.isAgg3
 z3:=Tryz.sizeOf3
 v3:=Tryz.zeroValue3
 t4:=Tryz.underlying4
 a4:=Tryz.isAgg4
 z4:=Tryz.sizeOf4
 v4:=Tryz.zeroValue4
 t5:=Tryz.underlying5
 a5:=Tryz.isAgg5
 z5:=Tryz.sizeOf5
 v5:=Tryz.zeroValue5
 t9:=Tryz.underlying9
 a9:=Tryz.isAgg9
 z9:=Tryz.sizeOf9
 v9:=Tryz.zeroValue9
 t12:=Tryz.underlying12
 a12:=Tryz.isAgg12
 z12:=Tryz.sizeOf12
 v12:=Tryz.zeroValue12
 t46:=Tryz.underlying165
 a46:=Tryz.isAgg165
 z46:=Tryz.sizeOf165
 v46:=Tryz.zeroValue165
 t53:=Tryz.underlying177
 a53:=Tryz.isAgg177
 z53:=Tryz.sizeOf177
 v53:=Tryz.zeroValue177
 t119:=Tryz.underlying171
 a119:=Tryz.isAgg171
 z119:=Tryz.sizeOf171
 t138:=Tryz.underlying173
 a138:=Tryz.isAgg173
 z138:=Tryz.sizeOf173
 v138:=Tryz.zeroValue173
 t139:=Tryz.underlying174
 a139:=Tryz.isAgg174
 z139:=Tryz.sizeOf174
 v139:=Tryz.zeroValue174
 g3:=by kernel_rfl
 g4:=by kernel_rfl }
open Go.RowKit Go.Lib in
theorem Tryz.utf8_ValidString (s:ByteArray)(w:World)(hs:s.size≤9223372036854775807)(hT:Lib.Utf8Tabs 1 2 w):Calls Tryz.prog 144 #[.string s] w λ e w'=>e=.returned (.bool (Lib.validD s.data.toList))∧Below w.heap.size w w':=Any.utf8_ValidString Tryz.lays196 s w hs hT
def Tryz.lays226_ren:Go.Shelf.Ren:=⟨λ | 226=>113 | n=>n,λ | 3=>3 | 4=>4 | n=>n,λ | n=>n⟩
theorem Tryz.lays226:Go.Proofs.Lays.n226 Tryz.prog Tryz.lays226_ren:={
 mixed:=by kernel_rfl
 f226:=Tryz.func113.trans (congrArg some (by kernel_rfl))
 t3:=Tryz.underlying3
 a3:=Tryz.isAgg3
 z3:=Tryz.sizeOf3
 v3:=Tryz.zeroValue3
 t4:=Tryz.underlying4
 a4:=Tryz.isAgg4
 z4:=Tryz.sizeOf4
 v4:=Tryz.zeroValue4 }
open Go.RowKit Go.Lib in
theorem Tryz.strings_shouldUseASCIISet (n:Int)(w:World) :
  Calls Tryz.prog 113 #[.int .i64 n] w λ e w'=>e=.returned (.bool (decide (8 < n)))∧w'=w:=Any.strings_shouldUseASCIISet Tryz.lays226 n w
end Go.Proofs
end
section
namespace Go.Ab
open Go.Proofs Go.RowKit
def strings_IndexByte (s:Bytes)(c:Int):Option Int:=some (Lib.indexByte s c.toNat.toUInt8)
theorem kQ (s_0:Bytes)(c_1:Int)(r:Int)(h0:strings_IndexByte s_0 c_1=some r):aA Tryz.prog 97 [eS s_0,eK .u8 c_1] (·=.p (eI r)):=by
 cases h0
 refine aA.of_calls (l:=[.string (str s_0),.int .u8 c_1]) λ w st hok=>(Tryz.strings_IndexByte _ _ w).mono ?_
 rintro e w' ⟨rfl,rfl⟩
 rw [g8]
 exact ⟨_,Z,mc _,λ _=>.p (.val _)⟩
def dD (r:Int):Option Bool:=some (Lib.validRune r)
theorem iR (r_0:Int)(r:Bool)(h0:dD r_0=some r):aA Tryz.prog 134 [eK .i32 r_0] (·=.p (eB r)):=by
 cases h0
 refine aA.of_calls (l:=[.int .i32 r_0]) λ w st hok=>(Tryz.utf8_ValidRune _ w).mono ?_
 rintro e w' ⟨rfl,rfl⟩
 exact ⟨_,Z,mc _,λ _=>.p (.val _)⟩
theorem uW {w:World}{g:Gh}{a b:Value}:ARep w g (.tuple [.p (.val a),.p (.val b)]) (.tuple #[a,b]):=by
 refine .tuple Z λ i c v h1 h2=>?_
 match i,h1,h2 with
 | 0,h1,h2=>simp at h1 h2; subst h1 h2; exact .p (.val _)
 | 1,h1,h2=>simp at h1 h2; subst h1 h2; exact .p (.val _)
 | n+2,h1,_=>simp at h1
def strings_CutPrefix (s p:Bytes):Option (Bytes×Bool):=some (Lib.trimPrefix s p,Lib.hasPrefix s p)
theorem kK (s_0 p_1:Bytes)(r:Bytes×Bool)(h0:strings_CutPrefix s_0 p_1=some r):aA Tryz.prog 92 [eS s_0,eS p_1] (·=.tuple [.p (eS r.1),.p (eB r.2)]):=by
 cases h0
 refine aA.of_calls (l:=[.string (str s_0),.string (str p_1)]) λ w st hok=>(Tryz.strings_CutPrefix _ _ w).mono ?_
 rintro e w' ⟨rfl,rfl⟩
 rw [g8,g8]
 exact ⟨_,Z,mc _,λ _=>uW⟩
def strings_HasPrefix (s p:Bytes):Option Bool:=some (Lib.hasPrefix s p)
theorem om (s_0 p_1:Bytes)(r:Bool)(h0:strings_HasPrefix s_0 p_1=some r):aA Tryz.prog 68 [eS s_0,eS p_1] (·=.p (eB r)):=by
 cases h0
 refine aA.of_calls (l:=[.string (str s_0),.string (str p_1)]) λ w st hok=>(Tryz.strings_HasPrefix _ _ w).mono ?_
 rintro e w' ⟨rfl,rfl⟩
 rw [g8,g8]
 exact ⟨_,Z,mc _,λ _=>.p (.val _)⟩
def strconv_Itoa (n:Int):Option Bytes:=ck (inR n) <| some (Lib.itoa n)
theorem ta (i_0:Int)(r:Bytes)(h0:strconv_Itoa i_0=some r):aA Tryz.prog 128 [eI i_0] (·=.p (eS r)):=by
 obtain ⟨hr,h0⟩:=ll h0
 cases h0
 refine aA.of_calls (l:=[.int .i64 i_0]) λ w st hok=>(Tryz.strconv_Itoa _ hr.1 hr.2 w (Bm hok.gl (g:=3) Z (by kernel_rfl) (by kernel_rfl) (by decide))).mono ?_
 rintro e w' ⟨rfl,k,os,rfl⟩
 exact ⟨_,Z,Lib.below_grow _ w (Nat.le_refl _) k os,λ _=>.p (.val _)⟩
theorem z6:(List.range 256).all (λ c=>match CG[c]? with | some (.int .u8 n)=>n == (Lib.firstT c:Int) | _=>false)=true:=by kernel_rfl
theorem Df:(List.range 16).all (λ c=>(match Cj[2*c]? with | some (.int .u8 n)=>n == (Lib.accLo c:Int) | _=>false)&&(match Cj[2*c+1]? with | some (.int .u8 n)=>n == (Lib.accHi c:Int) | _=>false))=true:=by kernel_rfl
theorem Bu {o:Option GC}{m:Int}(h:(match o with | some (.int .u8 n)=>n == m | _=>false)=true):o=some (.int .u8 m):=by
 split at h
 ·rw [eq_of_beq h]
 ·cases h
theorem w5 {w:World}{st:Nat→Nat→Prop}(h:lj w st):Lib.Utf8Tabs 1 2 w:=by
 refine ⟨λ c hc=>oW h Z (Bu (List.all_eq_true.1 z6 c (by simpa using hc))),λ i hi=>?_⟩
 have:=List.all_eq_true.1 Df i (by simpa using hi)
 simp only [Bool.and_eq_true] at this
 exact ⟨oW h Z (Bu this.1),oW h Z (Bu this.2)⟩
def dp (s:Bytes):Option (Int×Int):=some ((Lib.decodeGo (str s)).1,(Lib.decodeGo (str s)).2)
theorem ju (s_0:Bytes)(r:Int×Int)(h0:dp s_0=some r):aA Tryz.prog 116 [eS s_0] (·=.tuple [.p (eK .i32 r.1),.p (eI r.2)]):=by
 cases h0
 refine aA.of_calls (l:=[.string (str s_0)]) λ w st hok=>(Tryz.utf8_DecodeRuneInString _ w (w5 hok.gl)).mono ?_
 rintro e w' ⟨rfl,hB⟩
 exact ⟨_,Z,hB,λ _=>uW⟩
def eO (s:Bytes):Option Bool:=ck (s.length≤9223372036854775807) <| some (Lib.validD s)
theorem lz (s_0:Bytes)(r:Bool)(h0:eO s_0=some r):aA Tryz.prog 144 [eS s_0] (·=.p (eB r)):=by
 obtain ⟨hl,h0⟩:=ll h0
 cases h0
 refine aA.of_calls (l:=[.string (str s_0)]) λ w st hok=>(Tryz.utf8_ValidString _ w (by rw [iC]; exact hl) (w5 hok.gl)).mono ?_
 rintro e w' ⟨rfl,hB⟩
 rw [g8]
 exact ⟨_,Z,hB,λ _=>.p (.val _)⟩
theorem xo (w:World)(e:TypeId)(t:ByteArray):Below w.heap.size w (Lib.bytesWorld w e t) :=
 ⟨Z,Z,Z,by rw [Lib.bytesWorld_size]; omega,λ k hk=>Lib.bytesWorld_at_old w e t k hk⟩
def iN (s:Bytes)(b z:Int):Option (Int×Bool):=ck (b=10∧z=64∧s.length≤281474976710656) <| some (match Lib.parseIntB 64 s with | .ok v=>(v,false) | .range=>(Lib.intSat 64 s,true) | _=>(0,true))
theorem zf {w:World}{g:Gh}{a:Int}{t:TypeId}{v:Value}:ARep w g (.tuple [.p (eI a),.p (eE true)]) (.tuple #[.int .i64 a,.iface t v]):=by
 refine .tuple Z λ i c v h1 h2=>?_
 match i,h1,h2 with
 | 0,h1,h2=>simp at h1 h2; subst h1 h2; exact .p (.val _)
 | 1,h1,h2=>simp at h1 h2; subst h1 h2; exact .p (.ifc _ _)
 | n+2,h1,_=>simp at h1
theorem pH (s_0:Bytes)(base_1 bitSize_2:Int)(r:Int×Bool)(h0:iN s_0 base_1 bitSize_2=some r):aA Tryz.prog 124 [eS s_0,eI base_1,eI bitSize_2] (·=.tuple [.p (eI r.1),.p (eE r.2)]):=by
 obtain ⟨⟨rfl,rfl,hl⟩,h1⟩:=ll h0
 have hsz:(str s_0).size≤281474976710656:=by rw [iC]; exact hl
 refine aA.of_calls (l:=[.string (str s_0),.int .i64 10,.int .i64 64]) λ w st hok=>?_
 cases hp:Lib.parseIntB 64 s_0 with
 | ok v =>
  rw [hp] at h1; cases h1
  refine (Tryz.strconv_ParseInt_10_at64_ok (str s_0) O v (by rw [g8]; exact hp) w).mono ?_
  rintro e w' ⟨rfl,h⟩
  refine ⟨_,Z,?_,λ _=>uW⟩
  rcases h with rfl | ⟨t,rfl⟩
  ·exact mc _
  ·exact xo _ _ _
 | range =>
  rw [hp] at h1; cases h1
  obtain ⟨t,v,hv⟩:=w7 hok.gl (g:=5) (j:=0) Z Z
  refine (Tryz.strconv_ParseInt_10_at64_range (str s_0) hsz (by rw [g8]; exact hp) _ w hv (.inr ⟨_,_,Z⟩)).mono ?_
  rintro e w' ⟨N,rfl,_,_,hB⟩
  rw [g8]
  exact ⟨_,Z,hB,λ _=>zf⟩
 | _ =>
  rw [hp] at h1; cases h1
  obtain ⟨t,v,hv⟩:=w7 hok.gl (g:=4) (j:=0) Z Z
  refine (Tryz.strconv_ParseInt_10_at64_syntax (str s_0) hsz (by rw [g8]; exact hp) _ w hv (.inr ⟨_,_,Z⟩)).mono ?_
  rintro e w' ⟨N,rfl,_,_,hB⟩
  exact ⟨_,Z,hB,λ _=>zf⟩
end Go.Ab
namespace Go.Ab
open Go.Proofs Go.RowKit Go
def hexDigit (n:Nat):UInt8:=if n < 10 then UInt8.ofNat (48+n) else UInt8.ofNat (87+n)
def dK (u:Nat):Bytes:=if u < 16 then [hexDigit u] else [hexDigit (u / 16),hexDigit (u % 16)]
set_option maxRecDepth 100000 in
theorem tz16 (w:World)(hT:w.cell? ⟨7,15,none⟩=some (.int .u8 4)) :
  Calls Tryz.prog 176 #[.int .u64 16] w λ e w'=>e=.returned (.int .i64 4)∧w'=w:=by
 have hq:IntKind.u64.wrap (Go.bits BinOp.and IntKind.u64 16 (IntKind.u64.wrap (-16))*285870213051353865) / 288230376151711744=15:=by kernel_rfl
 go_enter Tryz.func176,Tryz.ntmps176
 go_wp2
 go_ret
 exact ⟨Z,Z⟩
set_option maxRecDepth 100000 in
theorem pow2 (w:World):Calls Tryz.prog 167 #[.int .i64 16] w λ e w'=>e=.returned (.bool true)∧w'=w:=by
 have hq:bits BinOp.and IntKind.i64 16 15=0:=by kernel_rfl
 go_enter Tryz.func167,Tryz.ntmps167
 go_wp2
 go_ret
 exact ⟨Z,Z⟩
set_option maxRecDepth 100000 in
theorem tz (w:World)(hT:w.cell? ⟨7,15,none⟩=some (.int .u8 4)) :
  Calls Tryz.prog 168 #[.int .u64 16] w λ e w'=>e=.returned (.int .i64 4)∧w'=w:=by
 have HC:=tz16 w hT
 clear hT
 go_enter Tryz.func168,Tryz.ntmps168
 go_wp2_with (go_at_call 176; refine HC.mono ?_; rintro e w' ⟨rfl,rfl⟩)
 go_ret
 exact ⟨Z,Z⟩
end Go.Ab
namespace Go.Ab
open Go.Proofs Go.RowKit Go
abbrev digs:ByteArray:={ data:=#[48,49,50,51,52,53,54,55,56,57,97,98,99,100,101,102,103,104,105,106,107,108,109,110,111,112,113,114,115,116,117,118,119,120,121,122] }
def dig (n:Nat)(h:n < 36):UInt8:=digs[n]'(by show n < 36; exact h)
theorem yO (n:Nat)(h:n < 36):(({ data:=#[48,49,50,51,52,53,54,55,56,57,97,98,99,100,101,102,103,104,105,106,107,108,109,110,111,112,113,114,115,116,117,118,119,120,121,122] }:ByteArray)[n]'(by show n < 36; exact h))=dig n h:=rfl
set_option maxRecDepth 100000 in
theorem fb (u:Int)(h0:0≤u)(h1:u < 16)(w:World)(hT:w.cell? ⟨7,15,none⟩=some (.int .u8 4)) :
  Calls Tryz.prog 155 #[.slice none 0 0,.int .u64 u,.int .i64 16,.bool false,.bool false] w λ e w'=>e=.returned (.tuple #[.slice none 0 0,.string ⟨[dig u.toNat O].toArray⟩])∧Below w.heap.size w w':=by
 have hlt:(7:Nat) < w.heap.size:=by
  rcases Nat.lt_or_ge 7 w.heap.size with h | h
  ·exact h
  ·simp [World.cell?,Array.getElem?_eq_none h] at hT
 have HZ:Hid (∀ o,Calls Tryz.prog 168 #[.int .u64 16] (w.alloc o) λ e w'=>e=.returned (.int .i64 4)∧w'=w.alloc o):=λ o=>tz (w.alloc o) ((World.cell?_alloc_lt w _ _ hlt).trans hT)
 clear hT
 go_enter Tryz.func155,Tryz.ntmps155
 go_wp2_with (first | (go_at_call 167; refine (pow2 _).mono ?_; rintro e w' ⟨rfl,rfl⟩) | (go_at_call 168; refine (HZ.out _).mono ?_; rintro e w' ⟨rfl,rfl⟩))
 go_loopg [1,13] 1 (λ g uv iv wx=>g=1∧uv=.int .u64 u∧iv=.int .i64 65∧wx=w.alloc (.cells Tryz.zeroCells192 192))
 case atStart=>exact ⟨rfl,rfl,rfl,rfl⟩
 case round =>
  obtain ⟨rfl,rfl,rfl,rfl⟩:=hrel
  have hlt16:decide ((16:Int)≤u)=false:=decide_eq_false O
  go_wp2
  rw [yO u.toNat O]
  generalize hd:dig u.toNat O =dg
  have hcv:=run_convert_bytes_back (P:=Tryz.prog) (w.alloc (.cells (Tryz.zeroCells192.setIfInBounds 64 (.int .u8 dg.toNat)) 192)) 108 9 5 ⟨w.heap.size,64,none⟩ 1 [dg] Tryz.underlying108 Tryz.underlying5 Tryz.underlying9 (λ j hj=>by
   have:j=0:=by simpa using hj
   subst this
   rw [add_lit,Nat.add_zero,World.cell?_alloc_new]
   rfl)
  rw [show [dg].length=1 from rfl] at hcv
  rw [hcv]
  simp only [Result.andThen]
  rw [Oper.upon_value]
  go_wp2
  go_ret2
  subst hd
  exact ⟨Z,(Below.refl _ w).alloc (Nat.le_refl _) _⟩
theorem FV:(List.range 256).all (λ n=>Go.bits BinOp.and IntKind.u64 (n:Int) 15 == ((n % 16:Nat):Int))=true:=by kernel_rfl
set_option maxRecDepth 100000 in
theorem fb2 (u:Nat)(h0:16≤u)(h1:u < 256)(w:World)(hT:w.cell? ⟨7,15,none⟩=some (.int .u8 4)) :
  Calls Tryz.prog 155 #[.slice none 0 0,.int .u64 u,.int .i64 16,.bool false,.bool false] w λ e w'=>e=.returned (.tuple #[.slice none 0 0,.string ⟨[dig (u / 16) O,dig (u % 16) O].toArray⟩])∧Below w.heap.size w w':=by
 have hlt:(7:Nat) < w.heap.size:=by
  rcases Nat.lt_or_ge 7 w.heap.size with h | h
  ·exact h
  ·simp [World.cell?,Array.getElem?_eq_none h] at hT
 have HZ:Hid (∀ o,Calls Tryz.prog 168 #[.int .u64 16] (w.alloc o) λ e w'=>e=.returned (.int .i64 4)∧w'=w.alloc o):=λ o=>tz (w.alloc o) ((World.cell?_alloc_lt w _ _ hlt).trans hT)
 clear hT
 have hand:Go.bits BinOp.and IntKind.u64 (u:Int) 15=((u % 16:Nat):Int):=eq_of_beq (List.all_eq_true.1 FV u (List.mem_range.2 h1))
 go_enter Tryz.func155,Tryz.ntmps155
 go_wp2_with (first | (go_at_call 167; refine (pow2 _).mono ?_; rintro e w' ⟨rfl,rfl⟩) | (go_at_call 168; refine (HZ.out _).mono ?_; rintro e w' ⟨rfl,rfl⟩))
 go_loopg [1,13] 1 (λ g uv iv wx=>(g=1∧uv=.int .u64 u∧iv=.int .i64 65∧wx=w.alloc (.cells Tryz.zeroCells192 192))∨(g=0∧uv=.int .u64 ((u / 16:Nat):Int)∧iv=.int .i64 64∧wx=w.alloc (.cells (Tryz.zeroCells192.setIfInBounds 64 (.int .u8 (dig (u % 16) O).toNat)) 192)))
 case atStart=>exact .inl ⟨rfl,rfl,rfl,rfl⟩
 case round =>
  rcases hrel with ⟨rfl,rfl,rfl,rfl⟩ | ⟨rfl,rfl,rfl,rfl⟩
  ·have hlt16:decide ((16:Int)≤(u:Int))=true:=decide_eq_true O
   go_wp2
   rw [yO (u % 16) O]
   go_roundg 0
   case measure=>omega
   case rel=>exact .inr ⟨rfl,by rw [Int.natCast_ediv]; rfl,rfl,rfl⟩
  ·have hlt16:decide ((16:Int)≤((u / 16:Nat):Int))=false:=decide_eq_false O
   go_wp2
   rw [yO (u / 16) O]
   generalize hd:dig (u / 16) O =d1
   generalize he:dig (u % 16) O =d0
   have hcv:=run_convert_bytes_back (P:=Tryz.prog) (w.alloc (.cells ((Tryz.zeroCells192.setIfInBounds 64 (.int .u8 d0.toNat)).setIfInBounds 63 (.int .u8 d1.toNat)) 192)) 108 9 5 ⟨w.heap.size,63,none⟩ 2 [d1,d0] Tryz.underlying108 Tryz.underlying5 Tryz.underlying9 (λ j hj=>by
    have:j=0∨j=1:=by simp at hj; omega
    rcases this with rfl | rfl
    ·rw [add_lit,Nat.add_zero,World.cell?_alloc_new]
     rfl
    ·rw [add_lit,World.cell?_alloc_new]
     rfl)
   rw [show [d1,d0].length=2 from rfl] at hcv
   rw [hcv]
   simp only [Result.andThen]
   rw [Oper.upon_value]
   go_wp2
   go_ret2
   subst hd he
   exact ⟨Z,(Below.refl _ w).alloc (Nat.le_refl _) _⟩
end Go.Ab
namespace Go.Ab
open Go.Proofs Go.RowKit Go
theorem Dz:∀ n:Fin 16,dig n.1 (Nat.lt_of_lt_of_le n.2 (by decide))=hexDigit n.1:=by decide
theorem uc (n:Nat)(h:n < 16)(h':n < 36):dig n h'=hexDigit n:=Dz ⟨n,h⟩
theorem FM (u:Nat)(h1:u < 256)(w:World)(hT:w.cell? ⟨7,15,none⟩=some (.int .u8 4)) :
  Calls Tryz.prog 155 #[.slice none 0 0,.int .u64 u,.int .i64 16,.bool false,.bool false] w λ e w'=>e=.returned (.tuple #[.slice none 0 0,.string ⟨(dK u).toArray⟩])∧Below w.heap.size w w':=by
 by_cases h:u < 16
 ·have:=fb u O O  w hT
  rwa [uc _ O _,Int.toNat_natCast,show [hexDigit u]=dK u from (if_pos h).symm] at this
 ·have:=fb2 u O h1 w hT
  rwa [uc (u / 16) O _,uc (u % 16) O _,show [hexDigit (u / 16),hexDigit (u % 16)]=dK u from (if_neg h).symm] at this
set_option maxRecDepth 100000 in
theorem fint (u:Nat)(h1:u < 256)(w:World)(hT:w.cell? ⟨7,15,none⟩=some (.int .u8 4)) :
  Calls Tryz.prog 140 #[.int .i64 u,.int .i64 16] w λ e w'=>e=.returned (.string ⟨(dK u).toArray⟩)∧Below w.heap.size w w':=by
 have HC:Hid _:=FM u h1 w hT
 clear hT
 have hneg:decide ((u:Int) < 0)=false:=decide_eq_false O
 generalize dK u=tx at HC ⊢
 go_enter Tryz.func140,Tryz.ntmps140
 go_wp2_with (go_at_call 155; refine Calls.mono HC.out ?_; rintro e w' ⟨rfl,hB⟩)
 go_ret
 exact ⟨Z,hB⟩
set_option maxRecDepth 100000 in
theorem FR (u:Nat)(h1:u < 256)(w:World)(hT:w.cell? ⟨7,15,none⟩=some (.int .u8 4)) :
  Calls Tryz.prog 121 #[.int .i64 u,.int .i64 16] w λ e w'=>e=.returned (.string ⟨(dK u).toArray⟩)∧Below w.heap.size w w':=by
 have HC:Hid _:=fint u h1 w hT
 clear hT
 generalize dK u=tx at HC ⊢
 go_enter Tryz.func121,Tryz.ntmps121
 go_wp2_with (go_at_call 140; refine Calls.mono HC.out ?_; rintro e w' ⟨rfl,hB⟩)
 go_ret
 exact ⟨Z,hB⟩
def iq (i b:Int):Option Bytes:=ck (b=16∧0≤i∧i < 256) <| some (dK i.toNat)
theorem oG (i_0 base_1:Int)(r:Bytes)(h0:iq i_0 base_1=some r):aA Tryz.prog 121 [eI i_0,eI base_1] (·=.p (eS r)):=by
 obtain ⟨⟨rfl,h1,h2⟩,h3⟩:=ll h0
 cases h3
 obtain ⟨u,rfl⟩:∃ u:Nat,i_0=u:=⟨i_0.toNat,by omega⟩
 refine aA.of_calls (l:=[.int .i64 u,.int .i64 16]) λ w st hok=>(FR u O w (oW hok.gl Z (by kernel_rfl))).mono ?_
 rintro e w' ⟨rfl,hB⟩
 exact ⟨_,Z,hB,λ _=>.p (.val _)⟩
end Go.Ab
namespace Go.Ab
open Go.Proofs Go.RowKit Go
theorem El (n b0 b1 b2 b3:Nat)(hn:1≤n)(h0:b0 < 256):1≤(Lib.decodeN n b0 b1 b2 b3).2∧(Lib.decodeN n b0 b1 b2 b3).2≤n∧(Lib.decodeN n b0 b1 b2 b3).2≤4 ∧
  ((Lib.decodeN n b0 b1 b2 b3).1 < 128→(Lib.decodeN n b0 b1 b2 b3).2=1∧(Lib.decodeN n b0 b1 b2 b3).1=b0) ∧
  (128≤(Lib.decodeN n b0 b1 b2 b3).1→128≤b0∧(2≤(Lib.decodeN n b0 b1 b2 b3).2→128≤b1)∧(3≤(Lib.decodeN n b0 b1 b2 b3).2→128≤b2)∧(4≤(Lib.decodeN n b0 b1 b2 b3).2→128≤b3)) ∧
  ((Lib.decodeN n b0 b1 b2 b3).1 < 55296∨(57343 < (Lib.decodeN n b0 b1 b2 b3).1∧(Lib.decodeN n b0 b1 b2 b3).1≤1114111)):=by
 unfold Lib.decodeN
 repeat' split
 all_goals (refine ⟨by dsimp only; omega,by dsimp only; omega,by dsimp only; omega,λ h=>⟨by dsimp only at h ⊢; first | done | omega,by dsimp only at h ⊢; first | done | omega⟩,λ h=>⟨by dsimp only at h; omega,λ k=>by dsimp only at k; omega,λ k=>by dsimp only at k; omega,λ k=>by dsimp only at k; omega⟩,by dsimp only; omega⟩)
end Go.Ab
namespace Go.Ab
open Go.Proofs Go.RowKit Go
abbrev gu:ByteArray:={ data:=#[46,91] }
theorem Ep {P:Program}(w:World)(b:Nat)(s:ByteArray)(pos:Nat)(ty:TypeId)(h:pos < s.size)(hb:w.heap[b]? = some (.stringIter s pos)) :
  (Instr.next (.pointer (some ⟨b,0,none⟩)) true ty).run P w=.ok (.tuple #[.bool true,.int .i64 pos,.int .i32 (Utf8.decode s pos).1]) { w with heap:=w.heap.setIfInBounds b (.stringIter s (pos+(Utf8.decode s pos).2)) }:=by
 simp only [Instr.next,getObj,setObj,Sem.run_bind,Sem.run,hb,Result.andThen,h,if_true]
 simp [goInt,Sem.run,hb]
theorem B6 {P:Program}(w:World)(b:Nat)(s:ByteArray)(pos:Nat)(ty:TypeId)(h:¬ pos < s.size)(hb:w.heap[b]? = some (.stringIter s pos)) :
  (Instr.next (.pointer (some ⟨b,0,none⟩)) true ty).run P w=.ok (.tuple #[.bool false]) w:=by
 simp [Instr.next,getObj,Sem.run,hb,h]
theorem xP (s:ByteArray)(k:Nat)(h:k < s.size):s.data.toList[k]? = some (s.get! k):=by
 have:s.get! k=s[k]'h:=by
  simp [ByteArray.get!,getElem!_pos,h]
  rfl
 rw [this]; exact Lib.data_getElem? s k h
theorem BB (s:ByteArray)(i:Nat)(h:i < s.size):∃ c k:Nat,Utf8.decode s i=(c,k)∧1≤k∧i+k≤s.size∧(c < 128→k=1∧∃ x:UInt8,s.data.toList[i]? = some x∧c=x.toNat) ∧
  (128≤c→∀ j b,i≤j→j < i+k→s.data.toList[j]? = some b→128≤b.toNat)∧(c < 55296∨(57343 < c∧c≤1114111)):=by
 refine ⟨(Utf8.decode s i).1,(Utf8.decode s i).2,Z,?_⟩
 rw [Lib.decode_at]
 obtain ⟨h1,h2,h3,h4,h5,h6⟩:=El (s.size - i) (s.get! i).toNat (s.get! (i+1)).toNat (s.get! (i+2)).toNat (s.get! (i+3)).toNat O (UInt8.toNat_lt _)
 refine ⟨h1,by omega,λ q=>⟨(h4 q).1,s.get! i,xP s i h,(h4 q).2⟩,λ q j b a1 a2 hb=>?_,h6⟩
 obtain ⟨q0,q1,q2,q3⟩:=h5 q
 have hj:j < s.size:=by omega
 rw [xP s j hj] at hb
 cases hb
 obtain rfl | rfl | rfl | rfl:j=i∨j=i+1∨j=i+2∨j=i+3:=by omega
 ·exact q0
 ·exact q1 O
 ·exact q2 O
 ·exact q3 O
theorem AO (c:Nat)(h:128≤c)(hv:Lib.validRune c=true):(Utf8.encode (c:Int)=⟨#[UInt8.ofNat (0xC0+c / 64),UInt8.ofNat (0x80+c % 64)]⟩)∨((Utf8.encode (c:Int)).size=3∨(Utf8.encode (c:Int)).size=4):=by
 have hv2:Utf8.valid (c:Int)=true:=by
  simp only [Lib.validRune,decide_eq_true_eq] at hv
  simp only [Utf8.valid,Bool.or_eq_true,Bool.and_eq_true,decide_eq_true_eq]
  omega
 simp only [Utf8.encode,hv2,if_true,Int.toNat_natCast]
 rw [if_neg O]
 by_cases h1:c < 2048
 ·rw [if_pos h1]; exact .inl rfl
 ·rw [if_neg h1]
  by_cases h2:c < 65536
  ·rw [if_pos h2]; exact .inr (.inl rfl)
  ·rw [if_neg h2]; exact .inr (.inr rfl)
theorem FY (c:Nat):(UInt8.ofNat (0x80+c % 64)).toNat≠91:=by
 rw [UInt8.toNat_ofNat']
 omega
theorem below_drewN' {B:Nat}{a w:World}(h:Below B a w)(n:Nat):Below B a (w.drewN n):=h.trans ⟨Z,Z,Z,Nat.le_refl _,λ _ _=>rfl⟩
theorem ER (c:Int)(w:World):Calls Tryz.prog 97 #[.string ByteArray.empty,.int .u8 c] w λ e w'=>e=.returned (.int .i64 (-1))∧w'=w:=Tryz.strings_IndexByte ByteArray.empty c w
set_option maxRecDepth 1000000 in
theorem FF (s rs:ByteArray)(c:Nat)(h:128≤c)(hv:Lib.validRune c=true)(hne:c≠65533)(henc:Utf8.encode (c:Int)=rs)(hs:s.size=2)(hr:rs.size=2)
  (h1:(s[1]' O)≠(rs[1]' O)) (w:World) :
  Calls Tryz.prog 112 #[.string s,.int .i32 c] w λ e w'=>e=.returned (.int .i64 (-1))∧Below w.heap.size w w':=by
 have hlt:decide ((c:Int) < 128)=false:=decide_eq_false O
 have hne':((c:Int) == 65533)=false:=beq_eq_false_iff_ne.2 O
 have h0:decide ((0:Int)≤(c:Int))=true:=decide_eq_true O
 obtain ⟨x,hx⟩:∃ x,s[1]' O =x:=⟨_,rfl⟩
 obtain ⟨y,hy⟩:∃ y,rs[1]' O =y:=⟨_,rfl⟩
 rw [hx,hy] at h1
 have hsz:(s.size:Int)=2:=by omega
 have hrz:(rs.size:Int)=2:=by omega
 have hb:((x.toNat:Int) != (y.toNat:Int))=true:=by
  rw [bne_iff_ne]
  intro e
  exact h1 (UInt8.toNat_inj.1 O)
 go_enter Tryz.func112,Tryz.ntmps112
 go_wp2_with (go_at_call 134; refine (Tryz.utf8_ValidRune _ _).mono ?_; rintro e w' ⟨rfl,hw⟩; rw [hw,hv])
 refine wp_scope_straight ?_
 go_wp2
 go_loopg [9] 0 (λ g v wx=>g=0∧v=.int .i64 1∧wx=w)
 case atStart=>exact ⟨rfl,by go_num,rfl⟩
 case round =>
  obtain ⟨rfl,rfl,rfl⟩:=hrel
  go_wp2
  refine wp_scope_straight ?_
  go_wp2
  go_big_quiet (fail)
  go_wp2
  go_big_quiet ((go_at_call 97; exact (ER _ _).mono (λ _ _ h=>⟨h.1,_,h.2⟩)))
  go_wp2
  simp only [Exit.noGoto,Exit.inBlock,Exit.then]
  go_ret
  exact ⟨Z,below_drewN' (Below.refl _ _) _⟩
set_option maxRecDepth 1000000 in
theorem Dw (s rs:ByteArray)(c:Nat)(h:128≤c)(hv:Lib.validRune c=true)(hne:c≠65533)(henc:Utf8.encode (c:Int)=rs)(hs:s.size=2)(hr:3≤rs.size)(hr4:rs.size≤4)(w:World) :
  Calls Tryz.prog 112 #[.string s,.int .i32 c] w λ e w'=>e=.returned (.int .i64 (-1))∧Below w.heap.size w w':=by
 have hlt:decide ((c:Int) < 128)=false:=decide_eq_false O
 have hne':((c:Int) == 65533)=false:=beq_eq_false_iff_ne.2 O
 have h0:decide ((0:Int)≤(c:Int))=true:=decide_eq_true O
 obtain ⟨i,hi⟩:∃ i:Nat,rs.size=i+1:=⟨rs.size - 1,by omega⟩
 have hsz:(s.size:Int)=2:=by omega
 have hrz:(rs.size:Int)=(i:Int)+1:=by omega
 have hlast:IntKind.i64.wrap ((i:Int)+1 - 1)=(i:Int):=by rw [wrap_small _ O O]; omega
 have hend:decide ((i:Int) < 2)=false:=decide_eq_false O
 go_enter Tryz.func112,Tryz.ntmps112
 go_wp2_with (go_at_call 134; refine (Tryz.utf8_ValidRune _ _).mono ?_; rintro e w' ⟨rfl,hw⟩; rw [hw,hv])
 refine wp_scope_straight ?_
 go_wp2
 go_loopg [9] 0 (λ g v wx=>g=0∧v=.int .i64 i∧wx=w)
 case atStart=>exact ⟨rfl,by first | rfl | (congr 1; omega),rfl⟩
 case round =>
  obtain ⟨rfl,rfl,rfl⟩:=hrel
  go_wp2
  simp only [Exit.noGoto,Exit.inBlock,Exit.then]
  go_ret
  exact ⟨Z,Below.refl _ _⟩
set_option maxRecDepth 1000000 in
theorem EV (w:World) :
  Calls Tryz.prog 112 #[.string gu,.int .i32 65533] w λ e w'=>e=.returned (.int .i64 (-1))∧Below w.heap.size w w':=by
 generalize hs:gu=s
 have hz:s.size=2:=by rw [← hs]; rfl
 have ha:∀ i (hi:i < s.size),(s[i]'hi).toNat < 128:=by
  subst hs
  intro i hi
  have:i=0∨i=1:=by have:i < 2:=hi; omega
  rcases this with rfl | rfl
  ·show (46:UInt8).toNat < 128; decide
  ·show (91:UInt8).toNat < 128; decide
 go_enter Tryz.func112,Tryz.ntmps112
 go_wp2
 go_loopg [5,6] 2 (λ g _ _ wx=>∃ i:Nat,i+g=2∧wx=w.iter s i)
 case atStart=>exact ⟨0,rfl,rfl⟩
 case round =>
  obtain ⟨i,hig,rfl⟩:=hrel
  cases gk with
  | zero =>
   obtain rfl:i=2:=by omega
   have hnx:=run_next_end (P:=Tryz.prog) w s 2
   rw [hz] at hnx
   go_wp2
   go_ret
   exact ⟨Z,(Below.refl _ w).alloc (Nat.le_refl _) _⟩
  | succ g =>
   have hi:i < s.size:=by omega
   have hx128:=ha i hi
   have hnx:=λ ty=>run_next_ascii (P:=Tryz.prog) w s i ty hi hx128
   obtain ⟨x,hx⟩:∃ x:UInt8,s[i]'hi=x:=⟨_,rfl⟩
   rw [hx] at hnx hx128
   have hne:((x.toNat:Int) == 65533)=false:=beq_eq_false_iff_ne.2 O
   go_wp2
   go_roundg g
   case measure=>omega
   case rel=>exact ⟨i+1,by omega,rfl⟩
end Go.Ab
namespace Go.Ab
open Go.Proofs Go.RowKit Go
theorem Dn (c:Nat)(hv:c < 55296∨(57343 < c∧c≤1114111))(h:128≤c)(w:World) :
  Calls Tryz.prog 112 #[.string gu,.int .i32 c] w λ e w'=>e=.returned (.int .i64 (-1))∧Below w.heap.size w w':=by
 have hv1:Lib.validRune (c:Int)=true:=by
  simp only [Lib.validRune,decide_eq_true_eq]
  omega
 by_cases hne:c=65533
 ·subst hne; exact EV w
 ·rcases AO c h hv1 with e | e
  ·refine FF gu _ c h hv1 hne e Z Z ?_ w
   have h91:=FY c
   intro q
   apply h91
   have q':(91:UInt8)=UInt8.ofNat (0x80+c % 64):=q
   rw [← q']
   rfl
  ·exact Dw gu _ c h hv1 hne Z Z O O  w
theorem yJ {s cs:List UInt8}{i k:Nat}(hcs:∀ b,cs.contains b=true→b.toNat < 128)(h:Lib.NoAny s cs i)(hk:∀ j b,i≤j→j < i+k→s[j]? = some b→128≤b.toNat):Lib.NoAny s cs (i+k):=λ j b hj hb=>by
 by_cases q:j < i
 ·exact h j b q hb
 ·cases hc:cs.contains b with
  | false=>rfl
  | true=>have:=hk j b O hj hb; have:=hcs b hc; omega
theorem AA {B:Nat}{a w:World}(h:Below B a w){b:Nat}(hb:B≤b)(o:Obj):Below B a { w with heap:=w.heap.setIfInBounds b o } :=
 h.trans ⟨Z,Z,Z,by simp,λ k hk=>by
  show (w.heap.setIfInBounds b o)[k]? = _
  rw [Array.getElem?_setIfInBounds_ne O]⟩
set_option maxHeartbeats 8000000 in
set_option maxRecDepth 1000000 in
theorem u4 (s:ByteArray)(w:World)(h8:s.size≤8) :
  Calls Tryz.prog 93 #[.string s,.string gu] w λ e w'=>e=.returned (.int .i64 (Lib.indexAny s.data.toList [46,91]))∧Below w.heap.size w w':=by
 have hn1:((gu.size:Int) == 1)=false:=rfl
 have h8z:decide ((8:Int) < (s.size:Int))=false:=decide_eq_false O
 have hcs:∀ b,([46,91]:List UInt8).contains b=true→b.toNat < 128:=by
  intro b hb
  simp at hb
  rcases hb with rfl | rfl <;> decide
 have hemp:({ data:=#[46,91] }:ByteArray).toList.isEmpty=false:=by rw [Lib.toList_data]; rfl
 go_enter Tryz.func93,Tryz.ntmps93
 go_wp2_with (go_at_call 113; refine (Tryz.strings_shouldUseASCIISet _ _).mono ?_; rintro e w' ⟨rfl,hw⟩; rw [hw,h8z])
 go_loopg [9,10] s.size (λ g _ _ wx=>∃ i:Nat,i+g=s.size∧wx.heap[w.heap.size]? = some (.stringIter s i)∧Hid (Below w.heap.size w wx)∧Hid (Lib.NoAny s.data.toList [46,91] i))
 case atStart=>exact ⟨0,by omega,by simp [World.iter_heap],(Below.refl _ w).alloc (Nat.le_refl _) _,Lib.NoAny.zero _ _⟩
 case round =>
  obtain ⟨i,hig,hit,HB,HN⟩:=hrel
  cases gk with
  | zero =>
   obtain rfl:i=s.size:=by omega
   have hnx:=λ ty=>B6 (P:=Tryz.prog) wr w.heap.size s s.size ty O hit
   go_wp2
   go_ret
   exact ⟨by rw [Lib.indexAny_none (by rw [← Lib.size_eq]; exact HN.out)]; rfl,HB.out⟩
  | succ g =>
   have hi:i < s.size:=by omega
   obtain ⟨c,k,hd,hk1,hk2,hlow,hhigh,hval⟩:=BB s i hi
   have hnx:=λ ty=>Ep (P:=Tryz.prog) wr w.heap.size s i ty hi hit
   rw [hd] at hnx
   have hlt:w.heap.size < wr.heap.size:=by
    rcases Nat.lt_or_ge w.heap.size wr.heap.size with h | h
    ·exact h
    ·rw [Array.getElem?_eq_none h] at hit; cases hit
   obtain ⟨W1,hW1⟩:∃ W1,({ wr with heap:=wr.heap.setIfInBounds w.heap.size (.stringIter s (i+k)) }:World)=W1:=⟨_,rfl⟩
   have HI:Hid (W1.heap[w.heap.size]? = some (.stringIter s (i+k))):=by
    rw [← hW1]
    show (wr.heap.setIfInBounds w.heap.size (.stringIter s (i+k)))[w.heap.size]? = _
    rw [Array.getElem?_setIfInBounds_self_of_lt hlt]
   have HL:Hid (w.heap.size < W1.heap.size):=by
    rw [← hW1]; show w.heap.size < (wr.heap.setIfInBounds _ _).size; simp; exact hlt
   have HB1:Hid (Below w.heap.size w W1):=by rw [← hW1]; exact AA HB.out (Nat.le_refl _) _
   have Hk:Hid (∃ g',i+k+g'=s.size∧g'≤g):=⟨s.size - (i+k),by omega,by omega⟩
   simp only [hW1] at hnx
   clear hW1 hit HB hd
   by_cases h128:c < 128
   ·obtain ⟨rfl,x,hx,rfl⟩:=hlow h128
    have Hx:Hid (s.data.toList[i]? = some x):=hx
    have HR:Hid _:=Tryz.strings_IndexRune_ascii gu (x.toNat:Int) W1 O O
    have hback:((x.toNat:Int)).toNat.toUInt8=x:=by simp
    rw [hback] at HR
    have hcon:=Lib.contains_iff_indexByte [46,91] x
    rw [show gu.data.toList=[46,91] from rfl] at HR
    clear hx hlow hhigh hval hback
    cases hin:([46,91]:List UInt8).contains x
    ·rw [hin] at hcon
     generalize Lib.indexByte [46,91] x=v at HR hcon
     have hlt:decide ((0:Int)≤v)=false:=hcon.symm
     clear hcon
     go_wp2_with (go_at_call 112; refine Calls.mono HR.out ?_; rintro e w' ⟨rfl,hw'⟩; rw [hw'])
     go_roundg g
     case measure=>omega
     case rel=>exact ⟨i+1,by omega,HI.out,HB1,HN.out.succ Hx.out hin⟩
    ·rw [hin] at hcon
     generalize Lib.indexByte [46,91] x=v at HR hcon
     have hge:decide ((0:Int)≤v)=true:=hcon.symm
     clear hcon
     go_wp2_with (go_at_call 112; refine Calls.mono HR.out ?_; rintro e w' ⟨rfl,hw'⟩; rw [hw'])
     go_ret
     exact ⟨by rw [Lib.indexAny_hit HN.out Hx.out hin]; rfl,HB1.out⟩
   ·have HR:Hid _:=Dn c hval O W1
    have HN2:Hid _:=yJ hcs HN.out (hhigh O)
    clear hlow hhigh hval
    go_wp2_with (go_at_call 112; refine Calls.mono HR.out ?_; rintro e w' ⟨rfl,hB'⟩)
    have h1:w'.heap[w.heap.size]? = some (.stringIter s (i+k)):=(hB'.block _ HL.out).trans HI.out
    obtain ⟨g',hg',hg''⟩:=Hk.out
    go_roundg g'
    case measure=>omega
    case rel=>exact ⟨i+k,hg',h1,HB1.out.trans (hB'.mono HB1.out.size),HN2⟩
theorem AB:Tryz.zeroCells146=Array.replicate 256 (.bool false):=by kernel_rfl
theorem CO (w:World):(zeroValue 146).run Tryz.prog w=.ok (.agg (Array.replicate 256 (.bool false))) w:=by
 rw [← AB]; exact Tryz.zeroValue146 w
theorem y6 (j:Nat)(b:UInt8)(h:gu.data.toList[j]? = some b):b.toNat < 128:=by
 match j,h with
 | 0,h=>cases h; decide
 | 1,h=>cases h; decide
 | n+2,h=>cases h
def strings_IndexAny (s cs:Bytes):Option Int:=ck (cs=[46,91]∧s.length < 4294967281) <| some (Lib.indexAny s cs)
theorem pL (s_0 chars_1:Bytes)(r:Int)(h0:strings_IndexAny s_0 chars_1=some r):aA Tryz.prog 93 [eS s_0,eS chars_1] (·=.p (eI r)):=by
 obtain ⟨⟨rfl,hl⟩,h1⟩:=ll h0
 cases h1
 refine aA.of_calls (l:=[.string (str s_0),.string gu]) λ w st hok=>?_
 have hz:(str s_0).size=s_0.length:=iC _
 by_cases h8:(str s_0).size≤8
 ·refine (u4 (str s_0) w h8).mono ?_
  rintro e w' ⟨rfl,hB⟩
  rw [g8]
  exact ⟨_,Z,hB,λ _=>.p (.val _)⟩
 ·refine (Tryz.strings_IndexAny_long CO (str s_0) gu w (by decide) O O  (by decide) y6).mono ?_
  rintro e w' ⟨rfl,rfl⟩
  rw [g8]
  exact ⟨_,Z,((Below.refl _ w).alloc (Nat.le_refl _) _).alloc (by show w.heap.size≤(w.heap.push _).size; simp) _,λ _=>.p (.val _)⟩
end Go.Ab
namespace Go.Ab
open Go.Proofs Go.Ab
attribute [local irreducible] awp eC aW aA bN BW AV.sub
theorem gt (l:List ac)(h:l.isEmpty=true):aA Tryz.prog 81 [eL ag l] (·=.p (eL ag [])):=by
 obtain rfl:l=[]:=by simpa using h
 refine ba good Tryz.func81 Z Z Z λ w0=>?_
 refine bI ?_
 refine cj ?_
 refine aZ Z ?_
 refine bp Z Z Z Z ?_
 refine bz ?_
 (repeat (first | refine aI ?_ | refine aM ?_ | refine b9 ?_ | refine bg Z ?_ | refine b4 ?_ | refine aV ?_ | refine aJ ?_ | refine ar ?_ | refine aD ?_ | refine ax Z ?_ | refine noGoto_ret ?_ | refine noGoto_exit ?_ | refine noGoto_normal ?_))
 refine bI ?_
 refine bI ?_
 refine cj ?_
 refine aZ Z ?_
 refine cR Z Z Z Z ?_
 refine aZ Z ?_
 refine nf Z Z Z Z Z Z Z Z (λ b hb=>?_)
 refine bz ?_
 (repeat (first | refine aI ?_ | refine aM ?_ | refine b9 ?_ | refine bg Z ?_ | refine b4 ?_ | refine aV ?_ | refine aJ ?_ | refine ar ?_ | refine aD ?_ | refine ax Z ?_ | refine noGoto_ret ?_ | refine noGoto_exit ?_ | refine noGoto_normal ?_))
 refine iz Z (λ hc=>?_) (λ hc=>?_)
 ·skip
  refine bI ?_
  refine cj ?_
  refine aZ Z ?_
  refine bp Z Z Z Z ?_
  refine bz ?_
  (repeat (first | refine aI ?_ | refine aM ?_ | refine b9 ?_ | refine bg Z ?_ | refine b4 ?_ | refine aV ?_ | refine aJ ?_ | refine ar ?_ | refine aD ?_ | refine ax Z ?_ | refine noGoto_ret ?_ | refine noGoto_exit ?_ | refine noGoto_normal ?_))
  refine di ?_
  (repeat (first | refine aI ?_ | refine aM ?_ | refine b9 ?_ | refine bg Z ?_ | refine b4 ?_ | refine aV ?_ | refine aJ ?_ | refine ar ?_ | refine aD ?_ | refine ax Z ?_ | refine noGoto_ret ?_ | refine noGoto_exit ?_ | refine noGoto_normal ?_))
  refine nF Z ?_
  exact jm _
 ·skip
  refine de ?_
  (repeat (first | refine aI ?_ | refine aM ?_ | refine b9 ?_ | refine bg Z ?_ | refine b4 ?_ | refine aV ?_ | refine aJ ?_ | refine ar ?_ | refine aD ?_ | refine ax Z ?_ | refine noGoto_ret ?_ | refine noGoto_exit ?_ | refine noGoto_normal ?_))
  refine bI ?_
  refine cj ?_
  refine aZ Z ?_
  refine uo Z Z Z Z Z Z Z 5 4 ?_
  refine aZ Z ?_
  refine cR Z Z Z Z ?_
  refine aZ Z ?_
  refine gB ag [] [] Z Z Z Z Z Z Z Z Z Z Z Z Z (λ x=>congrArg List.length (ac.cells_eq x)) Z Z Z Z (by decide) ?_
  refine aZ Z ?_
  refine bp Z Z Z Z ?_
  refine bz ?_
  (repeat (first | refine aI ?_ | refine aM ?_ | refine b9 ?_ | refine bg Z ?_ | refine b4 ?_ | refine aV ?_ | refine aJ ?_ | refine ar ?_ | refine aD ?_ | refine ax Z ?_ | refine noGoto_ret ?_ | refine noGoto_exit ?_ | refine noGoto_normal ?_))
  refine di ?_
  (repeat (first | refine aI ?_ | refine aM ?_ | refine b9 ?_ | refine bg Z ?_ | refine b4 ?_ | refine aV ?_ | refine aJ ?_ | refine ar ?_ | refine aD ?_ | refine ax Z ?_ | refine noGoto_ret ?_ | refine noGoto_exit ?_ | refine noGoto_normal ?_))
  refine nF Z ?_
  exact AV.sub_vec _ _ _ _
theorem gq (l:List ac)(h:l.isEmpty=false)(hlen:l.length*48≤140737488355328):bN Tryz.prog 81 [.p (eL ag l)] [] (λ x y=>x=.arr 2000000 4 0 l.length∧y=[(2000000,iZ ag l)]):=by
 refine gR good [800000] [800000] Tryz.func81 Z Z Z Z Z λ w0 F=>?_
 refine bI ?_
 refine cj ?_
 refine aZ Z ?_
 refine bp Z Z Z Z ?_
 refine bz ?_
 (repeat (first | refine aI ?_ | refine aM ?_ | refine b9 ?_ | refine bg Z ?_ | refine b4 ?_ | refine aV ?_ | refine aJ ?_ | refine ar ?_ | refine aD ?_ | refine ax Z ?_ | refine noGoto_ret ?_ | refine noGoto_exit ?_ | refine noGoto_normal ?_))
 refine bI ?_
 refine bI ?_
 refine cj ?_
 refine aZ Z ?_
 refine cR Z Z Z Z ?_
 refine aZ Z ?_
 refine nf Z Z Z Z Z Z Z Z (λ b hb=>?_)
 refine bz ?_
 (repeat (first | refine aI ?_ | refine aM ?_ | refine b9 ?_ | refine bg Z ?_ | refine b4 ?_ | refine aV ?_ | refine aJ ?_ | refine ar ?_ | refine aD ?_ | refine ax Z ?_ | refine noGoto_ret ?_ | refine noGoto_exit ?_ | refine noGoto_normal ?_))
 refine iz Z (λ hc=>?_) (λ hc=>?_)
 ·have he:l=[]:=by simpa using hb hc
  subst he
  cases h
 ·skip
  refine de ?_
  (repeat (first | refine aI ?_ | refine aM ?_ | refine b9 ?_ | refine bg Z ?_ | refine b4 ?_ | refine aV ?_ | refine aJ ?_ | refine ar ?_ | refine aD ?_ | refine ax Z ?_ | refine noGoto_ret ?_ | refine noGoto_exit ?_ | refine noGoto_normal ?_))
  refine bI ?_
  refine cj ?_
  refine aZ Z ?_
  refine wc Z Z Z Z Z Z 4 ?_
  refine aZ Z ?_
  refine cR Z Z Z Z ?_
  refine aZ Z ?_
  refine zL ag [] l Z Z Z Z Z Z Z Z Z Z Z Z Z Z Z (λ x=>congrArg List.length (ac.cells_eq x)) Z Z Z (by simpa using hlen) ?_
  refine aZ Z ?_
  refine bp Z Z Z Z ?_
  refine bz ?_
  (repeat (first | refine aI ?_ | refine aM ?_ | refine b9 ?_ | refine bg Z ?_ | refine b4 ?_ | refine aV ?_ | refine aJ ?_ | refine ar ?_ | refine aD ?_ | refine ax Z ?_ | refine noGoto_ret ?_ | refine noGoto_exit ?_ | refine noGoto_normal ?_))
  refine di ?_
  (repeat (first | refine aI ?_ | refine aM ?_ | refine b9 ?_ | refine bg Z ?_ | refine b4 ?_ | refine aV ?_ | refine aJ ?_ | refine ar ?_ | refine aD ?_ | refine ax Z ?_ | refine noGoto_ret ?_ | refine noGoto_exit ?_ | refine noGoto_normal ?_))
  exact pn (bB 7 800000 Z Z Z Z (aK Z (aN _) Z)) Z Z Z (aK Z (aN _) Z) (AV.sub_of_eq (congrArg (AV.arr 2000000 4 0) G)) ⟨⟨_,Z,ah _⟩,trivial⟩
end Go.Ab
end
section
namespace Go.Ab
open Go.Proofs Go.RowKit
end Go.Ab
end
section
namespace Go.Ab
open Go.MapKept
section
variable {α:Type}
def db:List (Bytes×α)→Bytes→Option α
 | [],_=>none
 | (j,v)::r,k=>if j=k then some v else db r k
def lx:List (Bytes×α)→Bytes→α→List (Bytes×α)
 | [],k,v=>[(k,v)]
 | (j,u)::r,k,v=>if j=k then (k,v)::r else (j,u)::lx r k v
theorem t1:∀ {l:List (Bytes×α)} {i:Nat} {k:Bytes} {v:α},(l.map Prod.fst).Nodup→l[i]? = some (k,v)→db l k=some v
 | [],i,k,v,_,h=>by simp at h
 | (j,u)::r,0,k,v,_,h=>by
  simp only [List.getElem?_cons_zero,Option.some.injEq,Prod.mk.injEq] at h
  obtain ⟨rfl,rfl⟩:=h
  simp [db]
 | (j,u)::r,i+1,k,v,hd,h=>by
  simp only [List.map_cons,List.nodup_cons] at hd
  simp only [List.getElem?_cons_succ] at h
  have hne:j≠k:=λ e=>hd.1 (by rw [e]; exact List.mem_map.2 ⟨_,List.mem_of_getElem? h,Z⟩)
  simp only [db,if_neg hne]
  exact t1 hd.2 h
theorem qd:∀ {l:List (Bytes×α)} {k:Bytes},(∀ p∈l,p.1≠k)→db l k=none
 | [],_,_=>rfl
 | (j,u)::r,k,h=>by
  simp only [db,if_neg (h (j,u) G)]
  exact qd λ p hp=>h p (List.mem_cons_of_mem _ hp)
theorem kA:∀ {l:List (Bytes×α)} {k:Bytes} {v:α},(∀ p∈l,p.1≠k)→lx l k v=l++[(k,v)]
 | [],_,_,_=>rfl
 | (j,u)::r,k,v,h=>by
  simp only [lx,if_neg (h (j,u) G),List.cons_append]
  rw [kA λ p hp=>h p (List.mem_cons_of_mem _ hp)]
theorem mn:∀ {l:List (Bytes×α)} {i:Nat} {k:Bytes} {u v:α},(l.map Prod.fst).Nodup→l[i]? = some (k,u)→lx l k v=l.set i (k,v)
 | [],i,k,u,v,_,h=>by simp at h
 | (j,x)::r,0,k,u,v,_,h=>by
  simp only [List.getElem?_cons_zero,Option.some.injEq,Prod.mk.injEq] at h
  obtain ⟨rfl,rfl⟩:=h
  simp [lx]
 | (j,x)::r,i+1,k,u,v,hd,h=>by
  simp only [List.map_cons,List.nodup_cons] at hd
  simp only [List.getElem?_cons_succ] at h
  have hne:j≠k:=λ e=>hd.1 (by rw [e]; exact List.mem_map.2 ⟨_,List.mem_of_getElem? h,Z⟩)
  simp only [lx,if_neg hne,List.set_cons_succ]
  rw [mn hd.2 h]
theorem uD {l:List (Bytes×α)}{k:Bytes}{v:α}(hd:(l.map Prod.fst).Nodup):((lx l k v).map Prod.fst).Nodup:=by
 by_cases h:∀ p∈l,p.1≠k
 ·rw [kA h,List.map_append,List.nodup_append]
  refine ⟨hd,by simp,λ a ha b hb e=>?_⟩
  simp only [List.map_cons,List.map_nil,List.mem_singleton] at hb
  subst hb
  obtain ⟨p,hp,hq⟩:=List.mem_map.1 ha
  exact h p hp (hq.trans e)
 ·obtain ⟨p,hp,hk⟩:∃ p∈l,p.1=k:=by
   refine Classical.byContradiction λ q=>h λ p hp e=>q ⟨p,hp,e⟩
  obtain ⟨i,hi⟩:=List.mem_iff_getElem?.1 hp
  obtain ⟨j,u⟩:=p
  have hk:j=k:=hk
  subst hk
  rw [mn hd hi]
  have:(l.set i (j,v)).map Prod.fst=l.map Prod.fst:=by
   rw [List.map_set]
   apply List.ext_getElem?
   intro q
   rw [List.getElem?_set]
   by_cases e:i=q
   ·subst e
    have:i < l.length:=(List.getElem?_eq_some_iff.1 hi).1
    rw [if_pos rfl]
    simp only [List.length_map,this,if_true,List.getElem?_map,hi]
    rfl
   ·rw [if_neg e]
  rw [this]; exact hd
theorem pq {β:Type}(f:α→β):∀ (l:List (Bytes×α)) (k:Bytes),db (l.map λ p=>(p.1,f p.2)) k=(db l k).map f
 | [],_=>rfl
 | (j,v)::r,k=>by
  simp only [List.map_cons,db]
  split
  ·rfl
  ·exact pq f r k
theorem uM {β:Type}(f:α→β):∀ (l:List (Bytes×α)) (k:Bytes) (v:α),lx (l.map λ p=>(p.1,f p.2)) k (f v)=(lx l k v).map λ p=>(p.1,f p.2)
 | [],_,_=>rfl
 | (j,u)::r,k,v=>by
  simp only [List.map_cons,lx]
  split
  ·rfl
  ·rw [uM f r k v]; rfl
end
theorem zN {a b:Bytes}(h:(Value.string ⟨a.toArray⟩)=.string ⟨b.toArray⟩):a=b:=by
 simpa using h
theorem nn {u:TypeDesc}{k e:Nat}(h:kindOf u=.map k e):u=.map k e:=by
 cases u <;> simp [kindOf] at h
 obtain ⟨rfl,rfl⟩:=h; rfl
theorem tQ {es:Array MapEntry}{kvs:List (Bytes×PV)}(hn:es.size=kvs.length)(hd:(kvs.map Prod.fst).Nodup)(hk:∀ (i:Nat) e kv,es[i]? = some e→kvs[i]? = some kv→e.key=.string ⟨kv.1.toArray⟩)(k:Bytes) :
  (∀ x∈es.toList,IsKey .string x.key) ∧
  ((Instr.findNow .string (.string ⟨k.toArray⟩) es.toList 0=some none∧(∀ x∈es.toList,x.key≠.string ⟨k.toArray⟩)∧∀ p∈kvs,p.1≠k) ∨
  ∃ j e v,Instr.findNow .string (.string ⟨k.toArray⟩) es.toList 0=some (some (j,e.val))∧es[j]? = some e∧e.key=.string ⟨k.toArray⟩∧kvs[j]? = some (k,v)):=by
 have hks:∀ x∈es.toList,IsKey .string x.key:=by
  intro x hx
  obtain ⟨i,hi⟩:=List.mem_iff_getElem?.1 hx
  rw [Array.getElem?_toList] at hi
  have hil:=(Array.getElem?_eq_some_iff.1 hi).1
  have:=hk i x kvs[i] hi (List.getElem?_eq_getElem O)
  rw [this]; trivial
 refine ⟨hks,?_⟩
 rcases findNow_spec (k:=.string ⟨k.toArray⟩) (d:=.string) trivial es.toList 0 hks with ⟨h1,h2⟩ | ⟨j,e,h1,h2,h3⟩
 ·refine .inl ⟨h1,h2,λ p hp e=>?_⟩
  obtain ⟨i,hi⟩:=List.mem_iff_getElem?.1 hp
  have hil:=(List.getElem?_eq_some_iff.1 hi).1
  have hes:es[i]? = some es[i]:=Array.getElem?_eq_getElem O
  have:=hk i es[i] p hes hi
  exact h2 es[i] (Array.getElem_mem_toList O) (by rw [this,e])
 ·rw [Array.getElem?_toList] at h2
  have hil:=(Array.getElem?_eq_some_iff.1 h2).1
  have hkv:kvs[j]? = some kvs[j]:=List.getElem?_eq_getElem O
  have:=hk j e kvs[j] h2 hkv
  have he:kvs[j].1=k:=zN (this.symm.trans h3)
  refine .inr ⟨j,e,kvs[j].2,by rw [h1]; simp,h2,h3,?_⟩
  rw [hkv,← he]
def upA (tok:Nat)(kvs:List (Bytes×PV))(x:AV):AV:=match x with
 | .mp t l=>bif Nat.beq t tok then .mp t kvs else .mp t l
 | x=>x.dem (Nat.beq · tok)
def upS (tok:Nat)(kvs:List (Bytes×PV)):List (Nat×AV)→Option (List (Nat×AV))
 | []=>some []
 | (i,x)::r=>(match frc (upA tok kvs x) with
  | some y=>(match upS tok kvs r with | some l=>some ((i,y)::l) | none=>none)
  | none=>none)
theorem BK {tok:Nat}{kvs:List (Bytes×PV)}:∀ {l l':List (Nat×AV)},upS tok kvs l=some l'→l'=l.map λ p=>(p.1,upA tok kvs p.2)
 | [],l',h=>by cases h; rfl
 | (i,x)::r,l',h=>by
  unfold upS at h
  split at h
  ·rename_i y hy
   split at h
   ·rename_i m hm; cases h; rw [uB hy,BK hm]; rfl
   ·cases h
  ·cases h
section
variable {C:Cx} {o:Oper} {K:AS→Prop} {sl:List (Nat×AV)} {ob:List (Nat×List AV)} {d:Nat}
theorem Cm {d:Nat}(hd:d < M1):∀ i,Nat.beq i d=true→i < M1:=λ i hi=>by have:=Nat.eq_of_beq_eq_true hi; omega
theorem sI {y:AV}{sl':List (Nat×AV)}{ob':List (Nat×List AV)}(hd:o.dst=some d)(hn:Nat.blt d C.n=true)
  (hrun:∀ g a w,St C.n C.w0 C.F g ⟨sl,ob⟩ a w→(execOp a.eval o).run C.P w=.ok (.value (.map (some w.heap.size))) (w.alloc (.map #[] 0)))
  (hy:∀ (w:World) (g:Gh) (b:Nat),g.ow d=some b→w.heap[b]? = some (.map #[] 0)→ARep w g y (.map (some b)))
  (h1:dmS (Nat.beq · d) sl=some sl') (h2:dmO (Nat.beq · d) ob=some ob') (hK:K ⟨(d,y)::sl',ob'⟩):aW C o K ⟨sl,ob⟩:=by
 intro g a w hs
 have hdl:d < M1:=by have h1:=Nat.le_of_ble_eq_true C.nl; have h2:d < C.n:=Nat.blt_eq ▸ hn; omega
 unfold Oper.wp
 rw [hrun g a w hs]
 have hev:Ev w g.st (w.alloc (.map #[] 0)) g.st:=λ b o h=>⟨h,World.cell?_alloc_lt w _ _ (hs.lt b o h)⟩
 obtain ⟨g',hg'⟩:∃ g':Gh,g'=⟨g.st,λ i=>if i=d then some w.heap.size else g.ow i⟩:=⟨_,rfl⟩
 have hsz:(w.alloc (.map #[] 0)).heap.size=w.heap.size+1:=by simp
 have hs':St C.n C.w0 C.F g' (ct (Nat.beq · d) ⟨sl,ob⟩) a (w.alloc (.map #[] 0)):=by
  subst hg'
  refine hs.evolve (Nat.beq · d) (Cm hdl) hev (λ id b hD h=>?_) (λ i j b hi hj=>?_) (λ i b hi=>?_) (λ b o h=>?_) (λ b hb=>?_) Z Z Z O (λ b _ o=>Iff.rfl) (λ i hi=>?_)
  ·have hne:id≠d:=λ e=>by subst e; simp at hD
   exact ⟨by simp only [if_neg hne]; exact h,dw (hs.own id b h).1,λ o h=>h⟩
  ·dsimp only at hi hj
   by_cases e1:i=d <;> by_cases e2:j=d
   ·omega
   ·rw [if_pos e1] at hi; rw [if_neg e2] at hj; cases hi; have:=(hs.own j _ hj).1; omega
   ·rw [if_neg e1] at hi; rw [if_pos e2] at hj; cases hj; have:=(hs.own i _ hi).1; omega
   ·rw [if_neg e1] at hi; rw [if_neg e2] at hj; exact hs.inj i j b hi hj
  ·dsimp only at hi
   by_cases e1:i=d
   ·rw [if_pos e1] at hi; cases hi
    exact ⟨by omega,λ hF=>by have:=hs.fl _ hF; have:=hs.size; omega⟩
   ·rw [if_neg e1] at hi; have:=hs.own i b hi; exact ⟨by omega,this.2⟩
  ·have:=hs.lt b o h; omega
  ·exact dw (by have:=hs.fl b hb; have:=hs.size; omega)
  ·dsimp only
   rw [if_neg O]
 refine ⟨g',⟨(d,y)::sl',ob'⟩,?_,hK⟩
 have hp:=hs'.put (d:=o.dst) (λ t ht=>by rw [hd] at ht; cases ht; exact Nat.blt_eq ▸ hn) (x:=y) (v:=.map (some w.heap.size))
  (hy _ _ _ (by rw [hg']; simp) cK)
 rw [hd] at hp ⊢
 rw [wY h1,p9 h2]
 exact hp
theorem xk {t:TypeId}{x:Operand}{n:Int}{i:TI}{kt et:Nat}{sl':List (Nat×AV)}{ob':List (Nat×List AV)}(ho:o.op=.makeMap t (some x))(hd:o.dst=some d)(hn:Nat.blt d C.n=true)
  (hi:look C.tt t=some i) (hik:i.k=.map kt et) (hx:evo sl x=some (.p (.val (.int .i64 n)))) (h1:dmS (Nat.beq · d) sl=some sl') (h2:dmO (Nat.beq · d) ob=some ob') (hK:K ⟨(d,.mp d [])::sl',ob'⟩):aW C o K ⟨sl,ob⟩:=by
 obtain ⟨u,hu1,hu2⟩:=bc C.good hi
 obtain rfl:=nn (hu2.trans hik)
 refine sI hd hn (λ g a w hs=>?_) (λ w g b h1 h2=>.mp h1 h2 Z G G G) h1 h2 hK
 have hv:=bJ hs hx
 simp [execOp,ho,hv,Instr.makeMap,run_underlying hu1,asInt,asIntOf,newObj,Sem.run,Result.andThen]
theorem vV {t kt et:TypeId}{x y:Operand}{i j:TI}{tok:Nat}{kvs:List (Bytes×PV)}{k:Bytes}{z:Value}{r:PV}(ho:o.op=.lookup t x y false)(hd:o.dst=some d)(hn:Nat.blt d C.n=true)
  (hi:look C.tt t=some i) (hik:i.k=.map kt et) (hj:look C.tt kt=some j) (hjk:j.k=.string) (hz:(C.P.info? et).map (·.zero)=some (some z))
  (hx:evo sl x=some (.mp tok kvs)) (hy:evo sl y=some (.p (.val (.string ⟨k.toArray⟩)))) (hr:∀ (w:World) (st:Nat→Nat→Prop) (v:Value),PRep w st ((db kvs k).getD (.val z)) v→PRep w st r v) (hK:K ⟨(d,.p r)::sl,ob⟩):aW C o K ⟨sl,ob⟩:=by
 obtain ⟨u,h1,h2⟩:=bc C.good hi
 obtain rfl:=nn (h2.trans hik)
 obtain ⟨u2,h3,h4⟩:=bc C.good hj
 obtain rfl:=ez (h4.trans hjk)
 refine ok_one hd hn (λ g a w hs=>?_) hK
 have hm:=bq hs hx
 have hkv:=bJ hs hy
 generalize hv:a.eval x=v at hm
 cases hm with
 | mp how hb hN hD hkeys hvals =>
  rename_i b ck es
  obtain ⟨hks,hc⟩:=tQ hN hD hkeys k
  have hz2:(zeroValue et).run C.P w=.ok z w:=by
   obtain ⟨inf,hinf,hzz⟩:=Option.map_eq_some_iff.1 hz
   simp [zeroValue,typeInfo,hinf,hzz]
  rcases hc with ⟨f1,f2,f3⟩ | ⟨jj,e,v',f1,f2,f3,f4⟩
  ·refine ⟨z,?_,?_⟩
   ·simp [execOp,ho,hv,hkv,Instr.lookup,run_underlying h1,Go.MapKept.run_getObj_map hb,run_checkKey (d:=.string) h3 (k:=.string ⟨k.toArray⟩) trivial,run_findKey h3 f1,hz2,Result.andThen]
   ·exact .p (hr w _ _ (by rw [qd f3]; exact .val _))
  ·refine ⟨e.val,?_,?_⟩
   ·simp [execOp,ho,hv,hkv,Instr.lookup,run_underlying h1,Go.MapKept.run_getObj_map hb,run_checkKey (d:=.string) h3 (k:=.string ⟨k.toArray⟩) trivial,run_findKey h3 f1,Result.andThen]
   ·exact .p (hr w _ _ (by rw [t1 hD f4]; exact hvals jj e _ f2 f4))
theorem CX {t kt et:TypeId}{x y:Operand}{i j:TI}{tok:Nat}{kvs:List (Bytes×PV)}{k:Bytes}{z:Value}{r:PV}(ho:o.op=.lookup t x y false)(hd:o.dst=some d)(hn:Nat.blt d C.n=true)
  (hi:look C.tt t=some i) (hik:i.k=.map kt et) (hj:look C.tt kt=some j) (hjk:j.k=.string) (hz:(C.P.info? et).map (·.zero)=some (some z))
  (hx:evo sl x=some (.mp tok kvs)) (hy:evo sl y=some (.p (.val (.string ⟨k.toArray⟩)))) (hr:(db kvs k).getD (.val z)=r) (hK:K ⟨(d,.p r)::sl,ob⟩):aW C o K ⟨sl,ob⟩ :=
 vV ho hd hn hi hik hj hjk hz hx hy (λ _ _ _ h=>hr ▸ h) hK
theorem DU {t kt et:TypeId}{x y v:Operand}{i j:TI}{tok:Nat}{kvs kvs':List (Bytes×PV)}{k:Bytes}{r:PV}{sl':List (Nat×AV)}{ob':List (Nat×List AV)}(ho:o.op=.mapUpdate t x y v)(hd:o.dst=none)
  (hi:look C.tt t=some i) (hik:i.k=.map kt et) (hj:look C.tt kt=some j) (hjk:j.k=.string)
  (hx:evo sl x=some (.mp tok kvs)) (hy:evo sl y=some (.p (.val (.string ⟨k.toArray⟩)))) (hv:evo sl v=some (.p r)) (htok:Nat.blt tok M1=true)
  (hk:lx kvs k r=kvs') (h1:upS tok kvs' sl=some sl') (h2:dmO (Nat.beq · tok) ob=some ob') (hK:K ⟨sl',ob'⟩):aW C o K ⟨sl,ob⟩:=by
 obtain ⟨u,hu1,hu2⟩:=bc C.good hi
 obtain rfl:=nn (hu2.trans hik)
 obtain ⟨u2,hu3,hu4⟩:=bc C.good hj
 obtain rfl:=ez (hu4.trans hjk)
 have htl:tok < M1:=Nat.blt_eq ▸ htok
 intro g a w hs
 have hm:=bq hs hx
 have hkv:=bJ hs hy
 have hrep:=bq hs hv
 generalize hvx:a.eval x=vx at hm
 generalize hvv:a.eval v=vv at hrep
 cases hrep with
 | p hrep =>
 cases hm with
 | mp how hb hN hD hkeys hvals =>
  rename_i b ck es
  obtain ⟨hks,hc⟩:=tQ hN hD hkeys k
  have hbl:b < w.heap.size:=(hs.own tok b how).1
  -- the entries behind the change
  obtain ⟨es',ck',hrun,hN',hkeys',hvals'⟩:∃ (es':Array MapEntry) (ck':Nat),(execOp a.eval o).run C.P w=.ok .skip { w with heap:=w.heap.setIfInBounds b (.map es' ck') }∧es'.size=kvs'.length ∧
    (∀ (i:Nat) e kv,es'[i]? = some e→kvs'[i]? = some kv→e.key=.string ⟨kv.1.toArray⟩)∧(∀ (i:Nat) e kv,es'[i]? = some e→kvs'[i]? = some kv→PRep w g.st kv.2 e.val):=by
   rcases hc with ⟨f1,f2,f3⟩ | ⟨jj,e,v',f1,f2,f3,f4⟩
   ·refine ⟨es.push { key:=.string ⟨k.toArray⟩,val:=vv,born:=ck },ck+1,?_,?_,?_,?_⟩
    ·simp [execOp,ho,hvx,hkv,hvv,Instr.mapUpdate,run_underlying hu1,Go.MapKept.run_getObj_map hb,run_checkKey (d:=.string) hu3 (k:=.string ⟨k.toArray⟩) trivial,run_findKey hu3 f1,run_setObj_map _ hb,Result.andThen]
    ·rw [← hk,kA f3]; simp [hN]
    ·intro i e kv h3 h4
     rw [← hk,kA f3] at h4
     rw [Array.getElem?_push] at h3
     split at h3
     ·rename_i hi2
      cases h3
      rw [hi2,List.getElem?_append_right O,hN] at h4
      simp at h4
      rw [← h4]
     ·have hil:i < es.size:=(Array.getElem?_eq_some_iff.1 h3).1
      rw [List.getElem?_append_left O] at h4
      exact hkeys i e kv h3 h4
    ·intro i e kv h3 h4
     rw [← hk,kA f3] at h4
     rw [Array.getElem?_push] at h3
     split at h3
     ·rename_i hi2
      cases h3
      rw [hi2,List.getElem?_append_right O,hN] at h4
      simp at h4
      rw [← h4]
      exact hrep
     ·have hil:i < es.size:=(Array.getElem?_eq_some_iff.1 h3).1
      rw [List.getElem?_append_left O] at h4
      exact hvals i e kv h3 h4
   ·have hjl:jj < es.size:=(Array.getElem?_eq_some_iff.1 f2).1
    refine ⟨es.modify jj λ e=>{ e with key:=.string ⟨k.toArray⟩,val:=vv },ck,?_,?_,?_,?_⟩
    ·have hkey:=run_keyThatStays (P:=C.P) (w:=w) (d:=.string) (k:=.string ⟨k.toArray⟩) trivial
     simp [execOp,ho,hvx,hkv,hvv,Instr.mapUpdate,run_underlying hu1,Go.MapKept.run_getObj_map hb,run_checkKey (d:=.string) hu3 (k:=.string ⟨k.toArray⟩) trivial,run_findKey hu3 f1,f2,f3,hkey,run_setObj_map _ hb,Result.andThen]
    ·rw [← hk,mn hD f4]; simp [hN]
    ·intro i e2 kv h3 h4
     rw [← hk,mn hD f4] at h4
     rw [Array.getElem?_modify] at h3
     rw [List.getElem?_set] at h4
     split at h3
     ·rename_i hji
      subst hji
      rw [f2] at h3
      cases h3
      rw [if_pos rfl,if_pos O] at h4
      cases h4
      rfl
     ·rename_i hji
      rw [if_neg hji] at h4
      exact hkeys i e2 kv h3 h4
    ·intro i e2 kv h3 h4
     rw [← hk,mn hD f4] at h4
     rw [Array.getElem?_modify] at h3
     rw [List.getElem?_set] at h4
     split at h3
     ·rename_i hji
      subst hji
      rw [f2] at h3
      cases h3
      rw [if_pos rfl,if_pos O] at h4
      cases h4
      exact hrep
     ·rename_i hji
      rw [if_neg hji] at h4
      exact hvals i e2 kv h3 h4
  unfold Oper.wp
  rw [hrun]
  simp only [Oper.upon,hd,Act.put]
  obtain ⟨w',hw'⟩:∃ w':World,w'={ w with heap:=w.heap.setIfInBounds b (.map es' ck') }:=⟨_,rfl⟩
  rw [← hw']
  have hat:w'.heap[b]? = some (.map es' ck'):=by rw [hw']; exact (heap_set hb).1
  have hother:∀ b2,b2≠b→w'.heap[b2]? = w.heap[b2]?:=λ b2 h=>by rw [hw']; exact (heap_set hb).2 b2 h
  have hsz:w'.heap.size=w.heap.size:=by rw [hw']; simp
  have hev:Ev w g.st w' g.st:=by
   intro b2 o2 h
   refine ⟨h,?_⟩
   by_cases e:b2=b
   ·subst e; simp [World.cell?,hat,hb]
   ·simp only [World.cell?,hother b2 e]
  have hneq:∀ id b2,Nat.beq id tok=false→g.ow id=some b2→b2≠b:=λ id b2 hq h e=>by
   subst e
   have:=hs.inj id tok b2 h how
   subst this
   simp at hq
  have hs':=hs.evolve (g':=g) (w':=w') (Nat.beq · tok) (Cm htl) hev (λ id b2 hq h=>⟨h,hother b2 (hneq id b2 hq h),λ o h=>h⟩) hs.inj (λ i b2 h=>by have:=hs.own i b2 h; rw [hsz]; exact this)
   (λ b2 o2 h=>by have:=hs.lt b2 o2 h; omega) (λ b2 h=>hother b2 (λ e=>(hs.own tok b how).2 (e ▸ h))) (by rw [hw']) (by rw [hw']) (by rw [hw']) O (λ b2 _ o2=>Iff.rfl) (λ i _=>rfl)
  refine ⟨g,⟨sl',ob'⟩,?_,hK⟩
  rw [BK h1,p9 h2]
  refine { hs' with sl:=λ q=>?_ }
  have hq:=hs'.sl q
  have hq0:=hs.sl q
  simp only [AS.get,ct,gI] at hq hq0 ⊢
  cases hl:look sl q with
  | none=>simp only [Option.map_none,Option.getD_none]; exact .undef _
  | some z =>
   rw [hl] at hq hq0
   simp only [Option.map_some,Option.getD_some] at hq hq0 ⊢
   unfold upA
   split
   ·rename_i tk l
    cases hbt:Nat.beq tk tok
    ·simp only [AV.dem,hbt,cond_false] at hq ⊢; exact hq
    ·simp only [cond_true]
     have:=Nat.eq_of_beq_eq_true hbt
     subst this
     generalize a.tmps.getD q Go.undef=vq at hq0
     cases hq0 with
     | mp how2 _ _ _ _ _ =>
      rw [how] at how2; cases how2
      exact .mp how hat hN' (by rw [← hk]; exact uD hD) hkeys' (λ i e kv h3 h4=>(hvals' i e kv h3 h4).mono hev)
   ·exact hq
end
end Go.Ab
end
section
namespace Go.Ab
open Go.MapKept
/- As 'dem',for identities of any size; what is known of maps of rows is given up. -/
mutual
def AV.dm2 (D:Nat→Bool):AV→AV
 | .undef=>.undef
 | .p x=>.p x
 | .agg cs=>.agg (xg D cs)
 | .vec tok sz ty es=>bif D tok then .p (.slice es) else .vec tok sz ty es
 | .arr id sz off n=>bif D id then .undef else .arr id sz off n
 | .ptr id off=>bif D id then .undef else .ptr id off
 | .bptr T sz id=>bif D id then .undef else .bptr T sz id
 | .rptr cs=>.rptr cs
 | .tuple cs=>.tuple (xg D cs)
 | .func f cs=>.func f (xg D cs)
 | .mp tok kvs=>bif D tok then .undef else .mp tok kvs
 | .mpr ..=>.undef
 | .stk tok sz es=>bif D tok then .undef else .stk tok sz es
 | .sem _=>.undef
 | .it ..=>.undef
 | .vecp ..=>.undef
 | .elp ..=>.undef
def xg (D:Nat→Bool):List AV→List AV
 | []=>[]
 | x::r=>x.dm2 D::xg D r
end
theorem mw (D:Nat→Bool):∀ l,xg D l=l.map (AV.dm2 D)
 | []=>rfl
 | x::r=>by simp [xg,mw D r]
theorem ARep.dm2 {D:Nat→Bool}{w w':World}{g g':Gh}(ev:Ev w g.st w' g'.st)(ow:∀ id b,D id=false→g.ow id=some b→g'.ow id=some b)
  (shape:∀ id b c e,D id=false→g.ow id=some b→w.heap[b]? = some (.cells c e (0,0))→∃ c':Array Value,w'.heap[b]? = some (.cells c' e (0,0))∧c'.size=c.size)
  (tip:∀ id b o,D id=false→g.ow id=some b→g'.st b o→g.st b o)
  (mp:∀ id b es k,D id=false→g.ow id=some b→w.heap[b]? = some (.map es k)→w'.heap[b]? = some (.map es k))
  (stab:∀ id b o,D id=false→g.ow id=some b→g.st b o→w'.heap[b]? = w.heap[b]?) {x:AV} {v:Value} (h:ARep w g x v):ARep w' g' (x.dm2 D) v:=by
 induction h with
 | undef v=>simp only [AV.dm2]; exact .undef _
 | p h=>simp only [AV.dm2]; exact .p (h.mono ev)
 | agg hl h ih =>
  simp only [AV.dm2,mw]
  refine .agg (by simpa using hl) λ i c v h1 h2=>?_
  simp only [List.getElem?_map,Option.map_eq_some_iff] at h1
  obtain ⟨c0,h1,rfl⟩:=h1
  exact ih i c0 v h1 h2
 | vecn tok sz ty =>
  simp only [AV.dm2]
  cases D tok
  ·exact .vecn _ _ _
  ·exact .p .nils
 | vece tok sz a =>
  simp only [AV.dm2]
  cases D tok
  ·exact .vece _ _ _
  ·exact .p (.nile a)
 | vec how hb hcs hsz hst hr hty =>
  simp only [AV.dm2]
  cases hD:D _
  ·obtain ⟨c',hb',hs'⟩:=shape _ _ _ _ hD how hb
   exact .vec (ow _ _ hD how) hb' (hs'.trans hcs) hsz (λ o=>⟨λ h=>(hst o).1 (tip _ _ o hD how h),λ h=>(ev _ _ ((hst o).2 h)).1⟩) (hr.mono ev) hty
  ·exact .p (hr.mono ev)
 | arr how hb hcs hn =>
  simp only [AV.dm2]
  cases hD:D _
  ·obtain ⟨c',hb',hs'⟩:=shape _ _ _ _ hD how hb
   exact .arr (ow _ _ hD how) hb' (hs'.trans hcs) hn
  ·exact .undef _
 | ptr how =>
  simp only [AV.dm2]
  cases hD:D _
  ·exact .ptr (ow _ _ hD how)
  ·exact .undef _
 | bptrn how hb hcs =>
  simp only [AV.dm2]
  cases hD:D _
  ·obtain ⟨c',hb',hs'⟩:=shape _ _ _ _ hD how hb
   exact .bptrn (ow _ _ hD how) hb' (hs'.trans hcs)
  ·exact .undef _
 | bptr how hb hcs =>
  simp only [AV.dm2]
  cases hD:D _
  ·obtain ⟨c',hb',hs'⟩:=shape _ _ _ _ hD how hb
   exact .bptr (ow _ _ hD how) hb' (hs'.trans hcs)
  ·exact .undef _
 | rptr cf hc hr =>
  simp only [AV.dm2]
  exact .rptr cf (λ j c h=>⟨(ev _ _ (hc j c h).1).1,(ev _ _ (hc j c h).1).2.trans (hc j c h).2⟩) (λ j c h=>(hr j c h).mono ev)
 | tuple hl h ih =>
  simp only [AV.dm2,mw]
  refine .tuple (by simpa using hl) λ i c v h1 h2=>?_
  simp only [List.getElem?_map,Option.map_eq_some_iff] at h1
  obtain ⟨c0,h1,rfl⟩:=h1
  exact ih i c0 v h1 h2
 | func hl h ih =>
  simp only [AV.dm2,mw]
  refine .func (by simpa using hl) λ i c v h1 h2=>?_
  simp only [List.getElem?_map,Option.map_eq_some_iff] at h1
  obtain ⟨c0,h1,rfl⟩:=h1
  exact ih i c0 v h1 h2
 | mp how hb hn hd hk hv =>
  simp only [AV.dm2]
  cases hD:D _
  ·exact .mp (ow _ _ hD how) (mp _ _ _ _ hD how hb) hn hd hk (λ i e kv h1 h2=>(hv i e kv h1 h2).mono ev)
  ·exact .undef _
 | mpr=>simp only [AV.dm2]; exact .undef _
 | stkn tok sz =>
  simp only [AV.dm2]
  cases D tok
  ·exact .stkn _ _
  ·exact .undef _
 | stke tok sz a =>
  simp only [AV.dm2]
  cases D tok
  ·exact .stke _ _ _
  ·exact .undef _
 | stk how hb hcs hlen hsz hone hst hr =>
  simp only [AV.dm2]
  cases hD:D _
  ·exact .stk (ow _ _ hD how) ((stab _ _ _ hD how ((hst _).2 rfl)).trans hb) hcs hlen hsz hone (λ o=>⟨λ h=>(hst o).1 (tip _ _ o hD how h),λ h=>(ev _ _ ((hst o).2 h)).1⟩) (λ i x j p h1 h2=>by obtain ⟨v,h3,h4⟩:=hr i x j p h1 h2; exact ⟨v,h3,h4.mono ev⟩)
  ·exact .undef _
 | sem=>simp only [AV.dm2]; exact .undef _
 | it=>simp only [AV.dm2]; exact .undef _
 | vecp=>simp only [AV.dm2]; exact .undef _
 | elp=>simp only [AV.dm2]; exact .undef _
def nT (e t:Nat)(i:Nat):Bool:=Nat.beq i e||Nat.beq i t||Nat.ble MZ i
def tkA (tok e:Nat)(y x:AV):AV:=match x with
 | .mpr t _ _ _ _=>bif Nat.beq t tok then y else .undef
 | x=>x.dm2 (nT e tok)
def tkS (tok e:Nat)(y:AV):List (Nat×AV)→Option (List (Nat×AV))
 | []=>some []
 | (i,x)::r=>(match frc (tkA tok e y x) with
  | some z=>(match tkS tok e y r with | some l=>some ((i,z)::l) | none=>none)
  | none=>none)
theorem yr {tok e:Nat}{y:AV}:∀ {l l':List (Nat×AV)},tkS tok e y l=some l'→l'=l.map λ p=>(p.1,tkA tok e y p.2)
 | [],l',h=>by cases h; rfl
 | (i,x)::r,l',h=>by
  unfold tkS at h
  split at h
  ·rename_i z hz
   split at h
   ·rename_i m hm; cases h; rw [uB hz,yr hm]; rfl
   ·cases h
  ·cases h
def tkC (e t:Nat):List AV→Option (List AV)
 | []=>some []
 | x::r=>(match frc (x.dm2 (nT e t)) with
  | some y=>(match tkC e t r with | some l=>some (y::l) | none=>none)
  | none=>none)
theorem CW {e t:Nat}:∀ {l l':List AV},tkC e t l=some l'→l'=xg (nT e t) l
 | [],l',h=>by cases h; rfl
 | x::r,l',h=>by
  unfold tkC at h
  split at h
  ·rename_i y hy
   split at h
   ·rename_i m hm; cases h; rw [uB hy,CW hm]; rfl
   ·cases h
  ·cases h
def tkO (e t:Nat):List (Nat×List AV)→Option (List (Nat×List AV))
 | []=>some []
 | (i,cs)::r=>(match nT e t i with
  | true=>tkO e t r
  | false=>(match tkC e t cs with
   | some ds=>(match tkO e t r with | some l=>some ((i,ds)::l) | none=>none)
   | none=>none))
theorem qG {e t:Nat}:∀ {l l':List (Nat×List AV)},tkO e t l=some l'→∀ id cs,look l' id=some cs→nT e t id=false∧∃ ds,look l id=some ds∧cs=xg (nT e t) ds
 | [],l',h,id,cs,hc=>by cases h; cases hc
 | (i,xs)::r,l',h,id,cs,hc=>by
  unfold tkO at h
  split at h
  ·rename_i hb
   obtain ⟨h1,ds,h2,h3⟩:=qG h id cs hc
   refine ⟨h1,ds,?_,h3⟩
   rw [bf,if_neg (λ e'=>by subst e'; rw [hb] at h1; cases h1)]
   exact h2
  ·rename_i hb
   split at h
   ·rename_i ds hds
    split at h
    ·rename_i m hm
     cases h
     rw [bf] at hc ⊢
     by_cases e1:i=id
     ·subst e1
      rw [if_pos rfl] at hc ⊢
      cases hc
      exact ⟨hb,xs,Z,CW hds⟩
     ·rw [if_neg e1] at hc ⊢
      exact qG hm id cs hc
    ·cases h
   ·cases h
theorem sB {α:Type}{es:Array MapEntry}{kvs:List (Bytes×α)}(hn:es.size=kvs.length)(hk:∀ (i:Nat) e kv,es[i]? = some e→kvs[i]? = some kv→e.key=.string ⟨kv.1.toArray⟩)(k:Bytes) :
  (∀ x∈es.toList,IsKey .string x.key) ∧
  ((Instr.findNow .string (.string ⟨k.toArray⟩) es.toList 0=some none∧(∀ x∈es.toList,x.key≠.string ⟨k.toArray⟩)∧∀ p∈kvs,p.1≠k) ∨
  ∃ j e v,Instr.findNow .string (.string ⟨k.toArray⟩) es.toList 0=some (some (j,e.val))∧es[j]? = some e∧e.key=.string ⟨k.toArray⟩∧kvs[j]? = some (k,v)):=by
 have hks:∀ x∈es.toList,IsKey .string x.key:=by
  intro x hx
  obtain ⟨i,hi⟩:=List.mem_iff_getElem?.1 hx
  rw [Array.getElem?_toList] at hi
  have hil:=(Array.getElem?_eq_some_iff.1 hi).1
  have:=hk i x kvs[i] hi (List.getElem?_eq_getElem O)
  rw [this]; trivial
 refine ⟨hks,?_⟩
 rcases findNow_spec (k:=.string ⟨k.toArray⟩) (d:=.string) trivial es.toList 0 hks with ⟨h1,h2⟩ | ⟨j,e,h1,h2,h3⟩
 ·refine .inl ⟨h1,h2,λ p hp e=>?_⟩
  obtain ⟨i,hi⟩:=List.mem_iff_getElem?.1 hp
  have hil:=(List.getElem?_eq_some_iff.1 hi).1
  have hes:es[i]? = some es[i]:=Array.getElem?_eq_getElem O
  have:=hk i es[i] p hes hi
  exact h2 es[i] (Array.getElem_mem_toList O) (by rw [this,e])
 ·rw [Array.getElem?_toList] at h2
  have hil:=(Array.getElem?_eq_some_iff.1 h2).1
  have hkv:kvs[j]? = some kvs[j]:=List.getElem?_eq_getElem O
  have:=hk j e kvs[j] h2 hkv
  have he:kvs[j].1=k:=zN (this.symm.trans h3)
  refine .inr ⟨j,e,kvs[j].2,by rw [h1]; simp,h2,h3,?_⟩
  rw [hkv,← he]
theorem A6 {d t i:Nat}(h:d < MZ):t+MZ*(i+1)≠d:=by rw [Nat.mul_add,Nat.mul_one]; omega
theorem x7 {w:World}{g:Gh}{tok sz ty:Nat}{tk:Option Bytes}{i:Nat}{kv:Bytes×List PV}{v:Value}(h:ARep w g (nr tok sz ty tk i kv) v):PRep w g.st (.slice kv.2) v:=by
 unfold nr at h
 split at h
 ·cases h with
  | p h=>exact h
 ·have:=AV.sub_vec _ _ _ _ _ _ _ h
  cases this with
  | p h=>exact h
section
variable {C:Cx} {o:Oper} {K:AS→Prop} {sl:List (Nat×AV)} {ob:List (Nat×List AV)} {d:Nat}
theorem uH {t:TypeId}(sz ty:Nat){x:Operand}{n:Int}{i:TI}{kt et:Nat}{sl':List (Nat×AV)}{ob':List (Nat×List AV)}(ho:o.op=.makeMap t (some x))(hd:o.dst=some d)(hn:Nat.blt d C.n=true)
  (hi:look C.tt t=some i) (hik:i.k=.map kt et) (hx:evo sl x=some (.p (.val (.int .i64 n)))) (h1:dmS (Nat.beq · d) sl=some sl') (h2:dmO (Nat.beq · d) ob=some ob') (hK:K ⟨(d,.mpr d sz ty none [])::sl',ob'⟩):aW C o K ⟨sl,ob⟩:=by
 obtain ⟨u,hu1,hu2⟩:=bc C.good hi
 obtain rfl:=nn (hu2.trans hik)
 refine sI hd hn (λ g a w hs=>?_) (λ w g b h1 h2=>.mpr h1 h2 Z G G G) h1 h2 hK
 have hv:=bJ hs hx
 simp [execOp,ho,hv,Instr.makeMap,run_underlying hu1,asInt,asIntOf,newObj,Sem.run,Result.andThen]
theorem C5 {t kt et:TypeId}{x y:Operand}{i j:TI}{tok sz ty:Nat}{kvs:List (Bytes×List PV)}{k:Bytes}{r:List PV}{sl':List (Nat×AV)}{ob':List (Nat×List AV)}(ho:o.op=.lookup t x y false)(hd:o.dst=some d)(hn:Nat.blt d C.n=true)
  (hi:look C.tt t=some i) (hik:i.k=.map kt et) (hj:look C.tt kt=some j) (hjk:j.k=.string) (hz:(C.P.info? et).map (·.zero)=some (some (.slice none 0 0)))
  (hx:evo sl x=some (.mpr tok sz ty none kvs)) (hy:evo sl y=some (.p (.val (.string ⟨k.toArray⟩)))) (hr:(db kvs k).getD []=r) (htok:Nat.blt tok M1=true) (hdt:Nat.beq d tok=false)
  (h1:tkS tok d (.mpr tok sz ty (some k) kvs) sl=some sl') (h2:tkO d tok ob=some ob') (hK:K ⟨(d,.vec d sz ty r)::sl',ob'⟩):aW C o K ⟨sl,ob⟩:=by
 obtain ⟨u,hu1,hu2⟩:=bc C.good hi
 obtain rfl:=nn (hu2.trans hik)
 obtain ⟨u2,hu3,hu4⟩:=bc C.good hj
 obtain rfl:=ez (hu4.trans hjk)
 have htl:tok < M1:=Nat.blt_eq ▸ htok
 have hdl:d < M1:=by have h1:=Nat.le_of_ble_eq_true C.nl; have h2:d < C.n:=Nat.blt_eq ▸ hn; omega
 have hM:M1≤MZ:=by decide
 have hne:d≠tok:=λ e=>by subst e; simp at hdt
 intro g a w hs
 have hm:=bq hs hx
 have hkv:=bJ hs hy
 generalize hvx:a.eval x=vx at hm
 cases hm with
 | mpr how hb hN hD hkeys hvals =>
  rename_i b ck es
  obtain ⟨hks,hc⟩:=sB hN hkeys k
  have hz2:(zeroValue et).run C.P w=.ok (.slice none 0 0) w:=by
   obtain ⟨inf,hinf,hzz⟩:=Option.map_eq_some_iff.1 hz
   simp [zeroValue,typeInfo,hinf,hzz]
  -- the place of the row,and its value
  obtain ⟨jj,v,hrun,hjj,hrow⟩:∃ (jj:Nat) (v:Value),(execOp a.eval o).run C.P w=.ok (.value v) w∧(∀ i kv,kvs[i]? = some kv→kv.1≠k→i≠jj)∧(ARep w g (.vec (tok+MZ*(jj+1)) sz ty r) v):=by
   rcases hc with ⟨f1,f2,f3⟩ | ⟨jj,e,v',f1,f2,f3,f4⟩
   ·refine ⟨kvs.length,.slice none 0 0,?_,λ i kv hi _ e=>?_,?_⟩
    ·simp [execOp,ho,hvx,hkv,Instr.lookup,run_underlying hu1,Go.MapKept.run_getObj_map hb,run_checkKey (d:=.string) hu3 (k:=.string ⟨k.toArray⟩) trivial,run_findKey hu3 f1,hz2,Result.andThen]
    ·have:=(List.getElem?_eq_some_iff.1 hi).1; omega
    ·rw [← hr,qd f3]; exact .vecn _ _ _
   ·refine ⟨jj,e.val,?_,λ i kv hi hne e=>?_,?_⟩
    ·simp [execOp,ho,hvx,hkv,Instr.lookup,run_underlying hu1,Go.MapKept.run_getObj_map hb,run_checkKey (d:=.string) hu3 (k:=.string ⟨k.toArray⟩) trivial,run_findKey hu3 f1,Result.andThen]
    ·subst e; rw [f4] at hi; cases hi; exact hne rfl
    ·rw [← hr,t1 hD f4]
     have:=hvals jj e _ f2 f4
     unfold nr at this
     rw [if_neg G] at this
     exact this
  unfold Oper.wp
  rw [hrun]
  obtain ⟨rid,hrid⟩:∃ rid,rid=tok+MZ*(jj+1):=⟨_,rfl⟩
  have hridZ:MZ≤rid:=by rw [hrid,Nat.mul_add,Nat.mul_one]; omega
  obtain ⟨g',hg'⟩:∃ g':Gh,g'=⟨g.st,λ i=>if i=d then g.ow rid else if i=rid then none else g.ow i⟩:=⟨_,rfl⟩
  have gst:g'.st=g.st:=by rw [hg']
  have god:g'.ow d=g.ow rid:=by rw [hg']; simp
  have goo:∀ i,i≠d→i≠rid→g'.ow i=g.ow i:=λ i h1 h2=>by rw [hg']; simp only [if_neg h1,if_neg h2]
  have gor:rid≠d→g'.ow rid=none:=λ h=>by rw [hg']; simp only [if_neg h,if_true]
  have hrd:rid≠d:=by omega
  have hbig:∀ id,nT d tok id=false→id≠d∧id≠tok∧id < MZ:=λ id h=>by
   unfold nT at h
   simp only [Bool.or_eq_false_iff] at h
   refine ⟨λ e=>by subst e; simp at h,λ e=>by subst e; simp at h,Nat.lt_of_not_le λ hle=>?_⟩
   rw [Nat.ble_eq_true_of_le hle] at h; exact absurd h.2 (by decide)
  have hdm:∀ {z:AV} {u:Value},ARep w g z u→ARep w g' (z.dm2 (nT d tok)) u:=λ h=>ARep.dm2 (by rw [gst]; exact Ev.refl _ _)
   (λ id b hq h=>by obtain ⟨q1,_,q2⟩:=hbig id hq; rw [goo id q1 O]; exact h) (λ id b c e _ _ h=>⟨c,h,rfl⟩) (λ id b o _ _ h=>by rwa [gst] at h) (λ id b es k _ _ h=>h) (λ _ _ _ _ _ _=>rfl) h
  have vecmove:∀ {q q':Nat} {es:List PV} {u:Value},g'.ow q'=g.ow q→ARep w g (.vec q sz ty es) u→ARep w g' (.vec q' sz ty es) u:=by
   intro q q' es u hq h
   cases h with
   | vecn=>exact .vecn _ _ _
   | vece=>exact .vece _ _ _
   | vec h1 h2 h3 h4 h5 h6 h7=>exact .vec (hq.trans h1) h2 h3 h4 (by rw [gst]; exact h5) (by rw [gst]; exact h6) h7
  have htk:∀ {z:AV} {u:Value},ARep w g z u→ARep w g' (tkA tok d (.mpr tok sz ty (some k) kvs) z) u∨∃ t s y q l,z=.mpr t s y q l:=by
   intro z u h
   unfold tkA
   split
   ·exact .inr ⟨_,_,_,_,_,Z⟩
   ·exact .inl (hdm h)
  have hs0:St C.n C.w0 C.F g' ⟨sl',ob'⟩ a w:=by
   refine ⟨hs.nd,hs.sz,λ q=>?_,λ id cs hcs=>?_,λ i j b h1 h2=>?_,λ i b h=>?_,by rw [gst]; exact hs.lt,hs.fl,hs.fr,hs.os,hs.out,hs.tape,hs.size,by rw [gst]; exact hs.stf,λ i h1 h2=>?_,hs.shf,by rw [gst]; exact hs.nst,by rw [gst]; exact hs.ev0⟩
   ·rw [yr h1]
    have hq:=hs.sl q
    simp only [AS.get,gI] at hq ⊢
    cases hl:look sl q with
    | none=>simp only [Option.map_none,Option.getD_none]; exact .undef _
    | some z =>
     rw [hl] at hq
     simp only [Option.map_some,Option.getD_some] at hq ⊢
     rcases htk hq with h | ⟨t,s,y,q',l,rfl⟩
     ·exact h
     ·simp only [tkA]
      cases hbt:Nat.beq t tok
      ·simp only [cond_false]; exact .undef _
      ·simp only [cond_true]
       have:=Nat.eq_of_beq_eq_true hbt
       subst this
       generalize a.tmps.getD q Go.undef=vq at hq
       cases hq with
       | mpr how2 hb2 hN2 hD2 hk2 hv2 =>
        rw [how] at how2; cases how2
        refine .mpr (b:=b) (k:=ck) (es:=es) (by rw [goo t (λ e=>hne e.symm) O]; exact how) hb hN hD hkeys λ i e kv h3 h4=>?_
        have hrep:=hvals i e kv h3 h4
        unfold nr
        by_cases hkk:some k=some kv.1
        ·rw [if_pos hkk]
         have:=x7 hrep
         exact .p (by rw [gst]; exact this)
        ·rw [if_neg hkk]
         unfold nr at hrep
         rw [if_neg G] at hrep
         have hij:i≠jj:=hjj i kv h4 (λ e=>hkk (by rw [e]))
         refine vecmove (goo _ (A6 O) ?_) hrep
         rw [hrid]
         intro e2
         have:MZ*(i+1)=MZ*(jj+1):=by omega
         have:=Nat.eq_of_mul_eq_mul_left (by decide:0 < MZ) this
         omega
   ·obtain ⟨hq,ds,hds,rfl⟩:=qG h2 id cs hcs
    obtain ⟨q1,_,q2⟩:=hbig id hq
    obtain ⟨b2,c2,e2,m1,m2,m3,m4,m5⟩:=hs.ob id ds hds
    refine ⟨b2,c2,e2,by rw [goo id q1 O]; exact m1,m2,by rw [mw,List.length_map]; exact m3,by rw [gst]; exact m4,λ i x hx=>?_⟩
    rw [mw,List.getElem?_map] at hx
    obtain ⟨z,hz,rfl⟩:=Option.map_eq_some_iff.1 hx
    obtain ⟨u,hu,hr⟩:=m5 i z hz
    exact ⟨u,hu,hdm hr⟩
   ·have key:∀ i,g'.ow i=some b→∃ i',g.ow i'=some b∧((i=d∧i'=rid)∨(i≠d∧i≠rid∧i'=i)):=by
     intro i hi
     by_cases e1:i=d
     ·subst e1; rw [god] at hi; exact ⟨rid,hi,.inl ⟨rfl,rfl⟩⟩
     ·by_cases e2:i=rid
      ·subst e2; rw [gor hrd] at hi; cases hi
      ·rw [goo i e1 e2] at hi; exact ⟨i,hi,.inr ⟨e1,e2,rfl⟩⟩
    obtain ⟨i',hi',q1⟩:=key i h1
    obtain ⟨j',hj',q2⟩:=key j h2
    have:=hs.inj i' j' b hi' hj'
    rcases q1 with ⟨q1,q3⟩ | ⟨q1,q3,q5⟩ <;> rcases q2 with ⟨q2,q4⟩ | ⟨q2,q4,q6⟩ <;> omega
   ·by_cases e1:i=d
    ·subst e1; rw [god] at h; exact hs.own rid b h
    ·by_cases e2:i=rid
     ·subst e2; rw [gor hrd] at h; cases h
     ·rw [goo i e1 e2] at h; exact hs.own i b h
   ·rw [goo i O O]; exact hs.owf i h1 h2
  refine ⟨g',⟨(d,.vec d sz ty r)::sl',ob'⟩,?_,hK⟩
  have hp:=hs0.put (d:=o.dst) (λ t ht=>by rw [hd] at ht; cases ht; exact Nat.blt_eq ▸ hn) (x:=.vec d sz ty r) (v:=v) (vecmove (by rw [god,hrid]) hrow)
  rw [hd] at hp ⊢
  exact hp
theorem Ec {t kt et:TypeId}{x y v:Operand}{i j:TI}{tok sz ty e:Nat}{kvs kvs':List (Bytes×List PV)}{k:Bytes}{r:List PV}{sl':List (Nat×AV)}{ob':List (Nat×List AV)}(ho:o.op=.mapUpdate t x y v)(hd:o.dst=none)
  (hi:look C.tt t=some i) (hik:i.k=.map kt et) (hj:look C.tt kt=some j) (hjk:j.k=.string)
  (hx:evo sl x=some (.mpr tok sz ty (some k) kvs)) (hy:evo sl y=some (.p (.val (.string ⟨k.toArray⟩)))) (hv:evo sl v=some (.vec e sz ty r)) (htok:Nat.blt tok M1=true) (hel:Nat.blt e M1=true) (het:Nat.beq e tok=false)
  (hk:lx kvs k r=kvs') (h1:tkS tok e (.mpr tok sz ty none kvs') sl=some sl') (h2:tkO e tok ob=some ob') (hK:K ⟨sl',ob'⟩):aW C o K ⟨sl,ob⟩:=by
 obtain ⟨u,hu1,hu2⟩:=bc C.good hi
 obtain rfl:=nn (hu2.trans hik)
 obtain ⟨u2,hu3,hu4⟩:=bc C.good hj
 obtain rfl:=ez (hu4.trans hjk)
 have htl:tok < M1:=Nat.blt_eq ▸ htok
 have hdl:e < M1:=Nat.blt_eq ▸ hel
 have hM:M1≤MZ:=by decide
 have hne:e≠tok:=λ h=>by subst h; simp at het
 intro g a w hs
 have hm:=bq hs hx
 have hkv:=bJ hs hy
 have hrep:=bq hs hv
 generalize hvx:a.eval x=vx at hm
 generalize hvv:a.eval v=vv at hrep
 cases hm with
 | mpr how hb hN hD hkeys hvals =>
  rename_i b ck es
  obtain ⟨hks,hc⟩:=sB hN hkeys k
  have hbl:b < w.heap.size:=(hs.own tok b how).1
  obtain ⟨jj,es',ck',hrun,hN',hkeys',hrows⟩:∃ (jj:Nat) (es':Array MapEntry) (ck':Nat),(execOp a.eval o).run C.P w=.ok .skip { w with heap:=w.heap.setIfInBounds b (.map es' ck') }∧es'.size=kvs'.length ∧
    (∀ (i:Nat) e kv,es'[i]? = some e→kvs'[i]? = some kv→e.key=.string ⟨kv.1.toArray⟩) ∧
    (∀ (i:Nat) e kv,es'[i]? = some e→kvs'[i]? = some kv→(i=jj∧kv.2=r∧e.val=vv)∨(i≠jj∧kv.1≠k∧es[i]? = some e∧kvs[i]? = some kv)):=by
   rcases hc with ⟨f1,f2,f3⟩ | ⟨jj,e0,v',f1,f2,f3,f4⟩
   ·refine ⟨kvs.length,es.push { key:=.string ⟨k.toArray⟩,val:=vv,born:=ck },ck+1,?_,?_,?_,?_⟩
    ·simp [execOp,ho,hvx,hkv,hvv,Instr.mapUpdate,run_underlying hu1,Go.MapKept.run_getObj_map hb,run_checkKey (d:=.string) hu3 (k:=.string ⟨k.toArray⟩) trivial,run_findKey hu3 f1,run_setObj_map _ hb,Result.andThen]
    ·rw [← hk,kA f3]; simp [hN]
    ·intro i e kv h3 h4
     rw [← hk,kA f3] at h4
     rw [Array.getElem?_push] at h3
     split at h3
     ·rename_i hi2
      cases h3
      rw [hi2,List.getElem?_append_right O,hN] at h4
      simp at h4
      rw [← h4]
     ·have hil:i < es.size:=(Array.getElem?_eq_some_iff.1 h3).1
      rw [List.getElem?_append_left O] at h4
      exact hkeys i e kv h3 h4
    ·intro i e kv h3 h4
     rw [← hk,kA f3] at h4
     rw [Array.getElem?_push] at h3
     split at h3
     ·rename_i hi2
      cases h3
      rw [hi2,List.getElem?_append_right O,hN] at h4
      simp at h4
      exact .inl ⟨by omega,by rw [← h4],Z⟩
     ·have hil:i < es.size:=(Array.getElem?_eq_some_iff.1 h3).1
      rw [List.getElem?_append_left O] at h4
      exact .inr ⟨by omega,f3 kv (List.mem_of_getElem? h4),h3,h4⟩
   ·have hjl:jj < es.size:=(Array.getElem?_eq_some_iff.1 f2).1
    refine ⟨jj,es.modify jj λ e=>{ e with key:=.string ⟨k.toArray⟩,val:=vv },ck,?_,?_,?_,?_⟩
    ·have hkey:=run_keyThatStays (P:=C.P) (w:=w) (d:=.string) (k:=.string ⟨k.toArray⟩) trivial
     simp [execOp,ho,hvx,hkv,hvv,Instr.mapUpdate,run_underlying hu1,Go.MapKept.run_getObj_map hb,run_checkKey (d:=.string) hu3 (k:=.string ⟨k.toArray⟩) trivial,run_findKey hu3 f1,f2,f3,hkey,run_setObj_map _ hb,Result.andThen]
    ·rw [← hk,mn hD f4]; simp [hN]
    ·intro i e2 kv h3 h4
     rw [← hk,mn hD f4] at h4
     rw [Array.getElem?_modify] at h3
     rw [List.getElem?_set] at h4
     split at h3
     ·rename_i hji
      subst hji
      rw [f2] at h3
      cases h3
      rw [if_pos rfl,if_pos O] at h4
      cases h4
      rfl
     ·rename_i hji
      rw [if_neg hji] at h4
      exact hkeys i e2 kv h3 h4
    ·intro i e2 kv h3 h4
     rw [← hk,mn hD f4] at h4
     rw [Array.getElem?_modify] at h3
     rw [List.getElem?_set] at h4
     split at h3
     ·rename_i hji
      subst hji
      rw [f2] at h3
      cases h3
      rw [if_pos rfl,if_pos O] at h4
      cases h4
      exact .inl ⟨Z,Z,Z⟩
     ·rename_i hji
      rw [if_neg hji] at h4
      refine .inr ⟨λ h=>hji h.symm,λ h=>?_,h3,h4⟩
      -- one key,one place
      have e1:(kvs.map Prod.fst)[i]? = some k:=by rw [List.getElem?_map,h4]; exact congrArg some h
      have e2:(kvs.map Prod.fst)[jj]? = some k:=by rw [List.getElem?_map,f4]; rfl
      have hil:i < (kvs.map Prod.fst).length:=(List.getElem?_eq_some_iff.1 e1).1
      exact hji ((List.getElem?_inj hil hD).1 (e1.trans e2.symm)).symm
  unfold Oper.wp
  rw [hrun]
  simp only [Oper.upon,hd,Act.put]
  obtain ⟨w',hw'⟩:∃ w':World,w'={ w with heap:=w.heap.setIfInBounds b (.map es' ck') }:=⟨_,rfl⟩
  rw [← hw']
  have hat:w'.heap[b]? = some (.map es' ck'):=by rw [hw']; exact (heap_set hb).1
  have hother:∀ b2,b2≠b→w'.heap[b2]? = w.heap[b2]?:=λ b2 h=>by rw [hw']; exact (heap_set hb).2 b2 h
  have hsz:w'.heap.size=w.heap.size:=by rw [hw']; simp
  obtain ⟨rid,hrid⟩:∃ rid,rid=tok+MZ*(jj+1):=⟨_,rfl⟩
  have hridZ:MZ≤rid:=by rw [hrid,Nat.mul_add,Nat.mul_one]; omega
  obtain ⟨g',hg'⟩:∃ g':Gh,g'=⟨g.st,λ i=>if i=rid then g.ow e else if i=e then none else g.ow i⟩:=⟨_,rfl⟩
  have gst:g'.st=g.st:=by rw [hg']
  have gor:g'.ow rid=g.ow e:=by rw [hg']; simp
  have goo:∀ i,i≠e→i≠rid→g'.ow i=g.ow i:=λ i h1 h2=>by rw [hg']; simp only [if_neg h1,if_neg h2]
  have hre:rid≠e:=by omega
  have goe:g'.ow e=none:=by rw [hg']; simp only [if_neg (λ h:e=rid=>hre h.symm),if_true]
  have hev:Ev w g.st w' g'.st:=by
   rw [gst]
   intro b2 o2 h
   refine ⟨h,?_⟩
   by_cases e1:b2=b
   ·subst e1; simp [World.cell?,hat,hb]
   ·simp only [World.cell?,hother b2 e1]
  have hcell:∀ {b2:Nat} {c:Array Value} {t:TypeId} {f:Nat×Nat},w.heap[b2]? = some (.cells c t f)→w'.heap[b2]? = some (.cells c t f):=λ {b2 c t f} h=>by
   rw [hother b2 (λ e1=>by subst e1; rw [hb] at h; cases h)]; exact h
  have hbig:∀ id,nT e tok id=false→id≠e∧id≠tok∧id < MZ:=λ id h=>by
   unfold nT at h
   simp only [Bool.or_eq_false_iff] at h
   refine ⟨λ e1=>by subst e1; simp at h,λ e1=>by subst e1; simp at h,Nat.lt_of_not_le λ hle=>?_⟩
   rw [Nat.ble_eq_true_of_le hle] at h; exact absurd h.2 (by decide)
  have hdm:∀ {z:AV} {u:Value},ARep w g z u→ARep w' g' (z.dm2 (nT e tok)) u:=λ h=>ARep.dm2 hev
   (λ id b hq h=>by obtain ⟨q1,_,q2⟩:=hbig id hq; rw [goo id q1 O]; exact h) (λ id b c e _ _ h=>⟨c,hcell h,rfl⟩) (λ id b o _ _ h=>by rwa [gst] at h)
   (λ id b2 es2 k2 hq h0 h=>by
    obtain ⟨_,q3,_⟩:=hbig id hq
    rw [hother b2 (λ e1=>by subst e1; exact q3 (hs.inj id tok b2 h0 how))]; exact h)
   (λ id b2 o hq h0 _=>by obtain ⟨_,q3,_⟩:=hbig id hq; exact hother b2 (λ e1=>by subst e1; exact q3 (hs.inj id tok b2 h0 how))) h
  have vecmove:∀ {q q':Nat} {es:List PV} {u:Value},g'.ow q'=g.ow q→ARep w g (.vec q sz ty es) u→ARep w' g' (.vec q' sz ty es) u:=by
   intro q q' es u hq h
   cases h with
   | vecn=>exact .vecn _ _ _
   | vece=>exact .vece _ _ _
   | vec h1 h2 h3 h4 h5 h6 h7=>exact .vec (hq.trans h1) (hcell h2) h3 h4 (by rw [gst]; exact h5) (h6.mono hev) h7
  have hnew:ARep w' g' (.mpr tok sz ty none kvs') (.map (some b)):=by
   refine .mpr (b:=b) (k:=ck') (es:=es') (by rw [goo tok (λ h=>hne h.symm) O]; exact how) hat hN' (by rw [← hk]; exact uD hD) hkeys' λ i e2 kv h3 h4=>?_
   unfold nr
   rw [if_neg G]
   rcases hrows i e2 kv h3 h4 with ⟨rfl,h5,h6⟩ | ⟨h5,h6,h7,h8⟩
   ·rw [h5,h6,← hrid]
    exact vecmove gor hrep
   ·have hr:=hvals i e2 kv h7 h8
    unfold nr at hr
    rw [if_neg (λ q=>h6 (Option.some.inj q).symm)] at hr
    refine vecmove (goo _ (A6 O) ?_) hr
    rw [hrid]
    intro e2
    have:MZ*(i+1)=MZ*(jj+1):=by omega
    have:=Nat.eq_of_mul_eq_mul_left (by decide:0 < MZ) this
    omega
  refine ⟨g',⟨sl',ob'⟩,?_,hK⟩
  refine ⟨hs.nd,hs.sz,λ q=>?_,λ id cs hcs=>?_,λ i j b h1 h2=>?_,λ i b2 h=>?_,λ b2 o2 h=>by rw [gst] at h; rw [hsz]; exact hs.lt b2 o2 h,hs.fl,λ b2 h=>?_,by rw [hw']; exact hs.os,by rw [hw']; exact hs.out,by rw [hw']; exact hs.tape,by rw [hsz]; exact hs.size,by rw [gst]; exact hs.stf,λ i h1 h2=>?_,hs.shf.next (λ i b2 c t _ _ h=>⟨c,hcell h,Z⟩),by rw [gst]; exact hs.nst,hs.ev0.trans hev⟩
  ·rw [yr h1]
   have hq:=hs.sl q
   simp only [AS.get,gI] at hq ⊢
   cases hl:look sl q with
   | none=>simp only [Option.map_none,Option.getD_none]; exact .undef _
   | some z =>
    rw [hl] at hq
    simp only [Option.map_some,Option.getD_some] at hq ⊢
    unfold tkA
    split
    ·rename_i t s y q' l
     cases hbt:Nat.beq t tok
     ·simp only [cond_false]; exact .undef _
     ·simp only [cond_true]
      have:=Nat.eq_of_beq_eq_true hbt
      subst this
      generalize a.tmps.getD q Go.undef=vq at hq
      cases hq with
      | mpr how2 hb2 hN2 hD2 hk2 hv2=>rw [how] at how2; cases how2; exact hnew
    ·exact hdm hq
  ·obtain ⟨hq,ds,hds,rfl⟩:=qG h2 id cs hcs
   obtain ⟨q1,_,q2⟩:=hbig id hq
   obtain ⟨b2,c2,e2,m1,m2,m3,m4,m5⟩:=hs.ob id ds hds
   refine ⟨b2,c2,e2,by rw [goo id q1 O]; exact m1,hcell m2,by rw [mw,List.length_map]; exact m3,by rw [gst]; exact m4,λ i x hx=>?_⟩
   rw [mw,List.getElem?_map] at hx
   obtain ⟨z,hz,rfl⟩:=Option.map_eq_some_iff.1 hx
   obtain ⟨u,hu,hr⟩:=m5 i z hz
   exact ⟨u,hu,hdm hr⟩
  ·have key:∀ i,g'.ow i=some b→∃ i',g.ow i'=some b∧((i=rid∧i'=e)∨(i≠e∧i≠rid∧i'=i)):=by
    intro i hi
    by_cases e1:i=rid
    ·subst e1; rw [gor] at hi; exact ⟨e,hi,.inl ⟨rfl,rfl⟩⟩
    ·by_cases e2:i=e
     ·subst e2; rw [goe] at hi; cases hi
     ·rw [goo i e2 e1] at hi; exact ⟨i,hi,.inr ⟨e2,e1,rfl⟩⟩
   obtain ⟨i',hi',q1⟩:=key i h1
   obtain ⟨j',hj',q2⟩:=key j h2
   have:=hs.inj i' j' b hi' hj'
   rcases q1 with ⟨q1,q3⟩ | ⟨q1,q3,q5⟩ <;> rcases q2 with ⟨q2,q4⟩ | ⟨q2,q4,q6⟩ <;> omega
  ·rw [hsz]
   by_cases e1:i=rid
   ·subst e1; rw [gor] at h; exact hs.own e b2 h
   ·by_cases e2:i=e
    ·subst e2; rw [goe] at h; cases h
    ·rw [goo i e2 e1] at h; exact hs.own i b2 h
  ·have hne2:b2≠b:=λ e1=>(hs.own tok b how).2 (e1 ▸ h)
   rw [hother b2 hne2]; exact hs.fr b2 h
  ·rw [goo i O O]; exact hs.owf i h1 h2
end
end Go.Ab
end
