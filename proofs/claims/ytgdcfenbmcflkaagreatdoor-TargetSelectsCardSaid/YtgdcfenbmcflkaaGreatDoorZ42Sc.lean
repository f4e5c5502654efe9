/- Texts of the proof, one behind the other. No statement is proved here. -/
import Derived.Laws.IdiomStrings
import Derived.Test.YtgdcfenbmcflkaaGreatDoorChecked
import Derived.WalkKit
import Derived.Lib.Builder
import Derived.Lib.UnsafeStr
import Derived.Laws.Externs
import Derived.Shelf.RegionOpenPlain
import Derived.Below
import Derived.Lib.LaidTab
import Derived.Shelf.Lays
import Derived.Shelf.Small.Utf8
import Derived.Shelf.Small.Strs
import Derived.Shelf.Small.Wraps
import Derived.Shelf.Strings.Prefix
import Derived.Shelf.LaysM
import Derived.Shelf.Strconv.Itoa3
import Derived.Shelf.LaysC
import Derived.Shelf.Strconv.ParseIntPublic10
import Derived.Shelf.Unicode.DecodeAny
import Derived.Shelf.Strings.IndexAnyAll
import Derived.Shelf.Strings.Runes
import Derived.Shelf.Unicode.ValidAny
import Derived.Shelf.Strings.IndexAny
import Derived.Test.YtgdcfenbmcflkaaGreatDoorProg
import Derived.Lib.AppendIntMem
import Derived.Deep.LoopGhost
import Derived.Laws.Runes
import Derived.Scope
import Derived.Deep.QuietTactic
import Derived.BigQuiet
import Derived.Laws.RangeString
import Derived.Lib.IndexAny
import Derived.Lib.TrimU
import Derived.MapKept
import Derived.Test.YtgdcfenbmcflkaaGreatDoorZ42Sa
import Derived.Test.YtgdcfenbmcflkaaGreatDoorZ42Sb
set_option maxHeartbeats 4000000
section
namespace Go.Ab
class UW (p:Prop) (q:outParam Prop):Prop where
 go:q→p
class UO (p:Prop) (b:outParam Bool) (q:outParam Prop):Prop where
 go:b=false→q→p
section
variable {K P:AS→Prop} {Q:Exit→AS→Prop} {s:AS} {id id':Nat}
instance:UW (nP K Q .ret s) (Q .ret s):=⟨aI⟩
instance:UW (nP K Q (.exit id) s) (Q (.exit id) s):=⟨aC⟩
instance:UW (jA id Q .ret s) (Q .ret s):=⟨aD⟩
instance:UW (jA id Q .normal s) (Q .normal s):=⟨aj⟩
instance:UW (jA id Q (.exit id) s) (Q .normal s):=⟨ax⟩
instance:UO (jA id Q (.exit id') s) (Nat.beq id' id) (Q (.exit id') s):=⟨am⟩
instance:UW (noGoto Q .ret s) (Q .ret s):=⟨noGoto_ret⟩
instance:UW (noGoto Q (.exit id) s) (Q (.exit id) s):=⟨noGoto_exit⟩
instance:UW (noGoto Q .normal s) (Q .normal s):=⟨noGoto_normal⟩
instance:UW (exQ id P Q (.exit id) s) (P s):=⟨bR⟩
instance:UO (exQ id P Q (.exit id') s) (Nat.beq id' id) (Q (.exit id') s):=⟨aZ⟩
instance:UW (exQ id P Q .ret s) (Q .ret s):=⟨bQ⟩
instance:UW (exQ id P Q .normal s) (Q .normal s):=⟨aO⟩
end
theorem oi {α:Type}{a b:α}(h:some a=some b):a=b:=Option.some.inj h
theorem dt {p:Prop} [Decidable p] (h:p):decide p=true:=decide_eq_true h
theorem df {p:Prop} [Decidable p] (h:¬p):decide p=false:=decide_eq_false h
theorem sr {x:AV}:x.sub x:=AV.sub_refl x
theorem er {s:List (Nat×AV)}{j:Nat}{x:AV}(h:look s j=some x):∃ y,look s j=some y∧y.sub x:=⟨x,h,sr⟩
end Go.Ab
namespace Go.Ab
def Le {α:Type}(o o':Option α):Prop:=∀ r,o=some r→o'=some r
section
variable {α β:Type}
theorem af (o:Option α):Le o o:=λ _ h=>h
theorem dk (o:Option α):Le none o:=λ _ h=>by cases h
theorem co {p:Prop} [Decidable p] {o o':Option α}(h:Le o o'):Le (ck p o) (ck p o'):=λ r hr=>by
 unfold ck at hr ⊢
 split at hr
 ·rename_i hp; rw [if_pos hp]; exact h r hr
 ·cases hr
theorem bz {p:Prop} [Decidable p] {a b a' b':Option α}(h:Le a a')(k:Le b b'):Le (if p then a else b) (if p then a' else b'):=by
 by_cases hp:p
 ·simpa only [if_pos hp] using h
 ·simpa only [if_neg hp] using k
theorem ba {g g':Option β}{k k':β→Option α}(h:Le g g')(hk:∀ x,Le (k x) (k' x)):Le (g.bind k) (g'.bind k'):=λ r hr=>by
 cases g with
 | none=>cases hr
 | some x=>rw [h x rfl]; exact hk x r hr
theorem cn {g g':Option (β⊕α)}{k k':β→Option α}(h:Le g g')(hk:∀ x,Le (k x) (k' x)):Le (jn g k) (jn g' k'):=λ r hr=>by
 cases g with
 | none=>cases hr
 | some x=>rw [h x rfl]; cases x with
  | inl x=>exact hk x r hr
  | inr y=>exact hr
theorem Cl {f:Nat→Option α}(N:Nat){r:α}(h:f N=some r)(hm:∀ n,N≤n→Le (f N) (f n)){P:α→Prop}(hp:P r):Ev2 (λ n _=>f n) P:=⟨r,hp,N,λ n _ hn _=>hm n hn r h⟩
end
end Go.Ab
namespace Go.Ab
open Go.RowKit
theorem kQ {C:Cx}{o:Oper}{K:AS→Prop}{sl:List (Nat×AV)}{ob:List (Nat×List AV)}{d:Nat}(l:List UInt8){st dt e:TypeId}{x:Operand}{y:AV}{i ie j:TI}(ho:o.op=.convert st dt x)(hd:o.dst=some d)(hn:Nat.blt d C.n=true)
  (hi:look C.tt st=some i) (hik:i.k=.slice e) (hie:look C.tt e=some ie) (hiek:ie.k=.int .u8) (hj:look C.tt dt=some j) (hjk:j.k=.string) (hx:evo sl x=some y) (hy:y.elems? = some (l.map eU))
  (hK:K ⟨(d,.p (eS l))::sl,ob⟩):aP C o K ⟨sl,ob⟩:=by
 obtain ⟨u,h1,h2⟩:=aU C.good hi
 have h3:=bb (h2.trans hik)
 obtain ⟨u1,g1,g2⟩:=aU C.good hie
 have g3:=ku (g2.trans hiek)
 obtain ⟨u2,k1,k2⟩:=aU C.good hj
 have k3:=dZ (k2.trans hjk)
 subst h3 g3 k3
 refine ok_one hd hn (λ g a w hs=>⟨.string (str l),?_,.p (.val _)⟩) hK
 have hv:=eN hy (bf hs hx)
 generalize hq:a.eval x=v at hv
 generalize hes:l.map eU=es at hv
 have hnil:es=[]→l=[]:=λ q=>by subst q; exact List.map_eq_nil_iff.1 hes
 cases hv with
 | nils =>
  rw [hnil rfl]
  simp only [execOp,ho,hq]
  rw [Sem.run_bind,run_convert_bytes_string w st dt e none 0 0 h1 g1 k1]
  rfl
 | nile a' =>
  rw [hnil rfl]
  simp only [execOp,ho,hq]
  rw [Sem.run_bind]
  have:=run_convert_bytes_back (P:=C.P) w st dt e a' 0 [] h1 g1 k1 (λ j hj=>absurd hj (Nat.not_lt_zero j))
  rw [show ([]:List UInt8).length=0 from rfl] at this
  rw [this]
  rfl
 | slice sz cf hcap hsz hone hc hr =>
  rename_i b off cap
  subst hes
  simp only [execOp,ho,hq]
  rw [List.length_map,Sem.run_bind]
  have:=run_convert_bytes_back (P:=C.P) w st dt e ⟨b,off,none⟩ cap l h1 g1 k1 (λ j hj=>by
   have hj2:(l.map eU)[j]? = some (eU l[j]):=by simp [hj]
   have hz:sz=1:=(hsz (eU l[j]) (List.mem_of_getElem? hj2)).symm
   have c1:=hc j (eU l[j]) 0 (eU l[j]) hj2 rfl
   have c2:=hr j (eU l[j]) 0 (eU l[j]) hj2 rfl
   rw [hz,Nat.mul_one,Nat.add_zero] at c1
   rw [add_lit,c1.2]
   generalize cf j 0=v at c2
   cases c2
   rfl)
  rw [this]
  rfl
end Go.Ab
namespace Go.Ab
/- The steps that occur most,their closed facts by themselves. -/
section
variable {C:Cx} {ops:Array Oper} {K:AS→Prop} {sl:List (Nat×AV)} {ob:List (Nat×List AV)} {r:List Oper} {o:Oper} {d:Nat}
end
end Go.Ab
namespace Go.Ab
section
variable {C:Cx} {ops:Array Oper} {K:AS→Prop} {sl base:List (Nat×AV)} {ob:List (Nat×List AV)} {r:List Oper} {o:Oper} {d k:Nat} {rev:Rev}
def mvX:Op→Option Operand
 | .move x=>some x
 | .assign x=>some x
 | _=>none
def mvF (n:Nat)(o:Oper)(sl:List (Nat×AV)):Option (Nat×AV) :=
 match mvX o.op with
 | some x=>(match o.dst with
  | some d=>bif Nat.blt d n then (match evo sl x with | some y=>some (d,y) | none=>none) else none
  | none=>none)
 | none=>none
def gdF (ops:Array Oper)(o:Oper)(sl:List (Nat×AV)):Option (Bool×AV) :=
 match o.guard with
 | some (j,w)=>(match (ops.toList[j]?).bind (·.dst) with
  | some t=>(match look sl t with | some x=>some (w,x) | none=>none)
  | none=>none)
 | none=>none
theorem rh {w:Bool}{x:AV}(h:gdF ops o sl=some (w,x)):∃ j t,o.guard=some (j,w)∧(ops.toList[j]?).bind (·.dst)=some t∧look sl t=some x:=by
 unfold gdF at h
 cases hg:o.guard with
 | none=>rw [hg] at h; cases h
 | some p =>
  obtain ⟨j,w'⟩:=p
  rw [hg] at h
  simp only at h
  cases ht:(ops.toList[j]?).bind (·.dst) with
  | none=>rw [ht] at h; cases h
  | some t =>
   rw [ht] at h
   simp only at h
   cases hl:look sl t with
   | none=>rw [hl] at h; cases h
   | some z=>rw [hl] at h; cases h; exact ⟨j,t,rfl,ht,hl⟩
theorem gy {w b:Bool}(hb:b=w)(h:gdF ops o sl=some (w,.p (.val (.bool b))))(h1:aP C o (d8 C ops r K) ⟨sl,ob⟩):d8 C ops (o::r) K ⟨sl,ob⟩:=by
 obtain ⟨j,t,hg,hj,hv⟩:=rh h
 exact ln hg hj hv hb h1
def dsF (n:Nat)(o:Oper):Option Nat:=match o.dst with
 | some d=>bif Nat.blt d n then some d else none
 | none=>none
theorem jq {n:Nat}(h:dsF n o=some d):o.dst=some d∧Nat.blt d n=true:=by
 unfold dsF at h
 cases hd:o.dst with
 | none=>rw [hd] at h; cases h
 | some e =>
  rw [hd] at h
  cases hn:Nat.blt e n with
  | false=>simp only [hn,cond_false] at h; cases h
  | true=>simp only [hn,cond_true] at h; cases h; exact ⟨rfl,hn⟩
def knK:Rev→Nat→Option Nat
 | [],_=>none
 | (k,i,_)::r,j=>bif Nat.beq i j then some k else knK r j
def knX (base:List (Nat×AV))(o:Oper)(rev:Rev)(i:Nat):Option AV :=
 match look base i with
 | some x=>some x
 | none=>(match knK rev i with
  | some k=>bif (o.after.toList.any λ e=>Nat.beq e.on k&&Region.binds .any e) then (match rx rev k with
    | some (j,x)=>bif Nat.beq j i then some x else none
    | none=>none) else none
  | none=>none)
def z7 (base:List (Nat×AV))(o:Oper)(rev:Rev):List Nat→Option (List (Nat×AV))
 | []=>some []
 | i::r=>match knX base o rev i with
  | some x=>(match z7 base o rev r with | some l=>some ((i,x)::l) | none=>none)
  | none=>none
theorem Aa {i:Nat}{x:AV}(h:knX base o rev i=some x):look base i=some x∨∃ k,(o.after.toList.any λ e=>Nat.beq e.on k&&Region.binds .any e)=true∧rx rev k=some (i,x):=by
 unfold knX at h
 cases hb:look base i with
 | some y=>rw [hb] at h; exact .inl h
 | none =>
  rw [hb] at h
  simp only at h
  cases hk:knK rev i with
  | none=>rw [hk] at h; cases h
  | some k =>
   rw [hk] at h
   simp only at h
   cases ha:(o.after.toList.any λ e=>Nat.beq e.on k&&Region.binds .any e) with
   | false=>rw [ha] at h; cases h
   | true =>
    rw [ha] at h
    simp only [cond_true] at h
    cases hl:rx rev k with
    | none=>rw [hl] at h; cases h
    | some p =>
     obtain ⟨j,y⟩:=p
     rw [hl] at h
     simp only at h
     cases hj:Nat.beq j i with
     | false=>rw [hj] at h; cases h
     | true=>rw [hj] at h; cases h; exact .inr ⟨k,ha,by rw [hl,Nat.eq_of_beq_eq_true hj]⟩
theorem yC:∀ {l:List Nat} {kn:List (Nat×AV)},z7 base o rev l=some kn→yX base o rev kn
 | [],kn,h=>by cases h; trivial
 | i::l,kn,h=>by
  unfold z7 at h
  cases hx:knX base o rev i with
  | none=>rw [hx] at h; cases h
  | some x =>
   rw [hx] at h
   simp only at h
   cases hr:z7 base o rev l with
   | none=>rw [hr] at h; cases h
   | some m=>rw [hr] at h; cases h; exact ⟨Aa hx,yC hr⟩
def nwF (base:List (Nat×AV))(rev:Rev)(o:Oper):Option Nat:=match o.dst with
 | some d=>bif (rev.all λ p=>!(Nat.beq p.2.1 d)) then (match look base d with | none=>some d | some _=>none) else none
 | none=>none
theorem pB (h:nwF base rev o=some d):o.dst=some d∧(rev.all λ p=>!(Nat.beq p.2.1 d))=true∧look base d=none:=by
 unfold nwF at h
 cases hd:o.dst with
 | none=>rw [hd] at h; cases h
 | some e =>
  rw [hd] at h
  simp only at h
  cases ha:(rev.all λ p=>!(Nat.beq p.2.1 e)) with
  | false=>rw [ha] at h; cases h
  | true =>
   rw [ha] at h
   simp only [cond_true] at h
   cases hl:look base e with
   | some _=>rw [hl] at h; cases h
   | none=>rw [hl] at h; cases h; exact ⟨rfl,ha,hl⟩
theorem dq {rest:List Oper}{kn:List (Nat×AV)}(x:AV)(l:List Nat)(hk:z7 base o rev l=some kn)(hs:rt C ops ob o kn d x)(hn:nwF base rev o=some d)(h:DQ C ops base ob K rest (k+1) ((k,d,x)::rev)):DQ C ops base ob K (o::rest) k rev :=
 yi x kn (yC hk) hs (pB hn).1 (pB hn).2.1 (pB hn).2.2 h
theorem ip {kn:List (Nat×AV)}(hs:∀ i x,look kn i=some x→look sl i=some x){x:Operand}{y:AV}(h:evo kn x=some y):evo sl x=some y:=by
 cases x with
 | tmp t=>exact hs _ _ h
 | const v=>exact h
 | func f=>exact h
 | global g=>exact h
end
end Go.Ab
namespace Go.Ab
inductive Fr where
 | sq (y:Code)
 | bk (id:Nat)
 | ng
 | jo (P:AS→Prop)
 | je (id:Nat) (P:AS→Prop)
inductive Ct where
 | cd (c:Code)
 | op (ops:Array Oper) (r:List Oper)
 | ex (e:Exit)
structure Cf where
 c:Ct
 k:List Fr
 s:AS
def dn (C:Cx)(Q:Exit→AS→Prop):List Fr→Exit→AS→Prop
 | []=>λ e s=>∃ t,dD C s t∧Q e t
 | .sq y::k=>nP (awp C y (dn C Q k)) (dn C Q k)
 | .bk id::k=>jA id (dn C Q k)
 | .ng::k=>noGoto (dn C Q k)
 | .jo P::k=>nP (λ s=>∃ t,dD C s t∧P t) (dn C Q k)
 | .je id P::k=>exQ id (λ s=>∃ t,dD C s t∧P t) (dn C Q k)
def M (C:Cx)(Q:Exit→AS→Prop):Cf→Prop
 | ⟨.cd c,k,s⟩=>awp C c (dn C Q k) s
 | ⟨.op ops r,k,s⟩=>d8 C ops r (dn C Q k .normal) s
 | ⟨.ex e,k,s⟩=>dn C Q k e s
def pop:List Fr→Exit→AS→Option Cf
 | [],e,s=>some ⟨.ex e,[],s⟩
 | .sq y::k,.normal,s=>some ⟨.cd y,k,s⟩
 | .sq _::k,.exit i,s=>pop k (.exit i) s
 | .sq _::k,.ret,s=>pop k .ret s
 | .bk _::k,.normal,s=>pop k .normal s
 | .bk id::k,.exit i,s=>(match Nat.beq i id with | true=>pop k .normal s | false=>pop k (.exit i) s)
 | .bk _::k,.ret,s=>pop k .ret s
 | .ng::k,.normal,s=>pop k .normal s
 | .ng::k,.exit i,s=>pop k (.exit i) s
 | .ng::k,.ret,s=>pop k .ret s
 | .jo P::k,.normal,s=>some ⟨.ex .normal,.jo P::k,s⟩
 | .jo _::k,.exit i,s=>pop k (.exit i) s
 | .jo _::k,.ret,s=>pop k .ret s
 | .je _ _::k,.normal,s=>pop k .normal s
 | .je id P::k,.exit i,s=>(match Nat.beq i id with | true=>some ⟨.ex (.exit i),.je id P::k,s⟩ | false=>pop k (.exit i) s)
 | .je _ _::k,.ret,s=>pop k .ret s
 | _,_,_=>none
section
variable {C:Cx} {Q:Exit→AS→Prop} {ops:Array Oper} {K:AS→Prop} {sl:List (Nat×AV)} {ob:List (Nat×List AV)} {r:List Oper} {o:Oper} {d:Nat} {s s':AS} {k:List Fr}
theorem gd:∀ {k:List Fr} {e:Exit} {c:Cf},pop k e s=some c→M C Q c→dn C Q k e s
 | [],e,c,h,hM=>by simp only [pop,Option.some.injEq] at h; subst h; exact hM
 | .sq y::k,e,c,h,hM=>by
  cases e <;> simp only [pop,Option.some.injEq,reduceCtorEq] at h
  ·subst h; exact hM
  ·exact gd (k:=k) h hM
  ·exact gd (k:=k) h hM
 | .bk id::k,e,c,h,hM=>by
  cases e <;> simp only [pop,reduceCtorEq] at h
  ·exact gd (k:=k) h hM
  ·rename_i i
   split at h
   ·rename_i hb
    rw [Nat.eq_of_beq_eq_true hb]
    exact ax (gd (k:=k) h hM)
   ·rename_i hb; exact am hb (gd (k:=k) h hM)
  ·exact gd (k:=k) h hM
 | .ng::k,e,c,h,hM=>by
  cases e <;> simp only [pop,reduceCtorEq] at h
  ·exact gd (k:=k) h hM
  ·exact gd (k:=k) h hM
  ·exact gd (k:=k) h hM
 | .jo P::k,e,c,h,hM=>by
  cases e <;> simp only [pop,Option.some.injEq,reduceCtorEq] at h
  ·subst h; exact hM
  ·exact gd (k:=k) h hM
  ·exact gd (k:=k) h hM
 | .je id P::k,e,c,h,hM=>by
  cases e <;> simp only [pop,reduceCtorEq] at h
  ·exact aO (gd (k:=k) h hM)
  ·rename_i i
   split at h
   ·rename_i hb
    cases h; exact hM
   ·rename_i hb; exact aZ hb (gd (k:=k) h hM)
  ·exact bQ (gd (k:=k) h hM)
def wT (C:Cx)(o:Oper):AS→AV→Option AS
 | ⟨sl,ob⟩,y=>match o.dst with
  | some d=>(match Nat.blt d C.n with | true=>some ⟨(d,y)::sl,ob⟩ | false=>none)
  | none=>none
theorem mZ {y:AV}(h:wT C o ⟨sl,ob⟩ y=some s'):∃ d,o.dst=some d∧Nat.blt d C.n=true∧s'=⟨(d,y)::sl,ob⟩:=by
 simp only [wT] at h
 split at h
 ·rename_i d hd
  split at h
  ·rename_i hn; cases h; exact ⟨d,hd,hn,rfl⟩
  ·cases h
 ·cases h
def ikE (a b:IntKind):Bool:=Nat.beq a.ctorIdx b.ctorIdx
theorem A8 {a b:IntKind}(h:ikE a b=true):a=b:=by cases a <;> cases b <;> first | rfl | cases h
def pkP (sl:List (Nat×AV))(x y:Operand):Option AV→Option AV
 | some (.p (.val (.bool true)))=>evo sl x
 | some (.p (.val (.bool false)))=>evo sl y
 | _=>none
def bnP (C:Cx)(op:BinOp)(t:TypeId):Option AV→Option AV→Option AV
 | some (.p (.val (.int k a))),some (.p (.val (.int k' b)))=>(match ikE k' k with
  | true=>(match Cv op a b with
   | some c=>some (.p (.val (.bool c)))
   | none=>(match Cb k op a b with
    | some c=>some (.p (.val (.int k c)))
    | none=>(match ikE k .i64 with
     | true=>none
     | false=>(match arI op a b with
      | some c=>some (.p (.val (.int k (k.wrap c))))
      | none=>none))))
  | false=>none)
 | some (.p (.val (.bool a))),some (.p (.val (.bool b)))=>(match look C.tt t with
  | some i=>(match i.k with
   | .bool=>(match Dq op a b with | some c=>some (.p (.val (.bool c))) | none=>none)
   | _=>none)
  | none=>none)
 | _,_=>none
def faP (C:Cx)(t f:Nat)(X:Option AV):Option AV:=match look C.tt t with
 | some i=>(match i.k with
  | .struct fs=>(match fs[f]? with
   | some (off,ft)=>(match look C.tt ft with
    | some j=>(match Nat.beq j.size 0 with
     | false=>(match X with
      | some (.ptr id k)=>some (.ptr id (k+off))
      | some (.rptr cs)=>some (.rptr (cs.drop off))
      | _=>none)
     | true=>none)
    | none=>none)
   | none=>none)
  | _=>none)
 | none=>none
def ldP (C:Cx)(ob:List (Nat×List AV))(t:Nat)(X:Option AV):Option AV:=match look C.tt t with
 | some i=>(match X with
  | some (.ptr id k)=>(match look ob id with
   | some cs=>(match i.k.isAgg with
    | false=>cs[k]?
    | true=>(match Nat.ble (k+i.size) cs.length with
     | true=>(match nt ((cs.drop k).take i.size) with
      | .p y=>some (.p y)
      | .agg l=>some (.agg l)
      | _=>none)
     | false=>none))
   | none=>none)
  | some (.rptr cs)=>(match i.k.isAgg with
   | false=>(match cs.head? with | some y=>some (.p y) | none=>none)
   | true=>(match Nat.ble i.size cs.length with
    | true=>some (.p (.agg (cs.take i.size)))
    | false=>none))
  | _=>none)
 | none=>none
def nrm {α:Type}:List α→Option (List α)
 | []=>some []
 | x::r=>(match nrm r with | some l=>some (x::l) | none=>none)
theorem ra {α:Type}:∀ {l l':List α},nrm l=some l'→l'=l
 | [],l',h=>by cases h; rfl
 | x::r,l',h=>by
  unfold nrm at h
  split at h
  ·rename_i m hm; cases h; rw [ra hm]
  ·cases h
def stP (C:Cx)(o:Oper)(sl:List (Nat×AV))(ob:List (Nat×List AV))(t:Nat)(x v:Operand):Option AS:=match o.dst with
 | none=>(match look C.tt t with
  | some i=>(match evo sl x with
   | some (.ptr id k)=>(match evo sl v with
    | some y=>(match y.cellsA with
     | some xs=>(match Nat.beq xs.length i.size with
      | true=>(match look ob id with
       | some cs=>(match Nat.ble (k+xs.length) cs.length with
        | true=>(match nrm (qn cs k xs) with
         | some ds=>some ⟨sl,(id,ds)::ob⟩
         | none=>none)
        | false=>none)
       | none=>none)
      | false=>none)
     | none=>none)
    | none=>none)
   | _=>none)
  | none=>none)
 | some _=>none
def frc:AV→Option AV
 | .undef=>some .undef
 | .p x=>some (.p x)
 | .agg cs=>some (.agg cs)
 | .vec a b c e=>some (.vec a b c e)
 | .arr a b c e=>some (.arr a b c e)
 | .ptr a b=>some (.ptr a b)
 | .bptr a b c=>some (.bptr a b c)
 | .rptr cs=>some (.rptr cs)
 | .tuple vs=>some (.tuple vs)
 | .func f cs=>some (.func f cs)
 | .mp a b=>some (.mp a b)
 | .mpr a b c d e=>some (.mpr a b c d e)
 | .stk a b c=>some (.stk a b c)
 | .sem R=>some (.sem R)
 | .it a b c=>some (.it a b c)
 | .vecp a b c e=>some (.vecp a b c e)
 | .elp a b=>some (.elp a b)
theorem sM {x y:AV}(h:frc x=some y):y=x:=by cases x <;> (cases h; rfl)
def dmS (D:Nat→Bool):List (Nat×AV)→Option (List (Nat×AV))
 | []=>some []
 | (i,x)::r=>(match frc (x.dem D) with
  | some y=>(match dmS D r with | some l=>some ((i,y)::l) | none=>none)
  | none=>none)
theorem vF {D:Nat→Bool}:∀ {l l':List (Nat×AV)},dmS D l=some l'→l'=l.map λ p=>(p.1,p.2.dem D)
 | [],l',h=>by cases h; rfl
 | (i,x)::r,l',h=>by
  unfold dmS at h
  split at h
  ·rename_i y hy
   split at h
   ·rename_i m hm; cases h; rw [sM hy,vF hm]; rfl
   ·cases h
  ·cases h
def dmC (D:Nat→Bool):List AV→Option (List AV)
 | []=>some []
 | x::r=>(match frc (x.dem D) with
  | some y=>(match dmC D r with | some l=>some (y::l) | none=>none)
  | none=>none)
theorem xP {D:Nat→Bool}:∀ {l l':List AV},dmC D l=some l'→l'=kH D l
 | [],l',h=>by cases h; rfl
 | x::r,l',h=>by
  unfold dmC at h
  split at h
  ·rename_i y hy
   split at h
   ·rename_i m hm; cases h; rw [sM hy,xP hm]; rfl
   ·cases h
  ·cases h
def dmO (D:Nat→Bool):List (Nat×List AV)→Option (List (Nat×List AV))
 | []=>some []
 | (i,cs)::r=>(match D i with
  | true=>dmO D r
  | false=>(match dmC D cs with
   | some ds=>(match dmO D r with | some l=>some ((i,ds)::l) | none=>none)
   | none=>none))
theorem pr {D:Nat→Bool}:∀ {l l':List (Nat×List AV)},dmO D l=some l'→l'=(l.filter λ p=>!D p.1).map λ p=>(p.1,kH D p.2)
 | [],l',h=>by cases h; rfl
 | (i,cs)::r,l',h=>by
  unfold dmO at h
  split at h
  ·rename_i hD; rw [pr h]; simp [List.filter_cons,hD]
  ·rename_i hD
   split at h
   ·rename_i ds hds
    split at h
    ·rename_i m hm; cases h; rw [xP hds,pr hm]; simp [List.filter_cons,hD]
    ·cases h
   ·cases h
def nwP (C:Cx)(o:Oper)(sl0:List (Nat×AV))(ob0:List (Nat×List AV))(cs:List AV):Option AS:=match o.dst with
 | some d=>(match Nat.blt d C.n with
  | true=>(match dmS (λ i=>Nat.beq i d) sl0 with
   | some sl=>(match dmC (λ i=>Nat.beq i d) cs with
    | some ds=>(match dmO (λ i=>Nat.beq i d) ob0 with
     | some ob=>some ⟨(d,.ptr d 0)::sl,(d,ds)::ob⟩
     | none=>none)
    | none=>none)
   | none=>none)
  | false=>none)
 | none=>none
theorem Be {cs:List AV}(h:nwP C o sl ob cs=some s'):∃ d,o.dst=some d∧Nat.blt d C.n=true∧s'=⟨(d,.ptr d 0)::(cb (λ i=>Nat.beq i d) ⟨sl,ob⟩).sl,(d,kH (λ i=>Nat.beq i d) cs)::(cb (λ i=>Nat.beq i d) ⟨sl,ob⟩).ob⟩:=by
 unfold nwP at h
 split at h
 ·rename_i d hd
  split at h
  ·rename_i hn
   split at h
   ·rename_i a ha
    split at h
    ·rename_i b hb
     split at h
     ·rename_i c hc
      cases h
      exact ⟨d,hd,hn,by rw [vF ha,xP hb,pr hc]; rfl⟩
     ·cases h
    ·cases h
   ·cases h
  ·cases h
 ·cases h
def ncP:Option AV→Option AV
 | some (.ptr id k)=>some (.ptr id k)
 | _=>none
def xtP (k:Nat):Option AV→Option AV
 | some (.tuple l)=>l[k]?
 | _=>none
def ntP:Option AV→Option AV
 | some (.p (.val (.bool b)))=>some (.p (.val (.bool (!b))))
 | _=>none
def flP (C:Cx)(t f:Nat)(X:Option AV):Option AV:=match look C.tt t with
 | some i=>(match i.k with
  | .struct fs=>(match fs[f]? with
   | some (off,ft)=>(match look C.tt ft with
    | some j=>(match X with
     | some (.p (.agg cs))=>(match j.k.isAgg with
      | false=>(match cs[off]? with | some c=>some (.p c) | none=>none)
      | true=>(match Nat.ble (off+j.size) cs.length with
       | true=>(match nrm ((cs.drop off).take j.size) with
        | some ds=>some (.p (.agg ds))
        | none=>none)
       | false=>none))
     | _=>none)
    | none=>none)
   | none=>none)
  | _=>none)
 | none=>none
def cvP (C:Cx)(st dt:Nat)(X:Option AV):Option AV:=match look C.tt st with
 | some i=>(match i.k with
  | .int k'=>(match look C.tt dt with
   | some j=>(match j.k with
    | .int k=>(match X with
     | some (.p (.val (.int k2 a)))=>(match ikE k2 k' with
      | true=>(match ikE k .i64 with
       | true=>none
       | false=>some (.p (.val (.int k (k.wrap a)))))
      | false=>none)
     | _=>none)
    | _=>none)
   | none=>none)
  | _=>none)
 | none=>none
def agP (cs:List AV):Option AV:=match nrm cs with
 | some ds=>(match nt ds with
  | .p y=>some (.p y)
  | .agg l=>some (.agg l)
  | _=>none)
 | none=>none
def buP (C:Cx)(t:Nat)(X:Option (List (Nat×AV))):Option AV:=match look C.tt t with
 | some i=>(match i.k with
  | .struct fs=>(match oh C.tt fs with
   | some pl=>(match X with
    | some ps=>(match rj (λ (i:Nat)=>pl[i]?) (eD i) ps with
     | some cs=>agP cs
     | none=>none)
    | none=>none)
   | none=>none)
  | .array _ e=>(match look C.tt e with
   | some ie=>(match X with
    | some ps=>(match rj (λ (k:Nat)=>some (k*ie.size,ie.size)) (eD i) ps with
     | some cs=>agP cs
     | none=>none)
    | none=>none)
   | none=>none)
  | _=>none)
 | none=>none
def laP (C:Cx)(c:Call)(sl:List (Nat×AV)):Option AV:=match c with
 | ⟨.builtin .len,⟨[x]⟩,⟨[t]⟩⟩=>(match look C.tt t with
  | some i=>(match i.k with
   | .slice _=>(match evo sl x with
    | some (.arr _ _ _ m)=>some (.p (.val (.int .i64 (m:Int))))
    | _=>none)
   | _=>none)
  | none=>none)
 | _=>none
def alP (C:Cx)(o:Oper)(sl:List (Nat×AV))(ob:List (Nat×List AV))(t:Nat):Option AS:=match look C.tt t with
 | some i=>(match AV.cellsA (.agg (eD i)) with
  | some cs=>(match nrm cs with | some ds=>nwP C o sl ob ds | none=>none)
  | none=>none)
 | none=>none
def bxP (C:Cx)(o:Oper)(sl:List (Nat×AV))(ob:List (Nat×List AV))(v:Operand):Option AS:=match evo sl v with
 | some x=>(match x.cellsA with
  | some cs=>(match nrm cs with | some ds=>nwP C o sl ob ds | none=>none)
  | none=>none)
 | none=>none
def opV (C:Cx)(o:Oper)(sl:List (Nat×AV))(ob:List (Nat×List AV)):Option AV:=match o.op with
 | .move x=>evo sl x
 | .assign x=>evo sl x
 | .pick c x y=>pkP sl x y (evo sl c)
 | .binOp op t x y _=>bnP C op t (evo sl x) (evo sl y)
 | .unOp .not _ x=>ntP (evo sl x)
 | .fieldAddr t x f=>faP C t f (evo sl x)
 | .load t x=>ldP C ob t (evo sl x)
 | .nilCheck x=>ncP (evo sl x)
 | .extract x k=>xtP k (evo sl x)
 | .field t x f=>flP C t f (evo sl x)
 | .convert st dt x=>cvP C st dt (evo sl x)
 | .build t parts=>buP C t (eO sl parts.toList)
 | .call c=>laP C c sl
 | _=>none
def opF (C:Cx)(o:Oper):AS→Option AS
 | ⟨sl,ob⟩=>match o.op with
 | .store t x v=>stP C o sl ob t x v
 | .box _ v=>bxP C o sl ob v
 | .alloc t=>alP C o sl ob t
 | .move x=>(match evo sl x with
  | some y=>wT C o ⟨sl,ob⟩ y
  | none=>wT C o ⟨sl,ob⟩ .undef)
 | .assign x=>(match evo sl x with
  | some y=>wT C o ⟨sl,ob⟩ y
  | none=>wT C o ⟨sl,ob⟩ .undef)
 | _=>(match opV C o sl ob with
  | some y=>wT C o ⟨sl,ob⟩ y
  | none=>none)
theorem DW {c x y:Operand}{z:AV}(ho:o.op=.pick c x y)(h:pkP sl x y (evo sl c)=some z)(hd:o.dst=some d)(hn:Nat.blt d C.n=true)(hK:K ⟨(d,z)::sl,ob⟩):aP C o K ⟨sl,ob⟩:=by
 generalize hc:evo sl c=v at h
 unfold pkP at h
 split at h
 ·exact bV ho hd hn hc rfl h hK
 ·exact bE ho hd hn hc rfl h hK
 ·cases h
theorem D9 {op:BinOp}{t t':TypeId}{x y:Operand}{z:AV}(ho:o.op=.binOp op t x y t')(h:bnP C op t (evo sl x) (evo sl y)=some z)(h1:o.dst=some d)(h2:Nat.blt d C.n=true)(hK:K ⟨(d,z)::sl,ob⟩):aP C o K ⟨sl,ob⟩:=by
 generalize hx:evo sl x=X at h
 generalize hy:evo sl y=Y at h
 unfold bnP at h
 split at h
 ·rename_i k a k' b
  split at h
  ·rename_i hk
   have:=A8 hk; subst this
   split at h
   ·rename_i c hc
    cases h; exact gJ ho h1 h2 hx hy hc hK
   ·split at h
    ·rename_i c hc
     cases h; exact DL ho h1 h2 hx hy hc hK
    ·split at h
     ·cases h
     ·split at h
      ·rename_i c hc
       cases h; exact Bl ho h1 h2 hx hy hc hK
      ·cases h
  ·cases h
 ·split at h
  ·rename_i i hi
   split at h
   ·rename_i hk
    split at h
    ·rename_i c hc
     cases h; exact Cc ho h1 h2 hi hk hx hy hc hK
    ·cases h
   ·cases h
  ·cases h
 ·cases h
theorem Ek {t f:Nat}{x:Operand}{z:AV}(ho:o.op=.fieldAddr t x f)(h:faP C t f (evo sl x)=some z)(h1:o.dst=some d)(h2:Nat.blt d C.n=true)(hK:K ⟨(d,z)::sl,ob⟩):aP C o K ⟨sl,ob⟩:=by
 generalize hx:evo sl x=X at h
 unfold faP at h
 split at h
 ·rename_i i hi
  split at h
  ·rename_i fs hk
   split at h
   ·rename_i off ft hf
    split at h
    ·rename_i j hj
     split at h
     ·rename_i hs
      split at h
      ·cases h; exact bX ho h1 h2 hi hk hf hj hs hx hK
      ·cases h; exact bW ho h1 h2 hi hk hf hj hs hx hK
      ·cases h
     ·cases h
    ·cases h
   ·cases h
  ·cases h
 ·cases h
theorem Dh {t:Nat}{x:Operand}{z:AV}(ho:o.op=.load t x)(h:ldP C ob t (evo sl x)=some z)(h1:o.dst=some d)(h2:Nat.blt d C.n=true)(hK:K ⟨(d,z)::sl,ob⟩):aP C o K ⟨sl,ob⟩:=by
 generalize hx:evo sl x=X at h
 unfold ldP at h
 split at h
 ·rename_i i hi
  split at h
  ·rename_i id k
   split at h
   ·rename_i cs hob
    split at h
    ·rename_i ha
     exact uu ho h1 h2 hi ha hx hob h hK
    ·rename_i ha
     split at h
     ·rename_i hl
      split at h
      ·rename_i y hy
       cases h; exact qu ho h1 h2 hi ha hx hob hl (congrArg some hy) hK
      ·rename_i y hy
       cases h; exact qu ho h1 h2 hi ha hx hob hl (congrArg some hy) hK
      ·cases h
     ·cases h
   ·cases h
  ·rename_i cs
   split at h
   ·rename_i ha
    split at h
    ·rename_i y hy
     cases h; exact dx ho h1 h2 hi ha hx hy hK
    ·cases h
   ·rename_i ha
    split at h
    ·rename_i hl
     cases h; exact du ho h1 h2 hi ha hx hl hK
    ·cases h
  ·cases h
 ·cases h
theorem DV {t:Nat}{x v:Operand}(ho:o.op=.store t x v)(h:stP C o sl ob t x v=some s')(hK:K s'):aP C o K ⟨sl,ob⟩:=by
 unfold stP at h
 split at h
 ·rename_i hd
  split at h
  ·rename_i i hi
   split at h
   ·rename_i id k hx
    split at h
    ·rename_i y hv
     split at h
     ·rename_i xs hc
      split at h
      ·rename_i hsz
       split at h
       ·rename_i cs hob
        split at h
        ·rename_i hl
         split at h
         ·rename_i ds hds
          cases h
          rw [ra hds] at hK
          exact nG ho hd hi hx hv hc (Nat.eq_of_beq_eq_true hsz) hob (Nat.le_of_ble_eq_true hl) hK
         ·cases h
        ·cases h
       ·cases h
      ·cases h
     ·cases h
    ·cases h
   ·cases h
  ·cases h
 ·cases h
theorem DX {t:Nat}{v:Operand}(ho:o.op=.box t v)(h:bxP C o sl ob v=some s')(hK:K s'):aP C o K ⟨sl,ob⟩:=by
 unfold bxP at h
 split at h
 ·rename_i x hx
  split at h
  ·rename_i cs hc
   split at h
   ·rename_i ds hds
    obtain ⟨d,h1,h2,rfl⟩:=Be h
    rw [ra hds] at hK
    exact AY ho h1 h2 hx hc hK
   ·cases h
  ·cases h
 ·cases h
theorem Dp {t:Nat}(ho:o.op=.alloc t)(h:alP C o sl ob t=some s')(hK:K s'):aP C o K ⟨sl,ob⟩:=by
 unfold alP at h
 split at h
 ·rename_i i hi
  split at h
  ·rename_i cs hc
   split at h
   ·rename_i ds hds
    obtain ⟨d,h1,h2,rfl⟩:=Be h
    rw [ra hds] at hK
    have e:cs=eD i:=by
     simp only [AV.cellsA] at hc
     cases hb:AV.onesB (eD i) <;> rw [hb] at hc <;> cases hc
     rfl
    subst e
    exact md ho h1 h2 hi hc hK
   ·cases h
  ·cases h
 ·cases h
theorem Dc {x:Operand}{z:AV}(ho:o.op=.nilCheck x)(h:ncP (evo sl x)=some z)(h1:o.dst=some d)(h2:Nat.blt d C.n=true)(hK:K ⟨(d,z)::sl,ob⟩):aP C o K ⟨sl,ob⟩:=by
 generalize hx:evo sl x=X at h
 unfold ncP at h
 split at h
 ·cases h; exact vw ho h1 h2 hx hK
 ·cases h
theorem Ds {x:Operand}{n:Nat}{z:AV}(ho:o.op=.extract x n)(h:xtP n (evo sl x)=some z)(h1:o.dst=some d)(h2:Nat.blt d C.n=true)(hK:K ⟨(d,z)::sl,ob⟩):aP C o K ⟨sl,ob⟩:=by
 generalize hx:evo sl x=X at h
 unfold xtP at h
 split at h
 ·exact cN ho h1 h2 hx h hK
 ·cases h
theorem Ea {t:TypeId}{x:Operand}{z:AV}(ho:o.op=.unOp .not t x)(h:ntP (evo sl x)=some z)(h1:o.dst=some d)(h2:Nat.blt d C.n=true)(hK:K ⟨(d,z)::sl,ob⟩):aP C o K ⟨sl,ob⟩:=by
 generalize hx:evo sl x=X at h
 unfold ntP at h
 split at h
 ·cases h; exact gK ho h1 h2 hx hK
 ·cases h
theorem Du {t f:Nat}{x:Operand}{z:AV}(ho:o.op=.field t x f)(h:flP C t f (evo sl x)=some z)(h1:o.dst=some d)(h2:Nat.blt d C.n=true)(hK:K ⟨(d,z)::sl,ob⟩):aP C o K ⟨sl,ob⟩:=by
 generalize hx:evo sl x=X at h
 unfold flP at h
 split at h
 ·rename_i i hi
  split at h
  ·rename_i fs hk
   split at h
   ·rename_i off ft hf
    split at h
    ·rename_i j hj
     split at h
     ·rename_i cs
      split at h
      ·rename_i ha
       split at h
       ·rename_i c hc
        cases h; exact yT ho h1 h2 hi hk hf hj ha hx hc hK
       ·cases h
      ·rename_i ha
       split at h
       ·rename_i hl
        split at h
        ·rename_i ds hds
         rw [ra hds] at h
         cases h; exact zG ho h1 h2 hi hk hf hj ha hx hl hK
        ·cases h
       ·cases h
     ·cases h
    ·cases h
   ·cases h
  ·cases h
 ·cases h
theorem Dk {st dt:Nat}{x:Operand}{z:AV}(ho:o.op=.convert st dt x)(h:cvP C st dt (evo sl x)=some z)(h1:o.dst=some d)(h2:Nat.blt d C.n=true)(hK:K ⟨(d,z)::sl,ob⟩):aP C o K ⟨sl,ob⟩:=by
 generalize hx:evo sl x=X at h
 unfold cvP at h
 split at h
 ·rename_i i hi
  split at h
  ·rename_i k' hk'
   split at h
   ·rename_i j hj
    split at h
    ·rename_i k hk
     split at h
     ·rename_i k2 a
      split at h
      ·rename_i hb
       have:=A8 hb; subst this
       split at h
       ·cases h
       ·cases h; exact Ac ho h1 h2 hi hk' hj hk hx hK
      ·cases h
     ·cases h
    ·cases h
   ·cases h
  ·cases h
 ·cases h
theorem Br {cs:List AV}{z:AV}(h:agP cs=some z):some (nt cs)=some z:=by
 unfold agP at h
 split at h
 ·rename_i ds hds
  have e:=ra hds
  subst e
  split at h
  ·rename_i y hy; cases h; exact congrArg some hy
  ·rename_i y hy; cases h; exact congrArg some hy
  ·cases h
 ·cases h
theorem DF {t:Nat}{parts:Array (Nat×Operand)}{z:AV}(ho:o.op=.build t parts)(h:buP C t (eO sl parts.toList)=some z)(h1:o.dst=some d)(h2:Nat.blt d C.n=true)(hK:K ⟨(d,z)::sl,ob⟩):aP C o K ⟨sl,ob⟩:=by
 generalize hps:eO sl parts.toList=X at h
 unfold buP at h
 split at h
 ·rename_i i hi
  split at h
  ·rename_i fs hk
   split at h
   ·rename_i pl hpl
    split at h
    ·rename_i ps
     split at h
     ·rename_i cs hcs
      exact sR ho h1 h2 hi hk hpl hps hcs (Br h) hK
     ·cases h
    ·cases h
   ·cases h
  ·rename_i m e hk
   split at h
   ·rename_i ie hie
    split at h
    ·rename_i ps
     split at h
     ·rename_i cs hcs
      exact wq ho h1 h2 hi hk hie hps hcs (Br h) hK
     ·cases h
    ·cases h
   ·cases h
  ·cases h
 ·cases h
theorem DY {c:Call}{z:AV}(ho:o.op=.call c)(h:laP C c sl=some z)(h1:o.dst=some d)(h2:Nat.blt d C.n=true)(hK:K ⟨(d,z)::sl,ob⟩):aP C o K ⟨sl,ob⟩:=by
 unfold laP at h
 split at h
 ·split at h
  ·rename_i i hi
   split at h
   ·rename_i e hk
    split at h
    ·rename_i hx
     cases h; exact fw ho h1 h2 hi hk hx hK
    ·cases h
   ·cases h
  ·cases h
 ·cases h
theorem tv {y:AV}(h:opV C o sl ob=some y)(h1:o.dst=some d)(h2:Nat.blt d C.n=true)(hK:K ⟨(d,y)::sl,ob⟩):aP C o K ⟨sl,ob⟩:=by
 unfold opV at h
 split at h
 ·rename_i ho; exact cB ho h1 h2 h hK
 ·rename_i ho; exact bc ho h1 h2 h hK
 ·rename_i ho; exact DW ho h h1 h2 hK
 ·rename_i ho; exact D9 ho h h1 h2 hK
 ·rename_i ho; exact Ea ho h h1 h2 hK
 ·rename_i ho; exact Ek ho h h1 h2 hK
 ·rename_i ho; exact Dh ho h h1 h2 hK
 ·rename_i ho; exact Dc ho h h1 h2 hK
 ·rename_i ho; exact Ds ho h h1 h2 hK
 ·rename_i ho; exact Du ho h h1 h2 hK
 ·rename_i ho; exact Dk ho h h1 h2 hK
 ·rename_i ho; exact DF ho h h1 h2 hK
 ·rename_i ho; exact DY ho h h1 h2 hK
 ·cases h
theorem xz (h:opF C o ⟨sl,ob⟩=some s')(hK:K s'):aP C o K ⟨sl,ob⟩:=by
 unfold opF at h
 dsimp only at h
 split at h
 ·rename_i ho; exact DV ho h hK
 ·rename_i ho; exact DX ho h hK
 ·rename_i ho; exact Dp ho h hK
 ·rename_i ho
  split at h
  ·rename_i y hy; obtain ⟨d,h1,h2,rfl⟩:=mZ h; exact cB ho h1 h2 hy hK
  ·obtain ⟨d,h1,h2,rfl⟩:=mZ h; exact wC ho h1 h2 hK
 ·rename_i ho
  split at h
  ·rename_i y hy; obtain ⟨d,h1,h2,rfl⟩:=mZ h; exact bc ho h1 h2 hy hK
  ·obtain ⟨d,h1,h2,rfl⟩:=mZ h; exact uo ho h1 h2 hK
 ·split at h
  ·rename_i y hy; obtain ⟨d,h1,h2,rfl⟩:=mZ h; exact tv hy h1 h2 hK
  ·cases h
def isU:Value→Bool
 | .tuple a=>Nat.beq a.size 0
 | _=>false
theorem Bf {v:Value}(h:isU v=true):v=Go.undef:=by
 unfold isU at h
 split at h
 ·rename_i a
  have:=Nat.eq_of_beq_eq_true h
  have:=Array.eq_empty_of_size_eq_zero this
  subst this; rfl
 ·cases h
def yv (C:Cx)(o:Oper)(s:AS):Option AS:=wT C o s (.p (.val Go.undef))
def guF (C:Cx)(o:Oper)(s:AS):Option (Bool×AV)→Option AS
 | some (true,.p (.val (.bool true)))=>opF C o s
 | some (true,.p (.val (.bool false)))=>yv C o s
 | some (false,.p (.val (.bool true)))=>yv C o s
 | some (false,.p (.val (.bool false)))=>opF C o s
 | some (_,.p (.val v))=>(match isU v with | true=>yv C o s | false=>none)
 | _=>none
def oF (C:Cx)(ops:Array Oper)(o:Oper):AS→Option AS
 | ⟨sl,ob⟩=>match o.guard with
  | none=>opF C o ⟨sl,ob⟩
  | some _=>guF C o ⟨sl,ob⟩ (gdF ops o sl)
theorem EH (h:oF C ops o ⟨sl,ob⟩=some s')(hK:d8 C ops r K s'):d8 C ops (o::r) K ⟨sl,ob⟩:=by
 unfold oF at h
 dsimp only at h
 split at h
 ·rename_i hg; exact aR hg (xz h hK)
 ·rename_i p hg
  have pass:∀ {w:Bool} {b:Bool},gdF ops o sl=some (w,.p (.val (.bool b)))→b=(!w)→yv C o ⟨sl,ob⟩=some s'→d8 C ops (o::r) K ⟨sl,ob⟩:=by
   intro w b hgd hb hp
   obtain ⟨d,h1,h2,rfl⟩:=mZ hp
   obtain ⟨j,t,hg,hj,hv⟩:=rh hgd
   exact l8 hg hj hv hb h1 h2 hK
  generalize hgd:gdF ops o sl=G at h
  unfold guF at h
  split at h
  ·exact gy rfl hgd (xz h hK)
  ·exact pass hgd rfl h
  ·exact pass hgd rfl h
  ·exact gy rfl hgd (xz h hK)
  ·rename_i v hno1 hno2 hno3 hno4
   split at h
   ·rename_i hu
    have:=Bf hu; subst this
    obtain ⟨d,h1,h2,rfl⟩:=mZ h
    obtain ⟨j,t,hg,hj,hv⟩:=rh hgd
    exact nk hg hj hv h1 h2 hK
   ·cases h
  ·cases h
def cdE (s:AS)(x:Operand):Option AV:=match s with | ⟨sl,_⟩=>evo sl x
def cdF (C:Cx)(k:List Fr)(s:AS):Code→Option Cf
 | .seq x y=>some ⟨.cd x,.sq y::k,s⟩
 | .block id x=>some ⟨.cd x,.bk id::k,s⟩
 | .scope x=>some ⟨.cd x,.ng::k,s⟩
 | .skip=>pop k .normal s
 | .label _=>pop k .normal s
 | .exit id=>pop k (.exit id) s
 | .ret=>pop k .ret s
 | .region _ ops draw=>(match draw with | false=>some ⟨.op ops ops.toList,k,s⟩ | true=>none)
 | .cond c x y=>(match cdE s c with
  | some (.p (.val (.bool true)))=>some ⟨.cd x,k,s⟩
  | some (.p (.val (.bool false)))=>some ⟨.cd y,k,s⟩
  | _=>none)
 | _=>none
def stp (C:Cx):Cf→Option Cf
 | ⟨.ex e,k,s⟩=>pop k e s
 | ⟨.op _ [],k,s⟩=>pop k .normal s
 | ⟨.op ops (o::r),k,s⟩=>(match oF C ops o s with | some s'=>some ⟨.op ops r,k,s'⟩ | none=>none)
 | ⟨.cd c,k,s⟩=>cdF C k s c
theorem Dj {c:Code}{c':Cf}(h:cdF C k s c=some c')(hM:M C Q c'):awp C c (dn C Q k) s:=by
 unfold cdF at h
 split at h
 ·cases h; exact bB hM
 ·cases h; exact dy hM
 ·cases h; exact dr hM
 ·exact cR (gd h hM)
 ·exact dw (gd h hM)
 ·exact d7 (gd h hM)
 ·exact cQ (gd h hM)
 ·split at h
  ·cases h; exact bZ hM
  ·cases h
 ·have hs:∀ c,cdE s c=evo s.sl c:=λ c=>by cases s; rfl
  split at h
  ·rename_i hc; cases h; exact Am (xA ((hs _).symm.trans hc)) rfl hM
  ·rename_i hc; cases h; exact zE (xA ((hs _).symm.trans hc)) rfl hM
  ·cases h
 ·cases h
theorem Do {c c':Cf}(h:stp C c=some c')(hM:M C Q c'):M C Q c:=by
 unfold stp at h
 split at h
 ·exact gd h hM
 ·exact bj (gd h hM)
 ·split at h
  ·rename_i s0 hs; cases h; exact EH hs hM
  ·cases h
 ·exact Dj h hM
def run (C:Cx):Nat→Cf→Option Cf
 | 0,c=>some c
 | n+1,c=>(match stp C c with | some c'=>run C n c' | none=>none)
theorem nx:∀ (n:Nat) {c c':Cf},run C n c=some c'→M C Q c'→M C Q c
 | 0,c,c',h,hM=>by cases h; exact hM
 | n+1,c,c',h,hM=>by
  unfold run at h
  split at h
  ·rename_i c1 h1; exact Do h1 (nx n h hM)
  ·cases h
theorem nZ:∀ {k:List Fr} {e:Exit} {s t:AS},dD C s t→dn C Q k e t→dn C Q k e s
 | [],e,s,t,hg,⟨u,h1,h2⟩=>⟨u,br hg h1,h2⟩
 | .sq y::k,e,s,t,hg,h=>by
  cases e with
  | normal=>exact q7 hg h
  | _=>exact nZ (k:=k) hg h
 | .bk id::k,e,s,t,hg,h=>by
  cases e with
  | exit i =>
   simp only [dn,jA] at h ⊢
   split
   ·rename_i e; rw [if_pos e] at h; exact nZ (k:=k) hg h
   ·rename_i e; rw [if_neg e] at h; exact nZ (k:=k) hg h
  | _=>exact nZ (k:=k) hg h
 | .ng::k,e,s,t,hg,h=>by
  cases e with
  | goto l=>exact h
  | _=>exact nZ (k:=k) hg h
 | .jo P::k,e,s,t,hg,h=>by
  cases e with
  | normal=>obtain ⟨u,h1,h2⟩:=h; exact ⟨u,br hg h1,h2⟩
  | _=>exact nZ (k:=k) hg h
 | .je id P::k,e,s,t,hg,h=>by
  cases e with
  | exit i =>
   simp only [dn,exQ] at h ⊢
   split
   ·rename_i e; rw [if_pos e] at h; obtain ⟨u,h1,h2⟩:=h; exact ⟨u,br hg h1,h2⟩
   ·rename_i e; rw [if_neg e] at h; exact nZ (k:=k) hg h
  | _=>exact nZ (k:=k) hg h
theorem mG {c:Ct}{t:AS}(hg:dD C s t)(h:M C Q ⟨c,k,t⟩):M C Q ⟨c,k,s⟩:=by
 cases c with
 | cd c=>exact q7 hg h
 | op ops r=>exact xd hg h
 | ex e=>exact nZ hg h
theorem kX {c:Code}{σ:Type}(A:σ→Prop)(mk:σ→AS)(h2:∀ v,A v→M C Q ⟨.ex .normal,k,mk v⟩)(h1:M C Q ⟨.cd c,.jo (λ t=>∃ v,A v∧t=mk v)::k,s⟩):M C Q ⟨.cd c,k,s⟩ :=
 A7 _ (λ s' ⟨_,hg,v,hv,e⟩=>nZ hg (e ▸ h2 v hv)) h1
theorem kEx (id:Nat){c:Code}{σ:Type}(A:σ→Prop)(mk:σ→AS)(h2:∀ v,A v→M C Q ⟨.ex (.exit id),k,mk v⟩)(h1:M C Q ⟨.cd c,.je id (λ t=>∃ v,A v∧t=mk v)::k,s⟩):M C Q ⟨.cd c,k,s⟩ :=
 AO id _ (λ s' ⟨_,hg,v,hv,e⟩=>nZ hg (e ▸ h2 v hv)) h1
theorem eX {σ:Type}{A:σ→Prop}{mk:σ→AS}(v:σ)(hv:A v)(hg:dD C s (mk v)):M C Q ⟨.ex .normal,.jo (λ t=>∃ v,A v∧t=mk v)::k,s⟩:=⟨mk v,hg,v,hv,rfl⟩
theorem eXi {σ:Type}{A:σ→Prop}{mk:σ→AS}{id:Nat}(v:σ)(hv:A v)(hg:dD C s (mk v)):M C Q ⟨.ex (.exit id),.je id (λ t=>∃ v,A v∧t=mk v)::k,s⟩:=by
 show dn C Q (.je id (λ t=>∃ v,A v∧t=mk v)::k) (.exit id) s
 simp only [dn,exQ,if_true]; exact ⟨mk v,hg,v,hv,rfl⟩
theorem lG {c:Code}{σ O:Type}(mk:σ→AS)(lp:Nat→σ→Option O)(hz:∀ q,lp 0 q=none){o:O}{n:Nat}(q0:σ)(h0:lp n q0=some o)(hle:dD C s (mk q0))
  (round:∀ m q,lp (m+1) q=some o→M C Q ⟨.cd c,.jo (λ t=>∃ q',lp m q'=some o∧t=mk q')::k,mk q⟩):M C Q ⟨.cd (.loop c),k,s⟩:=by
 refine zb mk lp hz q0 h0 hle λ m q hq=>nJ (λ e s' h=>?_) (round m q hq)
 cases e with
 | normal=>obtain ⟨u,hg,q',h1,rfl⟩:=h; exact ⟨q',h1,hg⟩
 | _=>exact h
def lks (sl:List (Nat×AV)):List Nat→Option (List AV)
 | []=>some []
 | t::r=>(match look sl t with
  | some x=>(match lks sl r with | some l=>some (x::l) | none=>none)
  | none=>none)
def stB (b:Bool)(sl:List (Nat×AV)):List Nat→List (Nat×AV)
 | []=>sl
 | t::r=>(t,.p (.val (.bool b)))::stB b sl r
theorem Bq {b:Bool}:∀ {T:List Nat},lks sl T=some (T.map λ _=>.p (.val (.bool b)))→∀ j x,look (stB b sl T) j=some x→look sl j=some x
 | [],_,j,x,h=>h
 | t::r,hT,j,x,h=>by
  unfold lks at hT
  split at hT
  ·rename_i y hy
   split at hT
   ·rename_i l hl
    simp only [List.map_cons,Option.some.injEq,List.cons.injEq] at hT
    simp only [stB,aY] at h
    split at h
    ·rename_i e; subst e; cases h; rw [hy,hT.1]
    ·exact Bq (hl.trans (congrArg some hT.2)) j x h
   ·cases hT
  ·cases hT
theorem qJ {b:Bool}{T:List Nat}(hT:lks sl T=some (T.map λ _=>.p (.val (.bool b)))):dD C ⟨sl,ob⟩ ⟨stB b sl T,ob⟩ :=
 aW ⟨λ j x hx=>by
  have:=Bq hT j x hx
  simp only [AS.get,this,Option.getD_some]; exact AV.sub_refl x,λ id cs h=>⟨cs,h,Nat.le_refl _,λ i c d hc hd=>by rw [hc] at hd; cases hd; exact AV.sub_refl _⟩⟩
theorem fD {c:Ct}{p:Prop} [Decidable p] {α:Type}{a b:Option α}{v:α}(T:List Nat)(h:(if p then a else b)=some v)(hT:lks sl T=some (T.map λ _=>.p (.val (.bool (decide p)))))
  (h1:p→a=some v→M C Q ⟨c,k,⟨stB true sl T,ob⟩⟩) (h2:¬p→b=some v→M C Q ⟨c,k,⟨stB false sl T,ob⟩⟩):M C Q ⟨c,k,⟨sl,ob⟩⟩:=by
 by_cases hp:p
 ·rw [decide_eq_true hp] at hT; exact mG (qJ hT) (h1 hp (Ak hp h))
 ·rw [decide_eq_false hp] at hT; exact mG (qJ hT) (h2 hp (if_f hp h))
theorem fN {c:Ct}{p:Prop} [Decidable p] {α:Type}{a b:Option α}{v:α}(T:List Nat)(h:(if p then a else b)=some v)(hT:lks sl T=some (T.map λ _=>.p (.val (.bool (!decide p)))))
  (h1:p→a=some v→M C Q ⟨c,k,⟨stB false sl T,ob⟩⟩) (h2:¬p→b=some v→M C Q ⟨c,k,⟨stB true sl T,ob⟩⟩):M C Q ⟨c,k,⟨sl,ob⟩⟩:=by
 by_cases hp:p
 ·rw [decide_eq_true hp] at hT; exact mG (qJ hT) (h1 hp (Ak hp h))
 ·rw [decide_eq_false hp] at hT; exact mG (qJ hT) (h2 hp (if_f hp h))
theorem fB {c:Ct}{p:Bool}{α:Type}{a b:Option α}{v:α}(T:List Nat)(h:(if p=true then a else b)=some v)(hT:lks sl T=some (T.map λ _=>.p (.val (.bool p))))
  (h1:p=true→a=some v→M C Q ⟨c,k,⟨stB true sl T,ob⟩⟩) (h2:p=false→b=some v→M C Q ⟨c,k,⟨stB false sl T,ob⟩⟩):M C Q ⟨c,k,⟨sl,ob⟩⟩:=by
 cases p
 ·exact mG (qJ hT) (h2 rfl (Bs rfl h))
 ·exact mG (qJ hT) (h1 rfl (Ak rfl h))
def gF (ops:Array Oper)(o:Oper)(sl:List (Nat×AV)):Bool:=match o.guard with
 | none=>true
 | some _=>(match gdF ops o sl with
  | some (true,.p (.val (.bool true)))=>true
  | some (false,.p (.val (.bool false)))=>true
  | _=>false)
theorem mO (hg:gF ops o sl=true)(h:aP C o (λ s'=>M C Q ⟨.op ops r,k,s'⟩) ⟨sl,ob⟩):M C Q ⟨.op ops (o::r),k,⟨sl,ob⟩⟩:=by
 unfold gF at hg
 split at hg
 ·rename_i hn; exact aR hn h
 ·generalize hgd:gdF ops o sl=G at hg
  split at hg
  ·exact gy rfl hgd h
  ·exact gy rfl hgd h
  ·cases hg
theorem bd {α β:Type}{g:Prop}{p:Option α}{f:α→Option β}{v:β}(h:p.bind f=some v)(H:∀ x,p=some x→f x=some v→g):g:=by
 obtain ⟨x,h1,h2⟩:=D6 h
 exact H x h1 h2
theorem cc' {α:Type}{g:Prop}{p:Prop} [Decidable p] {a:Option α}{v:α}(h:ck p a=some v)(H:p→a=some v→g):g:=by
 obtain ⟨h1,h2⟩:=kz h
 exact H h1 h2
def biF (C:Cx)(ops:Array Oper)(o:Oper)(sl:List (Nat×AV)):Option (Nat×BinOp×AV×AV):=match gF ops o sl with
 | true=>(match dsF C.n o with
  | some d=>(match o.op with
   | .binOp op _ x y _=>(match evo sl x with
    | some X=>(match evo sl y with
     | some Y=>some (d,op,X,Y)
     | none=>none)
    | none=>none)
   | _=>none)
  | none=>none)
 | false=>none
theorem xK {op:BinOp}{X Y:AV}(h:biF C ops o sl=some (d,op,X,Y)):gF ops o sl=true∧o.dst=some d∧Nat.blt d C.n=true∧∃ t x y t',o.op=.binOp op t x y t'∧evo sl x=some X∧evo sl y=some Y:=by
 unfold biF at h
 split at h
 ·rename_i hg
  split at h
  ·rename_i e hd
   split at h
   ·rename_i op' t x y t' ho
    split at h
    ·rename_i X' hx
     split at h
     ·rename_i Y' hy
      cases h
      exact ⟨hg,(jq hd).1,(jq hd).2,t,x,y,t',ho,hx,hy⟩
     ·cases h
    ·cases h
   ·cases h
  ·cases h
 ·cases h
theorem oA {α:Type}{a:Option α}{v:α}{op:BinOp}{x y c:Int}(h:ck (inR c) a=some v)(hb:biF C ops o sl=some (d,op,.p (.val (.int .i64 x)),.p (.val (.int .i64 y))))(hc:arI op x y=some c)
  (H:inR c→a=some v→M C Q ⟨.op ops r,k,⟨(d,.p (eI c))::sl,ob⟩⟩):M C Q ⟨.op ops (o::r),k,⟨sl,ob⟩⟩:=by
 obtain ⟨hg,hd,hn,t,X,Y,t',ho,hx,hy⟩:=xK hb
 obtain ⟨h1,h2⟩:=kz h
 exact mO hg (d4 ho hd hn hx hy hc h1 (H h1 h2))
theorem oS {op:BinOp}{x y:Bytes}{c:Bool}(hb:biF C ops o sl=some (d,op,.p (.val (.string (str x))),.p (.val (.string (str y)))))(hc:Cd op x y=some c)
  (H:M C Q ⟨.op ops r,k,⟨(d,.p (eB c))::sl,ob⟩⟩):M C Q ⟨.op ops (o::r),k,⟨sl,ob⟩⟩:=by
 obtain ⟨hg,hd,hn,t,X,Y,t',ho,hx,hy⟩:=xK hb
 exact mO hg (eh ho hd hn hx hy hc H)
theorem oC {α:Type}{a:Option α}{v:α}{x y:Bytes}(h:ck (x.length+y.length≤9223372036854775807) a=some v)(hb:biF C ops o sl=some (d,.add,.p (.val (.string (str x))),.p (.val (.string (str y)))))
  (H:x.length+y.length≤9223372036854775807→a=some v→M C Q ⟨.op ops r,k,⟨(d,.p (eS (x++y)))::sl,ob⟩⟩):M C Q ⟨.op ops (o::r),k,⟨sl,ob⟩⟩:=by
 obtain ⟨hg,hd,hn,t,X,Y,t',ho,hx,hy⟩:=xK hb
 obtain ⟨h1,h2⟩:=kz h
 exact mO hg (bg ho hd hn hx hy h1 (H h1 h2))
def lnF (C:Cx)(ops:Array Oper)(o:Oper)(sl:List (Nat×AV)):Option (Nat×Bool×AV):=match gF ops o sl with
 | true=>(match dsF C.n o with
  | some d=>(match o.op with
   | .call ⟨.builtin .len,⟨[x]⟩,⟨[t]⟩⟩=>(match look C.tt t with
    | some i=>(match evo sl x with
     | some X=>(match i.k with
      | .string=>some (d,true,X)
      | .slice _=>some (d,false,X)
      | _=>none)
     | none=>none)
    | none=>none)
   | _=>none)
  | none=>none)
 | false=>none
theorem oLs {x:Bytes}(hb:lnF C ops o sl=some (d,true,.p (.val (.string (str x)))))(H:M C Q ⟨.op ops r,k,⟨(d,.p (eI (x.length:Int)))::sl,ob⟩⟩):M C Q ⟨.op ops (o::r),k,⟨sl,ob⟩⟩:=by
 unfold lnF at hb
 split at hb
 ·rename_i hg
  split at hb
  ·rename_i e hd
   split at hb
   ·rename_i z t ho
    split at hb
    ·rename_i i hi
     split at hb
     ·rename_i X hx
      split at hb
      ·rename_i hk; cases hb; exact mO hg (d6 ho (jq hd).1 (jq hd).2 hi hk hx H)
      ·cases hb
      ·cases hb
     ·cases hb
    ·cases hb
   ·cases hb
  ·cases hb
 ·cases hb
theorem oLl {α:Type}{f:α→PV}{l:List α}{X:AV}(hb:lnF C ops o sl=some (d,false,X))(hX:X.elems? = some (l.map f))(H:M C Q ⟨.op ops r,k,⟨(d,.p (eI (l.length:Int)))::sl,ob⟩⟩):M C Q ⟨.op ops (o::r),k,⟨sl,ob⟩⟩:=by
 unfold lnF at hb
 split at hb
 ·rename_i hg
  split at hb
  ·rename_i e hd
   split at hb
   ·rename_i z t ho
    split at hb
    ·rename_i i hi
     split at hb
     ·rename_i X' hx
      split at hb
      ·cases hb
      ·rename_i hk; cases hb; exact mO hg (na ho (jq hd).1 (jq hd).2 hi hk hx hX H)
      ·cases hb
     ·cases hb
    ·cases hb
   ·cases hb
  ·cases hb
 ·cases hb
def ixF (C:Cx)(ops:Array Oper)(o:Oper)(sl:List (Nat×AV)):Option (Nat×AV×AV):=match gF ops o sl with
 | true=>(match dsF C.n o with
  | some d=>(match o.op with
   | .index t x y=>(match look C.tt t with
    | some i=>(match i.k with
     | .string=>(match evo sl x with
      | some X=>(match evo sl y with | some Y=>some (d,X,Y) | none=>none)
      | none=>none)
     | _=>none)
    | none=>none)
   | _=>none)
  | none=>none)
 | false=>none
theorem oI {α:Type}{a:Option α}{v:α}{x:Bytes}{i:IntKind}{j:Int}(h:ck ((0:Int)≤j∧j < (x.length:Int)) a=some v)(hb:ixF C ops o sl=some (d,.p (.val (.string (str x))),.p (.val (.int i j))))
  (H:(0:Int)≤j∧j < (x.length:Int)→a=some v→M C Q ⟨.op ops r,k,⟨(d,.p (eK .u8 (byt x j)))::sl,ob⟩⟩):M C Q ⟨.op ops (o::r),k,⟨sl,ob⟩⟩:=by
 obtain ⟨h1,h2⟩:=kz h
 unfold ixF at hb
 split at hb
 ·rename_i hg
  split at hb
  ·rename_i e hd
   split at hb
   ·rename_i t X Y ho
    split at hb
    ·rename_i i hi
     split at hb
     ·rename_i hk
      split at hb
      ·rename_i hx
       split at hb
       ·rename_i hy; cases hb; exact mO hg (ib ho (jq hd).1 (jq hd).2 hi hk hx hy h1 (H h1 h2))
       ·cases hb
      ·cases hb
     ·cases hb
    ·cases hb
   ·cases hb
  ·cases hb
 ·cases hb
def slF (C:Cx)(ops:Array Oper)(o:Oper)(sl:List (Nat×AV)):Option (Nat×AV×Option Operand×Option Operand):=match gF ops o sl with
 | true=>(match dsF C.n o with
  | some d=>(match o.op with
   | .slice t x lo hi none=>(match look C.tt t with
    | some i=>(match i.k with
     | .string=>(match evo sl x with
      | some X=>some (d,X,lo,hi)
      | none=>none)
     | _=>none)
    | none=>none)
   | _=>none)
  | none=>none)
 | false=>none
theorem oP {α:Type}{a:Option α}{v:α}{x:Bytes}{i j:Int}{lo hi:Option Operand}(h:ck ((0:Int)≤i∧i≤j∧j≤(x.length:Int)) a=some v)(hb:slF C ops o sl=some (d,.p (.val (.string (str x))),lo,hi))(hlo:loI sl lo=some i)(hhi:hiI sl (x.length:Int) hi=some j)
  (H:(0:Int)≤i∧i≤j∧j≤(x.length:Int)→a=some v→M C Q ⟨.op ops r,k,⟨(d,.p (eS (sub x i j)))::sl,ob⟩⟩):M C Q ⟨.op ops (o::r),k,⟨sl,ob⟩⟩:=by
 obtain ⟨h1,h2⟩:=kz h
 unfold slF at hb
 split at hb
 ·rename_i hg
  split at hb
  ·rename_i e hd
   split at hb
   ·rename_i t X lo' hi' ho
    split at hb
    ·rename_i i hi
     split at hb
     ·rename_i hk
      split at hb
      ·rename_i hx
       cases hb; exact mO hg (gI ho (jq hd).1 (jq hd).2 hi hk hx hlo hhi h1 (H h1 h2))
      ·cases hb
     ·cases hb
    ·cases hb
   ·cases hb
  ·cases hb
 ·cases hb
def atF (C:Cx)(ops:Array Oper)(o:Oper)(sl:List (Nat×AV)):Option (Nat×Nat×AV×AV):=match gF ops o sl with
 | true=>(match dsF C.n o with
  | some d=>(match o.op with
   | .indexAddr t x y=>(match look C.tt t with
    | some i=>(match i.k with
     | .slice e=>(match look C.tt e with
      | some ie=>(match evo sl x with
       | some X=>(match evo sl y with | some Y=>some (d,ie.size,X,Y) | none=>none)
       | none=>none)
      | none=>none)
     | _=>none)
    | none=>none)
   | _=>none)
  | none=>none)
 | false=>none
theorem oE {α β:Type} [Inhabited α] {a:Option β}{v:β}{f:α→PV}{l:List α}{cs:α→List PV}{X:AV}{sz:Nat}{i:IntKind}{j:Int}(h:ck ((0:Int)≤j∧j < (l.length:Int)) a=some v)(hcs:∀ x,(f x).cells=cs x)(hb:atF C ops o sl=some (d,sz,X,.p (.val (.int i j))))(hX:X.elems? = some (l.map f))(hsz:∀ x,(cs x).length=sz)
  (H:(0:Int)≤j∧j < (l.length:Int)→a=some v→M C Q ⟨.op ops r,k,⟨(d,.rptr (cs (lat l j)))::sl,ob⟩⟩):M C Q ⟨.op ops (o::r),k,⟨sl,ob⟩⟩:=by
 obtain ⟨h1,h2⟩:=kz h
 unfold atF at hb
 split at hb
 ·rename_i hg
  split at hb
  ·rename_i e hd
   split at hb
   ·rename_i t X Y ho
    split at hb
    ·rename_i i hi
     split at hb
     ·rename_i hk
      split at hb
      ·rename_i ie hie
       split at hb
       ·rename_i hx
        split at hb
        ·rename_i hy; cases hb; exact mO hg (vU cs ho (jq hd).1 (jq hd).2 hi hk hie hx hX hy h1 hcs hsz (H h1 h2))
        ·cases hb
       ·cases hb
      ·cases hb
     ·cases hb
    ·cases hb
   ·cases hb
  ·cases hb
 ·cases hb
def clF (C:Cx)(ops:Array Oper)(o:Oper)(sl:List (Nat×AV)):Option (Nat×FuncId×List AV):=match gF ops o sl with
 | true=>(match dsF C.n o with
  | some d=>(match o.op with
   | .call ⟨.value (.func f),args,_⟩=>(match lm sl args.toList with
    | some l=>some (d,f,l)
    | none=>none)
   | _=>none)
  | none=>none)
 | false=>none
theorem oK {f:FuncId}{l:List AV}{q:List PV}{x x':AV}(hc:aw C.P f q (·=x))(hb:clF C ops o sl=some (d,f,l))(hq:wQ l q)(henter:∀ vs w,(callFunc f vs).run C.P w=.ok (.enter f vs) w)(hr:x.settle=some x')
  (H:M C Q ⟨.op ops r,k,⟨(d,x')::sl,ob⟩⟩):M C Q ⟨.op ops (o::r),k,⟨sl,ob⟩⟩:=by
 unfold clF at hb
 split at hb
 ·rename_i hg
  split at hb
  ·rename_i e hd
   split at hb
   ·rename_i f' args ts ho
    split at hb
    ·rename_i l' hl; cases hb; exact mO hg (b6 hc ho (jq hd).1 (jq hd).2 hl hq henter hr H)
    ·cases hb
   ·cases hb
  ·cases hb
 ·cases hb
def tO:Operand→List Nat→List Nat
 | .tmp t,l=>t::l
 | _,l=>l
def tOs:List Operand→List Nat
 | []=>[]
 | x::r=>tO x (tOs r)
def tms (o:Oper):List Nat:=match o.op with
 | .move x=>tO x []
 | .assign x=>tO x []
 | .pick c x y=>tO c (tO x (tO y []))
 | .binOp _ _ x y _=>tO x (tO y [])
 | .unOp _ _ x=>tO x []
 | .fieldAddr _ x _=>tO x []
 | .load _ x=>tO x []
 | .nilCheck x=>tO x []
 | .extract x _=>tO x []
 | .field _ x _=>tO x []
 | .convert _ _ x=>tO x []
 | .build _ parts=>tOs (parts.toList.map (·.2))
 | .call c=>tOs c.args.toList
 | _=>[]
def gdT (ops:Array Oper)(o:Oper)(l:List Nat):List Nat:=match o.guard with
 | some (j,_)=>(match (ops.toList[j]?).bind (·.dst) with
  | some t=>t::l
  | none=>l)
 | none=>l
def knL (base:List (Nat×AV))(o:Oper)(rev:Rev):List Nat→List (Nat×AV)
 | []=>[]
 | i::r=>(match knX base o rev i with
  | some x=>(i,x)::knL base o rev r
  | none=>knL base o rev r)
theorem xL {base:List (Nat×AV)}{rev:Rev}:∀ {l:List Nat},yX base o rev (knL base o rev l)
 | []=>trivial
 | i::r=>by
  unfold knL
  split
  ·rename_i x hx; exact ⟨Aa hx,xL⟩
  ·exact xL
theorem lj {kn:List (Nat×AV)}(hs:∀ i x,look kn i=some x→look sl i=some x)(x:Operand):evo kn x=none∨evo kn x=evo sl x:=by
 cases h:evo kn x with
 | none=>exact .inl rfl
 | some y=>exact .inr (ip hs h).symm
theorem uQ {kn:List (Nat×AV)}(hs:∀ i x,look kn i=some x→look sl i=some x):∀ {l:List (Nat×Operand)} {ps:List (Nat×AV)},eO kn l=some ps→eO sl l=some ps
 | [],ps,h=>h
 | (i,x)::r,ps,h=>by
  unfold eO at h ⊢
  split at h
  ·rename_i y l hy hl; cases h; rw [ip hs hy,uQ hs hl]
  ·cases h
theorem Bh {kn:List (Nat×AV)}{y:AV}(hs:∀ i x,look kn i=some x→look sl i=some x)(h:opV C o kn ob=some y):opV C o sl ob=some y:=by
 unfold opV at h ⊢
 split at h
 ·exact ip hs h
 ·exact ip hs h
 ·rename_i c x y _
  rcases lj hs c with e | e
  ·rw [e] at h; cases h
  ·rw [← e]
   generalize evo kn c=z at h
   unfold pkP at h ⊢
   split at h
   ·exact ip hs h
   ·exact ip hs h
   ·cases h
 ·rename_i op t x y _ _
  rcases lj hs x with e | e
  ·rw [e] at h; cases h
  ·rw [← e]
   rcases lj hs y with e | e
   ·rw [e] at h
    unfold bnP at h
    split at h
    ·rename_i h2; cases h2
    ·rename_i h2; cases h2
    ·cases h
   ·rw [← e]; exact h
 ·rename_i x _; rcases lj hs x with e | e
  ·rw [e] at h; cases h
  ·rw [← e]; exact h
 ·rename_i t x f _; rcases lj hs x with e | e
  ·rw [e] at h; unfold faP at h; (repeat' split at h) <;> first | contradiction | cases h
  ·rw [← e]; exact h
 ·rename_i t x _; rcases lj hs x with e | e
  ·rw [e] at h; unfold ldP at h; split at h <;> cases h
  ·rw [← e]; exact h
 ·rename_i x _; rcases lj hs x with e | e
  ·rw [e] at h; cases h
  ·rw [← e]; exact h
 ·rename_i x n _; rcases lj hs x with e | e
  ·rw [e] at h; cases h
  ·rw [← e]; exact h
 ·rename_i t x f _; rcases lj hs x with e | e
  ·rw [e] at h; unfold flP at h; (repeat' split at h) <;> first | contradiction | cases h
  ·rw [← e]; exact h
 ·rename_i s t x _; rcases lj hs x with e | e
  ·rw [e] at h; unfold cvP at h; (repeat' split at h) <;> first | contradiction | cases h
  ·rw [← e]; exact h
 ·rename_i t parts _
  cases e:eO kn parts.toList with
  | none=>rw [e] at h; unfold buP at h; (repeat' split at h) <;> first | contradiction | cases h
  | some ps=>rw [e] at h; rw [uQ hs e]; exact h
 ·rename_i c _
  unfold laP at h ⊢
  split at h
  ·rename_i x t _
   rcases lj hs x with e | e
   ·rw [e] at h; (repeat' split at h) <;> first | contradiction | cases h
   ·rw [← e]; exact h
  ·cases h
 ·cases h
def oV (C:Cx)(ops:Array Oper)(o:Oper)(sl:List (Nat×AV))(ob:List (Nat×List AV)):Option AV:=match o.guard with
 | none=>opV C o sl ob
 | some _=>(match gdF ops o sl with
  | some (true,.p (.val (.bool true)))=>opV C o sl ob
  | some (true,.p (.val (.bool false)))=>some (.p (.val Go.undef))
  | some (false,.p (.val (.bool true)))=>some (.p (.val Go.undef))
  | some (false,.p (.val (.bool false)))=>opV C o sl ob
  | some (_,.p (.val v))=>(match isU v with | true=>some (.p (.val Go.undef)) | false=>none)
  | _=>none)
def drF (C:Cx)(ops:Array Oper)(base:List (Nat×AV))(ob:List (Nat×List AV))(o:Oper)(rev:Rev):Option (Nat×AV):=match nwF base rev o with
 | some d=>(match Nat.blt d C.n with
  | true=>(match oV C ops o (knL base o rev (gdT ops o (tms o))) ob with
   | some y=>some (d,y)
   | none=>none)
  | false=>none)
 | none=>none
theorem C1 {kn:List (Nat×AV)}{y:AV}(h:oV C ops o kn ob=some y)(hd:o.dst=some d)(hn:Nat.blt d C.n=true):rt C ops ob o kn d y:=by
 intro sl hs K hK
 unfold oV at h
 split at h
 ·rename_i hg; exact ay hg (tv (Bh hs h) hd hn hK)
 ·generalize hgd:gdF ops o kn=G at h
  have yes:∀ {w:Bool},gdF ops o kn=some (w,.p (.val (.bool w)))→opV C o kn ob=some y→One C ops o K ⟨sl,ob⟩:=λ hgd h=>by
   obtain ⟨j,t,hg,hj,hv⟩:=rh hgd
   exact cm (tv (Bh hs h) hd hn hK) hg hj (hs _ _ hv) rfl
  have no:∀ {w b:Bool},gdF ops o kn=some (w,.p (.val (.bool b)))→b=(!w)→y=.p (.val Go.undef)→One C ops o K ⟨sl,ob⟩:=λ hgd hb h=>by
   subst h
   obtain ⟨j,t,hg,hj,hv⟩:=rh hgd
   exact BQ hg hj (hs _ _ hv) hb hd hn hK
  split at h
  ·exact yes hgd h
  ·cases h; exact no hgd rfl rfl
  ·cases h; exact no hgd rfl rfl
  ·exact yes hgd h
  ·split at h
   ·rename_i hu
    have:=Bf hu; subst this
    cases h
    obtain ⟨j,t,hg,hj,hv⟩:=rh hgd
    exact BL hg hj (hs _ _ hv) hd hn hK
   ·cases h
  ·cases h
def drw (C:Cx)(ops:Array Oper)(base:List (Nat×AV))(ob:List (Nat×List AV)):Nat→List Oper→Nat→Rev→Option (List Oper×Nat×Rev)
 | 0,l,i,rev=>some (l,i,rev)
 | n+1,o::l,i,rev=>(match drF C ops base ob o rev with
  | some (d,y)=>drw C ops base ob n l (i+1) ((i,d,y)::rev)
  | none=>none)
 | _+1,[],_,_=>none
theorem dR {base:List (Nat×AV)}:∀ (n:Nat) {l l':List Oper} {i i':Nat} {rev rev':Rev},drw C ops base ob n l i rev=some (l',i',rev')→DQ C ops base ob K l' i' rev'→DQ C ops base ob K l i rev
 | 0,l,l',i,i',rev,rev',h,hK=>by cases h; exact hK
 | n+1,[],l',i,i',rev,rev',h,hK=>by cases h
 | n+1,o::l,l',i,i',rev,rev',h,hK=>by
  unfold drw at h
  split at h
  ·rename_i d y hd
   unfold drF at hd
   split at hd
   ·rename_i e he
    split at hd
    ·rename_i hn
     split at hd
     ·rename_i z hz
      cases hd
      exact yi y _ xL (C1 hz (pB he).1 hn) (pB he).1 (pB he).2.1 (pB he).2.2 (dR n h hK)
     ·cases hd
    ·cases hd
   ·cases hd
  ·cases h
theorem mD (base:List (Nat×AV)){id:Nat}(hm:C.P.follows .mixedOrders=true)(hb:gb sl base)(hord:(ops.toList.zipIdx.all λ p=>p.1.after.toList.all λ e=>!(Region.binds .any e)||Nat.blt e.on p.2)=true)
  (h:DQ C ops base ob (λ s'=>M C Q ⟨.ex .normal,k,s'⟩) ops.toList 0 []):M C Q ⟨.cd (.region id ops true),k,⟨sl,ob⟩⟩:=yL base hm hb hord h
def Cp:Rev→List (Nat×AV)→Option (List (Nat×AV))
 | [],b=>some b
 | (_,p)::r,b=>(match Cp r b with | some l=>some (p::l) | none=>none)
theorem yz:∀ {rev:Rev} {b l:List (Nat×AV)},Cp rev b=some l→l=nB rev++b
 | [],b,l,h=>by cases h; rfl
 | (i,p)::r,b,l,h=>by
  unfold Cp at h
  split at h
  ·rename_i m hm; cases h; rw [yz hm]; rfl
  ·cases h
theorem dE {base l:List (Nat×AV)}{i:Nat}{rev:Rev}(h:Cp rev base=some l)(hM:M C Q ⟨.ex .normal,k,⟨l,ob⟩⟩):DQ C ops base ob (λ s'=>M C Q ⟨.ex .normal,k,s'⟩) [] i rev :=
 Dm (by rw [← yz h]; exact hM)
theorem dL {base:List (Nat×AV)}{l:List Oper}{i:Nat}{rev:Rev}{q b:Bool}(hb:q=b)(h:drF C ops base ob o rev=some (d,.p (.val (.bool q))))(hK:DQ C ops base ob K l (i+1) ((i,d,.p (.val (.bool b)))::rev)):DQ C ops base ob K (o::l) i rev:=by
 subst hb
 refine dR 1 (l':=l) (i':=i+1) (rev':=(i,d,.p (.val (.bool q)))::rev) ?_ hK
 simp only [drw,h]
theorem mS (S:fX){id:Nat}(hm:C.P.follows .mixedOrders=true)(hlen:S.imp.length=S.m)(hob:S.obj 0=ob)(hb:gb sl (S.bas 0))
  (hbas:∀ j,j < S.m→gb (trL (S.D j) (S.bas j)) (S.bas (j+1))) (hnd:nodupB S.imp=true) (hin:S.imp.all (λ i=>Nat.blt i ops.size)=true) (hch:chainB ops S.imp=true)
  (hord:(ops.toList.zipIdx.all λ p=>p.1.after.toList.all λ e=>!(Region.binds .any e)||Nat.blt e.on p.2)=true) (h:DS C ops S (λ rev=>M C Q ⟨.ex .normal,k,⟨fR rev S.m++S.bas S.m,S.obj S.m⟩⟩) ops.toList 0 []):M C Q ⟨.cd (.region id ops true),k,⟨sl,ob⟩⟩ :=
 zQ S hm hlen hob hb hbas hnd hin hch hord h
def lkO (ob:List (Nat×List AV)):List Nat→Option (List (List AV))
 | []=>some []
 | t::r=>(match look ob t with
  | some x=>(match lkO ob r with | some l=>some (x::l) | none=>none)
  | none=>none)
theorem xQ {sl:List (Nat×AV)}:∀ {q:List (Nat×AV)},lks sl (q.map (·.1))=some (q.map (·.2))→∀ j x,look q j=some x→look sl j=some x
 | [],_,j,x,h=>by cases h
 | (i,y)::r,hT,j,x,h=>by
  simp only [List.map_cons] at hT
  unfold lks at hT
  split at hT
  ·rename_i z hz
   split at hT
   ·rename_i l hl
    simp only [Option.some.injEq,List.cons.injEq] at hT
    rw [aY] at h
    split at h
    ·rename_i e; subst e; cases h; rw [hz,hT.1]
    ·exact xQ (hl.trans (congrArg some hT.2)) j x h
   ·cases hT
  ·cases hT
theorem BI {ob:List (Nat×List AV)}:∀ {q:List (Nat×List AV)},lkO ob (q.map (·.1))=some (q.map (·.2))→∀ j x,look q j=some x→look ob j=some x
 | [],_,j,x,h=>by cases h
 | (i,y)::r,hT,j,x,h=>by
  simp only [List.map_cons] at hT
  unfold lkO at hT
  split at hT
  ·rename_i z hz
   split at hT
   ·rename_i l hl
    simp only [Option.some.injEq,List.cons.injEq] at hT
    rw [aY] at h
    split at h
    ·rename_i e; subst e; cases h; rw [hz,hT.1]
    ·exact BI (hl.trans (congrArg some hT.2)) j x h
   ·cases hT
  ·cases hT
def lkE (a b:List (Nat×List AV)):List (Nat×List AV)→Prop
 | []=>True
 | (i,_)::r=>look b i=look a i∧lkE a b r
theorem A1 {a b:List (Nat×List AV)}:∀ {l:List (Nat×List AV)},lkE a b l→∀ i x,look l i=some x→look b i=look a i
 | [],_,i,x,h=>by cases h
 | (j,y)::r,⟨h1,h2⟩,i,x,h=>by
  rw [aY] at h
  by_cases e:j=i
  ·subst e; exact h1
  ·rw [if_neg e] at h; exact A1 h2 i x h
theorem DU {C:Cx}{ops:Array Oper}{S1 S2:fX}{k:Nat}{r1 r2:fZ}{imp:List Nat}(h1:lks (fR r2 S2.m++S2.bas S2.m) ((fR r1 S1.m++S1.bas S1.m).map (·.1))=some ((fR r1 S1.m++S1.bas S1.m).map (·.2)))
  (h2:lkE (S1.obj S1.m) (S2.obj S2.m) (S1.obj S1.m)) (h3:qD imp r1 r2) :
  DS C ops S2 (λ rev2=>(⟨fR rev2 S2.m++S2.bas S2.m,S2.obj S2.m⟩:AS).le ⟨fR r1 S1.m++S1.bas S1.m,S1.obj S1.m⟩∧qD imp r1 rev2) [] k r2:=by
 refine ⟨⟨λ j x h=>?_,λ id cs h=>⟨cs,(A1 h2 id cs h).trans h,Nat.le_refl _,λ i c d a b=>by rw [a] at b; cases b; exact AV.sub_refl _⟩⟩,h3⟩
 have:=xQ h1 j x h
 unfold AS.get
 rw [this]
 exact AV.sub_refl _
theorem mSS {C:Cx}{Q:Exit→AS→Prop}{k:List Fr}{ops:Array Oper}{sl:List (Nat×AV)}{ob:List (Nat×List AV)}(S1 S2:fX){id k1 k2:Nat}{r:List Nat}(hm:C.P.follows .mixedOrders=true)
  (hi1:S1.imp=k1::k2::r) (hi2:S2.imp=k2::k1::r) (hlen1:S1.imp.length=S1.m) (hlen2:S2.imp.length=S2.m) (hob1:S1.obj 0=ob) (hob2:S2.obj 0=ob) (hb:gb sl (S1.bas 0)) (hb2:S2.bas 0=S1.bas 0)
  (hbas1:∀ j,j < S1.m→gb (trL (S1.D j) (S1.bas j)) (S1.bas (j+1))) (hbas2:∀ j,j < S2.m→gb (trL (S2.D j) (S2.bas j)) (S2.bas (j+1)))
  (hnd:nodupB (k1::k2::r)=true) (hin:(k1::k2::r).all (λ i=>Nat.blt i ops.size)=true) (hch1:chainB ops (k1::r)=true) (hch2:chainB ops (k2::r)=true)
  (hord:(ops.toList.zipIdx.all λ p=>p.1.after.toList.all λ e=>!(Region.binds .any e)||Nat.blt e.on p.2)=true)
  (h:DS C ops S1 (λ rev1=>M C Q ⟨.ex .normal,k,⟨fR rev1 S1.m++S1.bas S1.m,S1.obj S1.m⟩⟩∧DS C ops S2 (λ rev2=>(⟨fR rev2 S2.m++S2.bas S2.m,S2.obj S2.m⟩:AS).le ⟨fR rev1 S1.m++S1.bas S1.m,S1.obj S1.m⟩∧qD (k1::k2::r) rev1 rev2) ops.toList 0 []) ops.toList 0 []) :
  M C Q ⟨.cd (.region id ops true),k,⟨sl,ob⟩⟩ :=
 xt S1 S2 hm hi1 hi2 hlen1 hlen2 hob1 hob2 hb hb2 hbas1 hbas2 hnd hin hch1 hch2 hord h
theorem gE {s t:AS}(h1:lks s.sl (t.sl.map (·.1))=some (t.sl.map (·.2)))(h2:lkO s.ob (t.ob.map (·.1))=some (t.ob.map (·.2))):dD C s t :=
 aW ⟨λ j x hx=>by
  have:=xQ h1 j x hx
  simp only [AS.get,this,Option.getD_some]; exact AV.sub_refl x,λ id cs h=>⟨cs,BI h2 id cs h,Nat.le_refl _,λ i c d hc hd=>by rw [hc] at hd; cases hd; exact AV.sub_refl _⟩⟩
theorem mP {β:Type}{v0:β}{tt:List (Nat×TI)}{fn:Func}{c:Code}(mk:β→AV)(h:M C (λ e s=>∃ v,v=v0∧zX tt fn (λ x=>x.sub (mk v)) e s) ⟨.cd c,[],s⟩):awp C c (zX tt fn (λ x=>x.sub (mk v0))) s :=
 nJ (λ e s h=>by obtain ⟨t,h1,v,rfl,h2⟩:=h; exact ⟨t,h1,h2⟩) h |> xU
theorem mQ {β:Type}{v v0:β}{tt:List (Nat×TI)}{fn:Func}{mk:β→AV}{l:List AV}(e:v=v0)(h:mK tt fn.results.toList s=some l)(hR:(mw l).sub (mk v)):M C (λ e s=>∃ v,v=v0∧zX tt fn (λ x=>x.sub (mk v)) e s) ⟨.ex .ret,[],s⟩ :=
 ⟨s,bM s,v,e,nf h hR⟩
theorem mPo {β:Type}{v0:β}{tt:List (Nat×TI)}{fn:Func}{ts ids:List Nat}{c:Code}(mk:β→AV)(mo:β→List (Nat×List AV))(h:M C (λ e s=>∃ v,v=v0∧vO C tt fn ts ids (mk v) (mo v) e s) ⟨.cd c,[],s⟩):awp C c (vO C tt fn ts ids (mk v0) (mo v0)) s :=
 nJ (λ e s h=>by obtain ⟨t,h1,v,rfl,h2⟩:=h; exact ⟨t,h1,h2⟩) h |> xU
theorem mQo {β:Type}{v v0:β}{tt:List (Nat×TI)}{fn:Func}{ts ids:List Nat}{mk:β→AV}{mo:β→List (Nat×List AV)}{r1:AV}{obs obs':List (Nat×List AV)}{t:AS}{l:List AV}(e:v=v0)(hg:dD C s t)(h1:mK tt fn.results.toList t=some l)(h2:(mw l).mapA (jF ts)=some r1)
  (h3:gp t.ob ids=some obs) (h4:gN (jF ts) obs=some obs') (h5:r1.sub (mk v)) (h6:leO obs' (mo v)):M C (λ e s=>∃ v,v=v0∧vO C tt fn ts ids (mk v) (mo v) e s) ⟨.ex .ret,[],s⟩ :=
 ⟨s,bM s,v,e,og hg h1 h2 h3 h4 h5 h6⟩
theorem Bn {β:Type}{v v0:β}{tt:List (Nat×TI)}{fn:Func}{ts ids:List Nat}{mk:β→AV}{mo:β→List (Nat×List AV)}{r1:AV}{obs obs':List (Nat×List AV)}{t:AS}{l:List AV}(e:v=v0)(hg:dD C s t)(h1:mK tt fn.results.toList t=some l)(h2:(mw l).mapA (jF ts)=some r1)
  (h3:gp t.ob ids=some obs) (h4:gN (jF ts) obs=some obs') (h5:r1.sub (mk v)) (h6:leO obs' (mo v)):M C (λ e s=>∃ v,v=v0∧vO C tt fn ts ids (mk v) (mo v) e s) ⟨.ex .normal,[],s⟩ :=
 ⟨s,bM s,v,e,BV hg h1 h2 h3 h4 h5 h6⟩
theorem kN {c:Code}{σ:Type}(w:σ)(mk:σ→AS)(h2:M C Q ⟨.ex .normal,k,mk w⟩)(h1:M C Q ⟨.cd c,.jo (λ t=>∃ v,w=v∧t=mk v)::k,s⟩):M C Q ⟨.cd c,k,s⟩ :=
 kX (λ v=>w=v) mk (λ _ e=>e ▸ h2) h1
theorem kE (id:Nat){c:Code}{σ:Type}(w:σ)(mk:σ→AS)(h2:M C Q ⟨.ex (.exit id),k,mk w⟩)(h1:M C Q ⟨.cd c,.je id (λ t=>∃ v,w=v∧t=mk v)::k,s⟩):M C Q ⟨.cd c,k,s⟩ :=
 kEx id (λ v=>w=v) mk (λ _ e=>e ▸ h2) h1
end
end Go.Ab
namespace Go.Ab
/- What holds no identity is not touched by the marks of a box or a new object. -/
mutual
theorem Co {D:Nat→Bool}:∀ {x y:AV},AV.mapA (λ _=>none) x=some y→y=x→x.dem D=x
 | .undef,_,_,_=>rfl
 | .p _,_,_,_=>rfl
 | .vec ..,y,h,e=>by simp only [AV.mapA,Option.some.injEq] at h; subst h; cases e
 | .arr ..,_,h,_=>by simp only [AV.mapA] at h; cases h
 | .ptr ..,_,h,_=>by simp only [AV.mapA] at h; cases h
 | .bptr ..,_,h,_=>by simp only [AV.mapA] at h; cases h
 | .mp ..,_,h,_=>by simp only [AV.mapA] at h; cases h
 | .mpr ..,_,h,_=>by simp only [AV.mapA] at h; cases h
 | .stk ..,_,h,_=>by simp only [AV.mapA] at h; cases h
 | .sem _,_,h,_=>by simp only [AV.mapA] at h; cases h
 | .it ..,_,h,_=>by simp only [AV.mapA] at h; cases h
 | .vecp ..,_,h,_=>by simp only [AV.mapA] at h; cases h
 | .elp ..,_,h,_=>by simp only [AV.mapA] at h; cases h
 | .rptr _,_,_,_=>rfl
 | .agg cs,y,h,e=>by
  subst e
  simp only [AV.mapA] at h
  cases hl:AV.mapA.go (λ _=>none) cs with
  | none=>rw [hl] at h; cases h
  | some l=>rw [hl] at h; cases h; simp only [AV.dem]; exact congrArg _ (my hl rfl)
 | .tuple cs,y,h,e=>by
  subst e
  simp only [AV.mapA] at h
  cases hl:AV.mapA.go (λ _=>none) cs with
  | none=>rw [hl] at h; cases h
  | some l=>rw [hl] at h; cases h; simp only [AV.dem]; exact congrArg _ (my hl rfl)
 | .func f cs,y,h,e=>by
  subst e
  simp only [AV.mapA] at h
  cases hl:AV.mapA.go (λ _=>none) cs with
  | none=>rw [hl] at h; cases h
  | some l=>rw [hl] at h; cases h; simp only [AV.dem]; exact congrArg _ (my hl rfl)
theorem my {D:Nat→Bool}:∀ {l l':List AV},AV.mapA.go (λ _=>none) l=some l'→l'=l→kH D l=l
 | [],_,_,_=>rfl
 | x::r,l',h,e=>by
  subst e
  simp only [AV.mapA.go] at h
  split at h
  ·rename_i y z hy hz
   cases h
   simp only [kH,Co hy rfl,my hz rfl]
  ·cases h
end
theorem EC {C:List AV}(K:AV.mapA.go (λ _=>none) C=some C)(D:Nat→Bool):kH D C=C:=my K rfl
end Go.Ab
end
section
namespace Go.Ab
open Go
def tmO:Operand→List Nat
 | .tmp t=>[t]
 | _=>[]
def tmL:List (Nat×Operand)→List Nat
 | []=>[]
 | (_,x)::r=>tmO x++tmL r
def opR (o:Oper):List Nat:=match o.op with
 | .move x=>tmO x
 | .assign x=>tmO x
 | .pick c x y=>tmO c++(tmO x++tmO y)
 | .binOp _ _ x y _=>tmO x++tmO y
 | .unOp _ _ x=>tmO x
 | .fieldAddr _ x _=>tmO x
 | .load _ x=>tmO x
 | .nilCheck x=>tmO x
 | .extract x _=>tmO x
 | .field _ x _=>tmO x
 | .convert _ _ x=>tmO x
 | .build _ parts=>tmL parts.toList
 | .store _ x v=>tmO x++tmO v
 | _=>[]
def pp (o:Oper):Bool:=match o.op with
 | .call _=>false
 | _=>true
def knKS:fZ→Nat→Option Nat
 | [],_=>none
 | (k,d,_)::r,i=>bif Nat.beq d i then some k else knKS r i
def Dy (bas:List (Nat×AV))(o:Oper)(rev:fZ)(j i:Nat):Option AV:=match look bas i with
 | some x=>some x
 | none=>(match knKS rev i with
  | some k=>(match gR o k with
   | true=>(match da rev k with
    | some (i',v)=>(match Nat.beq i' i with
     | true=>some (v j)
     | false=>none)
    | none=>none)
   | false=>none)
  | none=>none)
def w6 (bas:List (Nat×AV))(o:Oper)(rev:fZ)(j:Nat):List Nat→List (Nat×AV)
 | []=>[]
 | i::r=>(match Dy bas o rev j i with
  | some x=>(i,x)::w6 bas o rev j r
  | none=>w6 bas o rev j r)
theorem CL {bas:List (Nat×AV)}{o:Oper}{rev:fZ}{j i:Nat}{x:AV}(h:Dy bas o rev j i=some x):look bas i=some x∨∃ k v,gR o k=true∧da rev k=some (i,v)∧v j=x:=by
 unfold Dy at h
 split at h
 ·rename_i y hy; cases h; exact .inl hy
 ·split at h
  ·rename_i k hk
   split at h
   ·rename_i hb
    split at h
    ·rename_i i' v hl
     split at h
     ·rename_i hi
      cases h
      exact .inr ⟨k,v,hb,by rw [hl,Nat.eq_of_beq_eq_true hi],rfl⟩
     ·cases h
    ·cases h
   ·cases h
  ·cases h
theorem oD {bas:List (Nat×AV)}{o:Oper}{rev:fZ}{j:Nat}:∀ (l:List Nat),KnS bas o rev j (w6 bas o rev j l)
 | []=>trivial
 | i::r=>by
  unfold w6
  split
  ·rename_i x hx; exact ⟨CL hx,oD r⟩
  ·exact oD r
section
variable {kn sl:List (Nat×AV)} {ob:List (Nat×List AV)} {C:Cx} {o:Oper}
theorem xM {F:Option AV→Option AV}{x:Operand}{y:AV}(hs:∀ i x,look kn i=some x→look sl i=some x)(hF:F none=none)(h:F (evo kn x)=some y):F (evo sl x)=some y:=by
 cases hx:evo kn x with
 | none=>rw [hx,hF] at h; cases h
 | some v=>rw [hx] at h; rw [ip hs hx]; exact h
theorem Cr {c x y:Operand}{z:AV}(hs:∀ i x,look kn i=some x→look sl i=some x)(h:pkP kn x y (evo kn c)=some z):pkP sl x y (evo sl c)=some z:=by
 cases hc:evo kn c with
 | none=>rw [hc] at h; cases h
 | some v =>
  rw [hc] at h
  rw [ip hs hc]
  unfold pkP at h ⊢
  split at h
  ·exact ip hs h
  ·exact ip hs h
  ·cases h
theorem CI {op:BinOp}{t:TypeId}(Y:Option AV):bnP C op t none Y=none:=by
 unfold bnP
 split <;> first | rfl | contradiction | (rename_i h _; cases h) | (rename_i h; cases h)
theorem AC {op:BinOp}{t:TypeId}(X:Option AV):bnP C op t X none=none:=by
 unfold bnP
 split <;> first | rfl | contradiction | (rename_i h _; cases h) | (rename_i h; cases h)
theorem CN {op:BinOp}{t:TypeId}{x y:Operand}{z:AV}(hs:∀ i x,look kn i=some x→look sl i=some x)(h:bnP C op t (evo kn x) (evo kn y)=some z):bnP C op t (evo sl x) (evo sl y)=some z:=by
 cases hx:evo kn x with
 | none=>rw [hx,CI] at h; cases h
 | some v =>
  cases hy:evo kn y with
  | none=>rw [hy,AC] at h; cases h
  | some u =>
   rw [hx,hy] at h
   rw [ip hs hx,ip hs hy]; exact h
theorem tJ (hs:∀ i x,look kn i=some x→look sl i=some x):∀ {ps:List (Nat×Operand)} {l:List (Nat×AV)},eO kn ps=some l→eO sl ps=some l
 | [],l,h=>h
 | (i,x)::r,l,h=>by
  unfold eO at h ⊢
  cases hx:evo kn x with
  | none=>rw [hx] at h; cases h
  | some v =>
   cases hr:eO kn r with
   | none=>rw [hx,hr] at h; cases h
   | some m =>
    rw [hx,hr] at h
    rw [ip hs hx,tJ hs hr]; exact h
theorem Cg {t f:Nat}:faP C t f none=none:=by
 unfold faP
 repeat' split
 all_goals first | rfl | contradiction
theorem CR {t:Nat}:ldP C ob t none=none:=by
 unfold ldP
 repeat' split
 all_goals first | rfl | contradiction
theorem CF {t f:Nat}:flP C t f none=none:=by
 unfold flP
 repeat' split
 all_goals first | rfl | contradiction
theorem C4 {t f:Nat}:cvP C t f none=none:=by
 unfold cvP
 repeat' split
 all_goals first | rfl | contradiction
theorem B9 {t:Nat}:buP C t none=none:=by
 unfold buP
 repeat' split
 all_goals first | rfl | contradiction
theorem Cn {t:Nat}{ps:List (Nat×Operand)}{y:AV}(hs:∀ i x,look kn i=some x→look sl i=some x)(h:buP C t (eO kn ps)=some y):buP C t (eO sl ps)=some y:=by
 cases hp:eO kn ps with
 | none=>rw [hp,B9] at h; cases h
 | some l=>rw [hp] at h; rw [tJ hs hp]; exact h
theorem wl {y:AV}(hs:∀ i x,look kn i=some x→look sl i=some x)(hc:pp o=true)(h:opV C o kn ob=some y):opV C o sl ob=some y:=by
 unfold opV pp at *
 cases ho:o.op <;> simp only [ho] at h hc ⊢
 all_goals first
  | (cases h; done)
  | exact ip hs h
  | exact Cr hs h
  | exact CN hs h
  | exact xM (F:=faP C _ _) hs Cg h
  | exact xM (F:=ldP C ob _) hs CR h
  | exact xM (F:=ncP) hs rfl h
  | exact xM (F:=xtP _) hs rfl h
  | exact xM (F:=flP C _ _) hs CF h
  | exact xM (F:=cvP C _ _) hs C4 h
  | exact Cn hs h
  | (cases hc; done)
  | skip
 all_goals (rename_i op _ _; cases op <;> simp only at h ⊢)
 all_goals first
  | (cases h; done)
  | exact xM (F:=ntP) hs rfl h
def stV (C:Cx)(o:Oper)(kn:List (Nat×AV))(ob:List (Nat×List AV)):Option (List (Nat×List AV)):=match o.op with
 | .store t x v=>(match look C.tt t with
  | some i=>(match evo kn x with
   | some (.ptr id k)=>(match evo kn v with
    | some y=>(match y.cellsA with
     | some xs=>(match Nat.beq xs.length i.size with
      | true=>(match look ob id with
       | some cs=>(match Nat.ble (k+xs.length) cs.length with
        | true=>some ((id,qn cs k xs)::ob)
        | false=>none)
       | none=>none)
      | false=>none)
     | none=>none)
    | none=>none)
   | _=>none)
  | none=>none)
 | _=>none
theorem Dl {ops:Array Oper}{ob':List (Nat×List AV)}{K:AS→Prop}(h:stV C o kn ob=some ob')(hg:o.guard=none)(hd:o.dst=none)(hs:∀ i x,look kn i=some x→look sl i=some x)(hK:K ⟨sl,ob'⟩):One C ops o K ⟨sl,ob⟩:=by
 unfold stV at h
 split at h
 ·rename_i t x v ho
  split at h
  ·rename_i i hi
   split at h
   ·rename_i id k hx
    split at h
    ·rename_i y hv
     split at h
     ·rename_i xs hc
      split at h
      ·rename_i hsz
       split at h
       ·rename_i cs hob
        split at h
        ·rename_i hl
         cases h
         exact ay hg (nG ho hd hi (ip hs hx) (ip hs hv) hc (Nat.eq_of_beq_eq_true hsz) hob (Nat.le_of_ble_eq_true hl) hK)
        ·cases h
       ·cases h
      ·cases h
     ·cases h
    ·cases h
   ·cases h
  ·cases h
 ·cases h
end
section
variable {C:Cx} {ops:Array Oper} {S:fX} {K:fZ→Prop} {o:Oper} {k:Nat} {rev:fZ} {d:Nat}
def sV (C:Cx)(ops:Array Oper)(S:fX)(o:Oper)(R:List Nat)(k:Nat)(rev:fZ)(v:Nat→AV)(j:Nat):Option AV:=match mY ops S.imp o k j with
 | true=>opV C o (w6 (S.bas j) o rev j R) (S.obj j)
 | false=>some (v j)
def sL (C:Cx)(ops:Array Oper)(S:fX)(o:Oper)(R:List Nat)(k:Nat)(rev:fZ)(v:Nat→AV):Nat→List (Option AV)
 | 0=>[]
 | j+1=>sV C ops S o R k rev v j::sL C ops S o R k rev v j
def gL (ops:Array Oper)(S:fX)(o:Oper)(R:List Nat)(k:Nat)(rev:fZ)(t:Nat)(x:AV):Nat→List (Option AV)
 | 0=>[]
 | j+1=>(match mY ops S.imp o k j with
  | true=>look (w6 (S.bas j) o rev j R) t
  | false=>some x)::gL ops S o R k rev t x j
def vL (v:Nat→AV):Nat→List (Option AV)
 | 0=>[]
 | j+1=>some (v j)::vL v j
theorem C8 {v:Nat→AV}(hg:o.guard=none)(hd:o.dst=some d)(hn:Nat.blt d C.n=true)(hc:pp o=true):∀ {m:Nat},sL C ops S o (opR o) k rev v m=vL v m→Stg C ops S o k rev d v m
 | 0,_=>trivial
 | j+1,h=>by
  have h1:sV C ops S o (opR o) k rev v j=some (v j):=(List.cons.inj h).1
  refine ⟨λ ha=>?_,C8 hg hd hn hc (List.cons.inj h).2⟩
  unfold sV at h1
  rw [ha] at h1
  exact ⟨_,oD _,λ sl hs K hK=>ay hg (tv (wl hs hc h1) hd hn hK)⟩
def cL (S:fX)(d:Nat):Nat→List (Option AV)
 | 0=>[]
 | j+1=>look (S.bas j) d::cL S d j
def nL:Nat→List (Option AV)
 | 0=>[]
 | j+1=>none::nL j
def aL (v:Nat→AV):Nat→List AV
 | 0=>[]
 | j+1=>v (j+1)::aL v j
def bL (S:fX)(v:Nat→AV):Nat→List AV
 | 0=>[]
 | j+1=>trA (S.D j) (v j)::bL S v j
theorem Ae:∀ {m:Nat},cL S d m=nL m→∀ j,j < m→look (S.bas j) d=none
 | 0,_,j,h=>absurd h (Nat.not_lt_zero _)
 | m+1,h,j,hj=>by
  by_cases e:j=m
  ·subst e; exact (List.cons.inj h).1
  ·exact Ae (List.cons.inj h).2 j (by omega)
theorem yy {v:Nat→AV}:∀ {m:Nat},aL v m=bL S v m→∀ j,j < m→v (j+1)=trA (S.D j) (v j)
 | 0,_,j,h=>absurd h (Nat.not_lt_zero _)
 | m+1,h,j,hj=>by
  by_cases e:j=m
  ·subst e; exact (List.cons.inj h).1
  ·exact yy (List.cons.inj h).2 j (by omega)
theorem dP {rest:List Oper}(v:Nat→AV)
  (e:(o.dst,S.imp.findIdx? (Nat.beq k),o.guard,pp o,(rev.all λ p=>!(Nat.beq p.2.1 d)),Nat.blt d C.n,cL S d S.m,(λ j=>look (S.bas (j+S.m)) d),aL v S.m,sL C ops S o (opR o) k rev v (S.m+1))=(some d,none,none,true,true,true,nL S.m,(λ _=>none),bL S v S.m,vL v (S.m+1)))
  (h:DS C ops S K rest (k+1) ((k,d,v)::rev)):DS C ops S K (o::rest) k rev:=by
 simp only [Prod.mk.injEq] at e
 obtain ⟨e1,e2,e3,e4,e5,e6,e7,e8,e9,e10⟩:=e
 refine bs v e2 e1 e5 (λ j=>?_) (yy e9) (C8 e3 e1 e6 e4 e10) h
 by_cases hj:j < S.m
 ·exact Ae e7 j hj
 ·have:look (S.bas (j - S.m+S.m)) d=none:=congrFun e8 (j - S.m)
  rwa [show j - S.m+S.m=j by omega] at this
theorem dPc {rest:List Oper}(y:AV)
  (e:(o.dst,S.imp.findIdx? (Nat.beq k),o.guard,pp o,(rev.all λ p=>!(Nat.beq p.2.1 d)),Nat.blt d C.n,cL S d S.m,(λ j=>look (S.bas (j+S.m)) d),aL (λ _=>y) S.m,sL C ops S o (opR o) k rev (λ _=>y) (S.m+1))=(some d,none,none,true,true,true,nL S.m,(λ _=>none),bL S (λ _=>y) S.m,vL (λ _=>y) (S.m+1)))
  (h:DS C ops S K rest (k+1) ((k,d,λ _=>y)::rev)):DS C ops S K (o::rest) k rev:=dP (λ _=>y) e h
theorem dS {rest:List Oper}{i:Nat}
  (e:(S.imp.findIdx? (Nat.beq k),o.dst,o.guard,S.D i,stV C o (w6 (S.bas i) o rev i (opR o)) (S.obj i))=(some i,none,none,Tr.none,some (S.obj (i+1))))
  (h:DS C ops S K rest (k+1) rev):DS C ops S K (o::rest) k rev:=by
 simp only [Prod.mk.injEq] at e
 obtain ⟨e1,e2,e3,e4,e5⟩:=e
 refine qj _ e1 (oD (opR o)) e2 (λ sl hs K hK=>?_) h
 rw [e4] at hK
 exact Dl e5 e3 e2 hs hK
theorem AD (e7:cL S d S.m=nL S.m)(e8:(λ j=>look (S.bas (j+S.m)) d)=λ _=>none)(j:Nat):look (S.bas j) d=none:=by
 by_cases hj:j < S.m
 ·exact Ae e7 j hj
 ·have:look (S.bas (j - S.m+S.m)) d=none:=congrFun e8 (j - S.m)
  rwa [show j - S.m+S.m=j by omega] at this
theorem BU {v:Nat→AV}{R:List Nat}{w b:Bool}{g t:Nat}(hb:b=w)(hg:o.guard=some (g,w))(hj:(ops.toList[g]?).bind (·.dst)=some t)(hd:o.dst=some d)(hn:Nat.blt d C.n=true)(hc:pp o=true) :
  ∀ {m:Nat},gL ops S o R k rev t (.p (.val (.bool b))) m=vL (λ _=>.p (.val (.bool b))) m→sL C ops S o R k rev v m=vL v m→Stg C ops S o k rev d v m
 | 0,_,_=>trivial
 | j+1,hG,h=>by
  have h1:sV C ops S o R k rev v j=some (v j):=(List.cons.inj h).1
  have h2:=(List.cons.inj hG).1
  refine ⟨λ ha=>?_,BU hb hg hj hd hn hc (List.cons.inj hG).2 (List.cons.inj h).2⟩
  unfold sV at h1
  rw [ha] at h1 h2
  exact ⟨_,oD _,λ sl hs K hK=>cm (tv (wl hs hc h1) hd hn hK) hg hj (hs _ _ h2) hb⟩
theorem dPy {rest:List Oper}{w b:Bool}{g t:Nat}(v:Nat→AV)(hb:b=w)
  (e:(o.dst,o.guard,(ops.toList[g]?).bind (·.dst),S.imp.findIdx? (Nat.beq k),pp o,(rev.all λ p=>!(Nat.beq p.2.1 d)),Nat.blt d C.n,cL S d S.m,(λ j=>look (S.bas (j+S.m)) d),aL v S.m,gL ops S o (t::opR o) k rev t (.p (.val (.bool b))) (S.m+1),sL C ops S o (t::opR o) k rev v (S.m+1))=(some d,some (g,w),some t,none,true,true,true,nL S.m,(λ _=>none),bL S v S.m,vL (λ _=>.p (.val (.bool b))) (S.m+1),vL v (S.m+1)))
  (h:DS C ops S K rest (k+1) ((k,d,v)::rev)):DS C ops S K (o::rest) k rev:=by
 simp only [Prod.mk.injEq] at e
 obtain ⟨e1,e2,e3,e4,e5,e6,e7,e8,e9,e10,e11,e12⟩:=e
 exact bs v e4 e1 e6 (AD e8 e9) (yy e10) (BU hb e2 e3 e1 e7 e5 e11 e12) h
theorem Ag {R:List Nat}{w b:Bool}{g t:Nat}(hb:b=!w)(hg:o.guard=some (g,w))(hj:(ops.toList[g]?).bind (·.dst)=some t)(hd:o.dst=some d)(hn:Nat.blt d C.n=true) :
  ∀ {m:Nat},gL ops S o R k rev t (.p (.val (.bool b))) m=vL (λ _=>.p (.val (.bool b))) m→Stg C ops S o k rev d (λ _=>.p (.val Go.undef)) m
 | 0,_=>trivial
 | j+1,hG=>by
  have h2:=(List.cons.inj hG).1
  refine ⟨λ ha=>?_,Ag hb hg hj hd hn (List.cons.inj hG).2⟩
  rw [ha] at h2
  exact ⟨_,oD _,λ sl hs K hK=>BQ hg hj (hs _ _ h2) hb hd hn hK⟩
theorem dPn {rest:List Oper}{w b:Bool}{g t:Nat}(hb:b=!w)
  (e:(o.dst,o.guard,(ops.toList[g]?).bind (·.dst),S.imp.findIdx? (Nat.beq k),(rev.all λ p=>!(Nat.beq p.2.1 d)),Nat.blt d C.n,cL S d S.m,(λ j=>look (S.bas (j+S.m)) d),aL (λ _=>.p (.val Go.undef)) S.m,gL ops S o [t] k rev t (.p (.val (.bool b))) (S.m+1))=(some d,some (g,w),some t,none,true,true,nL S.m,(λ _=>none),bL S (λ _=>.p (.val Go.undef)) S.m,vL (λ _=>.p (.val (.bool b))) (S.m+1)))
  (h:DS C ops S K rest (k+1) ((k,d,λ _=>.p (.val Go.undef))::rev)):DS C ops S K (o::rest) k rev:=by
 simp only [Prod.mk.injEq] at e
 obtain ⟨e1,e2,e3,e4,e6,e7,e8,e9,e10,e11⟩:=e
 exact bs _ e4 e1 e6 (AD e8 e9) (yy e10) (Ag hb e2 e3 e1 e7 e11) h
end
def lkM (s:List (Nat×List AV)):List (Nat×List AV)→List (Option (List AV))
 | []=>[]
 | (j,_)::r=>look s j::lkM s r
def smM:List (Nat×List AV)→List (Option (List AV))
 | []=>[]
 | (_,cs)::r=>some cs::smM r
theorem tD {s:List (Nat×List AV)}:∀ {t:List (Nat×List AV)},lkM s t=smM t→leO s t
 | [],_=>trivial
 | (j,cs)::r,h=>⟨⟨cs,(List.cons.inj h).1,ag cs⟩,tD (List.cons.inj h).2⟩
theorem tQ:∀ l:List AV,pc l l
 | []=>trivial
 | x::r=>⟨AV.sub_refl x,tQ r⟩
def lkB (sl:List (Nat×AV)):List (Nat×AV)→List (Option AV)
 | []=>[]
 | (i,_)::r=>look sl i::lkB sl r
def smB:List (Nat×AV)→List (Option AV)
 | []=>[]
 | (_,x)::r=>some x::smB r
theorem qw {sl:List (Nat×AV)}:∀ {b:List (Nat×AV)},lkB sl b=smB b→gb sl b
 | [],_=>trivial
 | (i,x)::r,h=>⟨(List.cons.inj h).1,qw (List.cons.inj h).2⟩
def lkS (S:fX):Nat→List (List (Option AV))
 | 0=>[]
 | j+1=>lkB (trL (S.D j) (S.bas j)) (S.bas (j+1))::lkS S j
def smS (S:fX):Nat→List (List (Option AV))
 | 0=>[]
 | j+1=>smB (S.bas (j+1))::smS S j
theorem tm {S:fX}:∀ {m:Nat},lkS S m=smS S m→∀ j,j < m→gb (trL (S.D j) (S.bas j)) (S.bas (j+1))
 | 0,_,j,h=>absurd h (Nat.not_lt_zero _)
 | m+1,h,j,hj=>by
  by_cases e:j=m
  ·subst e; exact qw (List.cons.inj h).1
  ·exact tm (List.cons.inj h).2 j (by omega)
section
variable {C:Cx} {Q:Exit→AS→Prop} {K:AS→Prop} {sl:List (Nat×AV)} {ob:List (Nat×List AV)} {o:Oper} {d:Nat} {s:AS} {k:List Fr} {ops:Array Oper}
theorem cVq (ids vids:List Nat)(NB NE:Nat){f:FuncId}{args:Array Operand}{ts:Array TypeId}{l q:List AV}{obs qo rob ob':List (Nat×List AV)}{r r':AV}(hc:bH C.P f q qo (λ x y=>x=r∧y=rob))(henter:∀ vs w,(callFunc f vs).run C.P w=.ok (.enter f vs) w)
  (e:(o.op,o.dst,Nat.blt d C.n,lm sl args.toList,AV.mapA.go (pd ids vids) l,gp ob ids,gN (pd ids vids) obs,lkM qo qo,nodupB ids,ids.all (λ i=>Nat.blt i (2*M1)),Nat.ble ids.length M1,Nat.ble NE M1,ids.all (λ i=>!(ee vids NB NE i)),nodupB vids,vids.all (λ i=>Nat.blt i M1),Nat.ble vids.length 100000,r.mapA (kF ids NB NE),gN (kF ids NB NE) rob)=(.call { callee:=.value (.func f),args:=args,argTypes:=ts },some d,true,some l,some q,some obs,some qo,smM qo,true,true,true,true,true,true,true,true,some r',some ob'))
  (hK:K ⟨(d,r')::(cb (ee vids NB NE) ⟨sl,ob⟩).sl,ob'++(cb (ee vids NB NE) ⟨sl,ob.filter λ p=>!(ids.any (Nat.beq p.1))⟩).ob⟩):aP C o K ⟨sl,ob⟩:=by
 simp only [Prod.mk.injEq] at e
 obtain ⟨e1,e2,e3,e4,e5,e6,e7,e8,e9,e10,e11,e12,e13,e14,e15,e16,e17,e18⟩:=e
 exact bS ids vids NB NE hc e1 e2 e3 e4 e5 (tQ _) e6 e7 (tD e8) e9 e10 e11 e12 e13 e14 e15 e16 henter e17 e18 hK
theorem Ah {β:Type}{v v0:β}{tt:List (Nat×TI)}{fn:Func}{ts ids:List Nat}{mk:β→AV}{mo:β→List (Nat×List AV)}{obs:List (Nat×List AV)}{l:List AV}(e:some v=some v0)
  (h:(mK tt fn.results.toList s,(mw l).mapA (jF ts),gp s.ob ids,gN (jF ts) obs,lkM (mo v) (mo v))=(some l,some (mk v),some obs,some (mo v),smM (mo v))):M C (λ e s=>∃ v,v=v0∧vO C tt fn ts ids (mk v) (mo v) e s) ⟨.ex .ret,[],s⟩:=by
 simp only [Prod.mk.injEq] at h
 obtain ⟨h1,h2,h3,h4,h5⟩:=h
 exact mQo (Option.some.inj e) (bM _) h1 h2 h3 h4 (AV.sub_refl _) (tD h5)
theorem mSq (S:fX){id:Nat}
  (e:(C.P.follows .mixedOrders,S.imp.length,S.obj 0,lkB sl (S.bas 0),lkS S S.m,nodupB S.imp,S.imp.all (λ i=>Nat.blt i ops.size),chainB ops S.imp,(ops.toList.zipIdx.all λ p=>p.1.after.toList.all λ e=>!(Region.binds .any e)||Nat.blt e.on p.2))=(true,S.m,ob,smB (S.bas 0),smS S S.m,true,true,true,true))
  (h:DS C ops S (λ rev=>M C Q ⟨.ex .normal,k,⟨fR rev S.m++S.bas S.m,S.obj S.m⟩⟩) ops.toList 0 []):M C Q ⟨.cd (.region id ops true),k,⟨sl,ob⟩⟩:=by
 simp only [Prod.mk.injEq] at e
 obtain ⟨e1,e2,e3,e4,e5,e6,e7,e8,e9⟩:=e
 exact mS S e1 e2 e3 (qw e4) (tm e5) e6 e7 e8 e9 h
end
def ob2 (A:List (Nat×List AV))(x:Nat×List AV):Nat→List (Nat×List AV)
 | 0=>A
 | _+1=>x::A
def ob3 (A:List (Nat×List AV))(x y:Nat×List AV):Nat→List (Nat×List AV)
 | 0=>A
 | 1=>x::A
 | _+2=>y::x::A
def ob4 (A:List (Nat×List AV))(x y z:Nat×List AV):Nat→List (Nat×List AV)
 | 0=>A
 | 1=>x::A
 | 2=>y::x::A
 | _+3=>z::y::x::A
end Go.Ab
end
section
namespace Go.Ab
set_option autoImplicit false
structure lB where
 fFrom:Bytes
 fTo:Bytes
 deriving Inhabited,DecidableEq
def lB.cs (x:lB):List PV:=[eS x.fFrom,eS x.fTo]
def lX (x:lB):PV:=.agg (lB.cs x)
theorem lB.cells_eq (x:lB):(lX x).cells=lB.cs x:=rfl
structure fT where
 fNodes:List Bytes
 fEdges:List lB
 deriving Inhabited,DecidableEq
def fT.cs (x:fT):List PV:=[eL eS x.fNodes,eL lX x.fEdges]
inductive aH where
 | mk (fKind:Int) (fNum:Int) (fStr:Bytes) (fItems:List aH) (fKeys:List Bytes)
def aH.fKind:aH→Int | .mk x _ _ _ _=>x
def aH.fNum:aH→Int | .mk _ x _ _ _=>x
def aH.fStr:aH→Bytes | .mk _ _ x _ _=>x
def aH.fItems:aH→List aH | .mk _ _ _ x _=>x
def aH.fKeys:aH→List Bytes | .mk _ _ _ _ x=>x
instance:Inhabited aH:=⟨.mk 0 0 [] [] []⟩
mutual
def aH.ccs:aH→List PV
 | .mk fKind fNum fStr fItems fKeys=>[eI fKind]++[eI fNum]++[eS fStr]++[.slice (aH.els fItems)]++[eL eS fKeys]
def aH.els:List aH→List PV
 | []=>[]
 | x::r=>.agg (aH.ccs x)::aH.els r
end
def b4 (x:aH):PV:=.agg (aH.ccs x)
theorem aH.els_eq:∀ l,aH.els l=l.map b4
 | []=>by simp only [aH.els,List.map_nil]
 | x::r=>by simp only [aH.els,List.map_cons,aH.els_eq r,b4]
def aH.cs (x:aH):List PV:=[eI x.fKind,eI x.fNum,eS x.fStr,eL b4 x.fItems,eL eS x.fKeys]
theorem aH.ccs_eq (x:aH):aH.ccs x=aH.cs x:=by
 cases x
 simp only [aH.ccs,aH.cs,eL,List.cons_append,List.nil_append,aH.els_eq,aH.fKind,aH.fNum,aH.fStr,aH.fItems,aH.fKeys]
theorem aH.cells_eq (x:aH):(b4 x).cells=aH.cs x:=aH.ccs_eq x
structure az where
 fAddr:Bytes
 fDeposed:Bytes
 fType:Bytes
 fAction:Int
 fReason:Int
 fBefore:aH
 fAfter:aH
 fID:Bytes
 fReplace:List Bytes
 fCreateFirst:Bool
 fProtect:Bool
 fImport:Bool
 fDeps:List Bytes
 fOldDeps:List Bytes
 deriving Inhabited
def az.cs (x:az):List PV:=[eS x.fAddr,eS x.fDeposed,eS x.fType,eI x.fAction,eI x.fReason,eI x.fBefore.fKind,eI x.fBefore.fNum,eS x.fBefore.fStr,eL b4 x.fBefore.fItems,eL eS x.fBefore.fKeys,eI x.fAfter.fKind,eI x.fAfter.fNum,eS x.fAfter.fStr,eL b4 x.fAfter.fItems,eL eS x.fAfter.fKeys,eS x.fID,eL eS x.fReplace,eB x.fCreateFirst,eB x.fProtect,eB x.fImport,eL eS x.fDeps,eL eS x.fOldDeps]
def ao (x:az):PV:=.agg (az.cs x)
theorem az.cells_eq (x:az):(ao x).cells=az.cs x:=rfl
structure dB where
 fchanges:List az
 fresources:List Bytes
 fchosen:List Bool
 ftodo:List Int
 deriving Inhabited
structure bJ where
 fKind:Int
 fNum:Int
 fStr:Bytes
 deriving Inhabited,DecidableEq
def bJ.cs (x:bJ):List PV:=[eI x.fKind,eI x.fNum,eS x.fStr]
structure ab where
 fName:Bytes
 fKey:bJ
 deriving Inhabited,DecidableEq
def ab.cs (x:ab):List PV:=[eS x.fName,eI x.fKey.fKind,eI x.fKey.fNum,eS x.fKey.fStr]
def ac (x:ab):PV:=.agg (ab.cs x)
theorem ab.cells_eq (x:ab):(ac x).cells=ab.cs x:=rfl
structure ae where
 fModule:List ab
 fData:Bool
 fType:Bytes
 fName:Bytes
 fKey:bJ
 deriving Inhabited,DecidableEq
def ae.cs (x:ae):List PV:=[eL ac x.fModule,eB x.fData,eS x.fType,eS x.fName,eI x.fKey.fKind,eI x.fKey.fNum,eS x.fKey.fStr]
structure ah where
 frest:Bytes
 fbad:Bool
 deriving Inhabited,DecidableEq
def ah.cs (x:ah):List PV:=[eS x.frest,eB x.fbad]
structure ek where
 fAddr:ae
 fWhole:Bool
 deriving Inhabited,DecidableEq
def ek.cs (x:ek):List PV:=[eL ac x.fAddr.fModule,eB x.fAddr.fData,eS x.fAddr.fType,eS x.fAddr.fName,eI x.fAddr.fKey.fKind,eI x.fAddr.fKey.fNum,eS x.fAddr.fKey.fStr,eB x.fWhole]
end Go.Ab
end
section
namespace Go.Ab
open Go.Proofs
def tt:List (Nat×TI):=[
 (2,⟨.int .i64,1,8,[.int .i64 0]⟩),
 (3,⟨.int .i64,1,8,[.int .i64 0]⟩),
 (4,⟨.bool,1,1,[.bool false]⟩),
 (5,⟨.int .u8,1,1,[.int .u8 0]⟩),
 (6,⟨.int .u8,1,1,[.int .u8 0]⟩),
 (7,⟨.struct [(0,2),(1,3),(2,4),(3,6)],4,24,[.int .i64 0,.int .i64 0,.bool false,.int .u8 0]⟩),
 (8,⟨.struct [(0,2),(1,3),(2,4),(3,6)],4,24,[.int .i64 0,.int .i64 0,.bool false,.int .u8 0]⟩),
 (9,⟨.string,1,16,[.string ⟨#[]⟩]⟩),
 (10,⟨.string,1,16,[.string ⟨#[]⟩]⟩),
 (11,⟨.string,1,16,[.string ⟨#[]⟩]⟩),
 (12,⟨.int .u64,1,8,[.int .u64 0]⟩),
 (13,⟨.struct [(0,9),(1,12)],2,24,[.string ⟨#[]⟩,.int .u64 0]⟩),
 (14,⟨.struct [(0,9),(1,12)],2,24,[.string ⟨#[]⟩,.int .u64 0]⟩),
 (15,⟨.ptr 208,1,8,[.pointer none]⟩),
 (16,⟨.ptr 211,1,8,[.pointer none]⟩),
 (17,⟨.ptr 218,1,8,[.pointer none]⟩),
 (18,⟨.struct [(0,17)],1,8,[.pointer none]⟩),
 (19,⟨.struct [(0,17)],1,8,[.pointer none]⟩),
 (20,⟨.iface,1,16,[.nilIface]⟩),
 (21,⟨.int .i32,1,4,[.int .i32 0]⟩),
 (22,⟨.slice 9,1,24,[.slice none 0 0]⟩),
 (24,⟨.int .i64,1,8,[.int .i64 0]⟩),
 (30,⟨.slice 56,1,24,[.slice none 0 0]⟩),
 (31,⟨.struct [(0,22),(1,30)],2,48,[.slice none 0 0,.slice none 0 0]⟩),
 (32,⟨.struct [(0,22),(1,30)],2,48,[.slice none 0 0,.slice none 0 0]⟩),
 (37,⟨.slice 47,1,24,[.slice none 0 0]⟩),
 (40,⟨.int .i64,1,8,[.int .i64 0]⟩),
 (41,⟨.int .i64,1,8,[.int .i64 0]⟩),
 (42,⟨.int .i64,1,8,[.int .i64 0]⟩),
 (43,⟨.slice 45,1,24,[.slice none 0 0]⟩),
 (44,⟨.struct [(0,42),(1,3),(2,9),(3,43),(4,22)],5,80,[.int .i64 0,.int .i64 0,.string ⟨#[]⟩,.slice none 0 0,.slice none 0 0]⟩),
 (45,⟨.struct [(0,42),(1,3),(2,9),(3,43),(4,22)],5,80,[.int .i64 0,.int .i64 0,.string ⟨#[]⟩,.slice none 0 0,.slice none 0 0]⟩),
 (46,⟨.struct [(0,9),(1,9),(2,9),(3,40),(4,41),(5,45),(10,45),(15,9),(16,22),(17,4),(18,4),(19,4),(20,22),(21,22)],22,320,[.string ⟨#[]⟩,.string ⟨#[]⟩,.string ⟨#[]⟩,.int .i64 0,.int .i64 0,.int .i64 0,.int .i64 0,.string ⟨#[]⟩,.slice none 0 0,.slice none 0 0,.int .i64 0,.int .i64 0,.string ⟨#[]⟩,.slice none 0 0,.slice none 0 0,.string ⟨#[]⟩,.slice none 0 0,.bool false,.bool false,.bool false,.slice none 0 0,.slice none 0 0]⟩),
 (47,⟨.struct [(0,9),(1,9),(2,9),(3,40),(4,41),(5,45),(10,45),(15,9),(16,22),(17,4),(18,4),(19,4),(20,22),(21,22)],22,320,[.string ⟨#[]⟩,.string ⟨#[]⟩,.string ⟨#[]⟩,.int .i64 0,.int .i64 0,.int .i64 0,.int .i64 0,.string ⟨#[]⟩,.slice none 0 0,.slice none 0 0,.int .i64 0,.int .i64 0,.string ⟨#[]⟩,.slice none 0 0,.slice none 0 0,.string ⟨#[]⟩,.slice none 0 0,.bool false,.bool false,.bool false,.slice none 0 0,.slice none 0 0]⟩),
 (55,⟨.struct [(0,9),(1,9)],2,32,[.string ⟨#[]⟩,.string ⟨#[]⟩]⟩),
 (56,⟨.struct [(0,9),(1,9)],2,32,[.string ⟨#[]⟩,.string ⟨#[]⟩]⟩),
 (61,⟨.ptr 65,1,8,[.pointer none]⟩),
 (62,⟨.slice 4,1,24,[.slice none 0 0]⟩),
 (63,⟨.slice 3,1,24,[.slice none 0 0]⟩),
 (64,⟨.struct [(0,37),(1,22),(2,62),(3,63)],4,96,[.slice none 0 0,.slice none 0 0,.slice none 0 0,.slice none 0 0]⟩),
 (65,⟨.struct [(0,37),(1,22),(2,62),(3,63)],4,96,[.slice none 0 0,.slice none 0 0,.slice none 0 0,.slice none 0 0]⟩),
 (75,⟨.slice 101,1,24,[.slice none 0 0]⟩),
 (76,⟨.int .i64,1,8,[.int .i64 0]⟩),
 (77,⟨.struct [(0,76),(1,3),(2,9)],3,32,[.int .i64 0,.int .i64 0,.string ⟨#[]⟩]⟩),
 (78,⟨.struct [(0,76),(1,3),(2,9)],3,32,[.int .i64 0,.int .i64 0,.string ⟨#[]⟩]⟩),
 (79,⟨.struct [(0,75),(1,4),(2,9),(3,9),(4,78)],7,96,[.slice none 0 0,.bool false,.string ⟨#[]⟩,.string ⟨#[]⟩,.int .i64 0,.int .i64 0,.string ⟨#[]⟩]⟩),
 (80,⟨.struct [(0,75),(1,4),(2,9),(3,9),(4,78)],7,96,[.slice none 0 0,.bool false,.string ⟨#[]⟩,.string ⟨#[]⟩,.int .i64 0,.int .i64 0,.string ⟨#[]⟩]⟩),
 (86,⟨.map 9 4,1,8,[.map none]⟩),
 (88,⟨.map 9 22,1,8,[.map none]⟩),
 (96,⟨.ptr 98,1,8,[.pointer none]⟩),
 (97,⟨.struct [(0,9),(1,4)],2,24,[.string ⟨#[]⟩,.bool false]⟩),
 (98,⟨.struct [(0,9),(1,4)],2,24,[.string ⟨#[]⟩,.bool false]⟩),
 (100,⟨.struct [(0,9),(1,78)],4,48,[.string ⟨#[]⟩,.int .i64 0,.int .i64 0,.string ⟨#[]⟩]⟩),
 (101,⟨.struct [(0,9),(1,78)],4,48,[.string ⟨#[]⟩,.int .i64 0,.int .i64 0,.string ⟨#[]⟩]⟩),
 (107,⟨.ptr 110,1,8,[.pointer none]⟩),
 (108,⟨.slice 5,1,24,[.slice none 0 0]⟩),
 (109,⟨.struct [(0,107),(1,108)],2,32,[.pointer none,.slice none 0 0]⟩),
 (110,⟨.struct [(0,107),(1,108)],2,32,[.pointer none,.slice none 0 0]⟩),
 (111,⟨.iface,1,16,[.nilIface]⟩),
 (112,⟨.iface,1,16,[.nilIface]⟩),
 (117,⟨.struct [(0,80),(7,4)],8,104,[.slice none 0 0,.bool false,.string ⟨#[]⟩,.string ⟨#[]⟩,.int .i64 0,.int .i64 0,.string ⟨#[]⟩,.bool false]⟩),
 (118,⟨.struct [(0,80),(7,4)],8,104,[.slice none 0 0,.bool false,.string ⟨#[]⟩,.string ⟨#[]⟩,.int .i64 0,.int .i64 0,.string ⟨#[]⟩,.bool false]⟩),
 (136,⟨.ptr 5,1,8,[.pointer none]⟩),
 (165,⟨.int .u64,1,8,[.int .u64 0]⟩),
 (166,⟨.ptr 146,1,8,[.pointer none]⟩),
 (171,⟨.array 256 5,256,256,List.replicate 256 (.int .u8 0)⟩),
 (172,⟨.struct [(0,5),(1,5)],2,2,[.int .u8 0,.int .u8 0]⟩),
 (173,⟨.struct [(0,5),(1,5)],2,2,[.int .u8 0,.int .u8 0]⟩),
 (174,⟨.array 16 173,32,32,[.int .u8 0,.int .u8 0,.int .u8 0,.int .u8 0,.int .u8 0,.int .u8 0,.int .u8 0,.int .u8 0,.int .u8 0,.int .u8 0,.int .u8 0,.int .u8 0,.int .u8 0,.int .u8 0,.int .u8 0,.int .u8 0,.int .u8 0,.int .u8 0,.int .u8 0,.int .u8 0,.int .u8 0,.int .u8 0,.int .u8 0,.int .u8 0,.int .u8 0,.int .u8 0,.int .u8 0,.int .u8 0,.int .u8 0,.int .u8 0,.int .u8 0,.int .u8 0]⟩),
 (175,⟨.int .u32,1,4,[.int .u32 0]⟩),
 (176,⟨.array 24 5,24,24,[.int .u8 0,.int .u8 0,.int .u8 0,.int .u8 0,.int .u8 0,.int .u8 0,.int .u8 0,.int .u8 0,.int .u8 0,.int .u8 0,.int .u8 0,.int .u8 0,.int .u8 0,.int .u8 0,.int .u8 0,.int .u8 0,.int .u8 0,.int .u8 0,.int .u8 0,.int .u8 0,.int .u8 0,.int .u8 0,.int .u8 0,.int .u8 0]⟩),
 (177,⟨.int .u64,1,8,[.int .u64 0]⟩),
 (182,⟨.int .i64,1,8,[.int .i64 0]⟩),
 (185,⟨.ptr 196,1,8,[.pointer none]⟩),
 (191,⟨.array 20 177,20,160,[.int .u64 0,.int .u64 0,.int .u64 0,.int .u64 0,.int .u64 0,.int .u64 0,.int .u64 0,.int .u64 0,.int .u64 0,.int .u64 0,.int .u64 0,.int .u64 0,.int .u64 0,.int .u64 0,.int .u64 0,.int .u64 0,.int .u64 0,.int .u64 0,.int .u64 0,.int .u64 0]⟩),
 (195,⟨.struct [(0,9),(1,9),(2,112)],3,48,[.string ⟨#[]⟩,.string ⟨#[]⟩,.nilIface]⟩),
 (196,⟨.struct [(0,9),(1,9),(2,112)],3,48,[.string ⟨#[]⟩,.string ⟨#[]⟩,.nilIface]⟩),
 (201,⟨.ptr 203,1,8,[.pointer none]⟩),
 (202,⟨.struct [(0,9)],1,16,[.string ⟨#[]⟩]⟩),
 (203,⟨.struct [(0,9)],1,16,[.string ⟨#[]⟩]⟩),
 (205,⟨.array 32 5,32,32,[.int .u8 0,.int .u8 0,.int .u8 0,.int .u8 0,.int .u8 0,.int .u8 0,.int .u8 0,.int .u8 0,.int .u8 0,.int .u8 0,.int .u8 0,.int .u8 0,.int .u8 0,.int .u8 0,.int .u8 0,.int .u8 0,.int .u8 0,.int .u8 0,.int .u8 0,.int .u8 0,.int .u8 0,.int .u8 0,.int .u8 0,.int .u8 0,.int .u8 0,.int .u8 0,.int .u8 0,.int .u8 0,.int .u8 0,.int .u8 0,.int .u8 0,.int .u8 0]⟩),
 (207,⟨.struct [(0,17),(1,17),(2,17),(3,9)],4,40,[.pointer none,.pointer none,.pointer none,.string ⟨#[]⟩]⟩),
 (208,⟨.struct [(0,17),(1,17),(2,17),(3,9)],4,40,[.pointer none,.pointer none,.pointer none,.string ⟨#[]⟩]⟩),
 (209,⟨.array 0 16,0,0,[]⟩),
 (210,⟨.struct [(0,209)],0,0,[]⟩),
 (211,⟨.struct [(0,209)],0,0,[]⟩),
 (212,⟨.int .u8,1,1,[.int .u8 0]⟩),
 (213,⟨.int .u8,1,1,[.int .u8 0]⟩),
 (215,⟨.int .i32,1,4,[.int .i32 0]⟩),
 (216,⟨.int .i32,1,4,[.int .i32 0]⟩),
 (217,⟨.struct [(0,12),(1,12),(2,175),(3,212),(4,5),(5,5),(6,213),(7,214),(8,136),(9,215),(10,216)],11,48,[.int .u64 0,.int .u64 0,.int .u32 0,.int .u8 0,.int .u8 0,.int .u8 0,.int .u8 0,.nilFunc,.pointer none,.int .i32 0,.int .i32 0]⟩),
 (218,⟨.struct [(0,12),(1,12),(2,175),(3,212),(4,5),(5,5),(6,213),(7,214),(8,136),(9,215),(10,216)],11,48,[.int .u64 0,.int .u64 0,.int .u32 0,.int .u8 0,.int .u8 0,.int .u8 0,.int .u8 0,.nilFunc,.pointer none,.int .i32 0,.int .i32 0]⟩)]
theorem good:cW Tryz.prog tt:=by
 unfold tt
 simp only [cW]
 refine ⟨?_,?_,?_,?_,?_,?_,?_,?_,?_,?_,?_,?_,?_,?_,?_,?_,?_,?_,?_,?_,?_,?_,?_,?_,?_,?_,?_,?_,?_,?_,?_,?_,?_,?_,?_,?_,?_,?_,?_,?_,?_,?_,?_,?_,?_,?_,?_,?_,?_,?_,?_,?_,?_,?_,?_,?_,?_,?_,?_,?_,?_,?_,?_,?_,?_,?_,?_,?_,?_,?_,?_,?_,?_,?_,?_,?_,?_,?_,?_,?_,?_,?_,?_,?_,?_,?_,?_,?_,?_,?_,?_,?_,trivial⟩
 all_goals exact ⟨by kernel_rfl,by kernel_rfl⟩
end Go.Ab
end
section
namespace Go.Ab
open Go.Proofs Go.RowKit Go
structure aB where
 fbuf:Bytes
def ce (b:aB):Option aB:=some b
def dc (b:aB):Option (Bytes×aB):=ck (b.fbuf.length≤9223372036854775807) <| some (b.fbuf,b)
theorem C6:∃ j,Tryz.prog.info? 110=some j∧j.size=2:=by
 have h:(Tryz.prog.info? 110).map (·.size)=some 2:=by kernel_rfl
 obtain ⟨j,hj,hs⟩:=Option.map_eq_some_iff.1 h
 exact ⟨j,hj,hs⟩
set_option maxRecDepth 100000 in
theorem sP (b:Nat)(w:World)(h0:w.cell? ⟨b,0,none⟩=some (.pointer (some ⟨b,0,none⟩))) :
  Calls Tryz.prog 100 #[.pointer (some ⟨b,0,none⟩)] w λ e w'=>e=.returned (.tuple #[])∧w'=w:=by
 obtain ⟨j,hj,_⟩:=C6
 go_enter Tryz.func100,Tryz.ntmps100
 go_wp2
 rw [Lib.run_neq_ptr_same w _ Tryz.underlying107 hj]
 go_wp2
 go_end0
 exact ⟨rfl,rfl⟩
set_option maxRecDepth 100000 in
theorem sa (b:Nat)(w:World)(h0:w.cell? ⟨b,0,none⟩=some (.pointer none))(hsh:w.shape? b=some (110,2))(hfz:w.frozen? ⟨b,0,none⟩=false) :
  Calls Tryz.prog 100 #[.pointer (some ⟨b,0,none⟩)] w λ e w'=>e=.returned (.tuple #[])∧w'=w.setCell ⟨b,0,none⟩ (.pointer (some ⟨b,0,none⟩)):=by
 obtain ⟨j,hj,hjs⟩:=C6
 go_enter Tryz.func100,Tryz.ntmps100
 go_wp2
 rw [Lib.run_to_unsafe w ⟨b,0,none⟩ Tryz.underlying107 Tryz.underlying160 hj (by rw [hjs]; decide) hsh (Nat.zero_lt_succ 1)]
 simp only [Result.andThen]
 rw [Oper.upon_value]
 go_wp2
 rw [run_callFunc_extern Tryz.func127 (by kernel_rfl) (by kernel_rfl) (by kernel_rfl) (e:=Extern.AbiNoEscape.same) (by kernel_rfl)]
 rw [Lib.run_noEscape]
 simp only [Result.andThen]
 rw [Oper.upon_value]
 go_wp2
 rw [Lib.run_from_unsafe w ⟨b,0,none⟩ Tryz.underlying160 Tryz.underlying107 hj hsh (by kernel_rfl)]
 simp only [Result.andThen]
 rw [Oper.upon_value]
 go_wp2
 go_end0
 exact ⟨rfl,rfl⟩
structure yr (b:Nat)(w w':World):Prop where
 os:w'.os=w.os
 out:w'.output=w.output
 tape:w'.tape=w.tape
 size:w'.heap.size=w.heap.size
 other:∀ k,k≠b→w'.heap[k]? = w.heap[k]?
def back (i:Nat):Option Nat:=if i=900000 then some 2000000 else if i=1000000 then some 1000000 else none
def ghB (g:Gh):Gh:=⟨g.st,λ i=>if i=2000000 then g.ow 900000 else if M1≤i∧i < 2*M1 then g.ow i else none⟩
theorem u6 {g:Gh}{i b:Nat}(h:(ghB g).ow i=some b):(i=2000000∧g.ow 900000=some b)∨(M1≤i∧i < 2*M1∧g.ow i=some b):=by
 simp only [ghB] at h
 split at h
 ·exact .inl ⟨‹_›,h⟩
 ·split at h
  ·rename_i h1; exact .inr ⟨h1.1,h1.2,h⟩
  ·cases h
theorem vV {g:Gh}:∀ i j b,back i=some j→g.ow i=some b→(ghB g).ow j=some b:=by
 intro i j b h hb
 unfold back at h
 split at h
 ·cases h; subst_vars; simp only [ghB,if_true]; exact hb
 ·split at h
  ·cases h; subst_vars
   simp only [ghB]
   rw [if_neg (by decide),if_pos (by decide)]; exact hb
  ·cases h
theorem yn {w w':World}{g:Gh}{b:Nat}(hok:Ok0 w g.st)(hown:∀ i b,g.ow i=some b→b < w.heap.size∧i < 2*M1)
  (hinj:∀ i j b,g.ow i=some b→g.ow j=some b→i=j) (hnst:∀ i b,M1≤i→g.ow i=some b→∀ o,¬ g.st b o)
  (hb:g.ow 1000000=some b) (h:yr b w w')
  (hsh:∀ (c:Array Value) (e:TypeId),w.heap[b]? = some (.cells c e (0,0))→∃ c':Array Value,w'.heap[b]? = some (.cells c' e (0,0))∧c'.size=c.size):nF w g w' (ghB g):=by
 have hbs:∀ o,¬ g.st b o:=hnst _ b (Nat.le_refl _) hb
 have hev:Ev w g.st w' g.st:=λ k o hk=>⟨hk,by
  have:k≠b:=λ e=>hbs o (e ▸ hk)
  simp only [World.cell?,h.other k this]⟩
 refine ⟨h.os,h.out,h.tape,by rw [h.size]; exact Nat.le_refl _,λ k hk hno=>h.other k (λ e=>hno 1000000 (e ▸ hb)),λ i k hi=>?_,λ i j k hi hj=>?_,λ k o hk=>by rw [h.size]; exact hok.lt k o hk,λ k hk _ o=>Iff.rfl,λ i h1 h2=>?_,λ i k c e h1 h2 h3=>?_,λ i k hi hk o=>hnst i k hi hk o,hev⟩
 ·rcases u6 hi with ⟨_,h1⟩ | ⟨_,_,h1⟩
  ·exact ⟨by rw [h.size]; exact (hown _ _ h1).1,.inr ⟨_,h1⟩⟩
  ·exact ⟨by rw [h.size]; exact (hown _ _ h1).1,.inr ⟨_,h1⟩⟩
 ·rcases u6 hi with ⟨e1,h1⟩ | ⟨a1,a2,h1⟩ <;> rcases u6 hj with ⟨e2,h2⟩ | ⟨b1,b2,h2⟩
  ·omega
  ·have:=hinj _ _ _ h1 h2; unfold M1 at *; omega
  ·have:=hinj _ _ _ h1 h2; unfold M1 at *; omega
  ·exact hinj _ _ _ h1 h2
 ·simp only [ghB]
  rw [if_neg (by unfold M1 at *; omega),if_pos ⟨h1,h2⟩]
 ·by_cases e1:k=b
  ·subst e1; exact hsh c e h3
  ·exact ⟨c,(h.other k e1).trans h3,rfl⟩
theorem Ex {w w':World}{g:Gh}{b:Nat}(hbs:∀ o,¬ g.st b o)(h:yr b w w')(hc:∃ c e,w.heap[b]? = some (.cells c e (0,0)))
  (hsh:∀ (c:Array Value) (e:TypeId),w.heap[b]? = some (.cells c e (0,0))→∃ c':Array Value,w'.heap[b]? = some (.cells c' e (0,0))∧c'.size=c.size):EvO (λ _=>false) w g w' g:=by
 refine ⟨λ k o hk=>⟨hk,?_⟩,λ _ _ _ h=>h,λ id k c e _ _ hk=>?_,λ _ _ _ _ _ h=>h,λ id k es k' _ _ hk=>(h.other k (λ e=>by subst e; obtain ⟨c,t,hc⟩:=hc; rw [hc] at hk; cases hk)).trans hk,λ _ _=>rfl,λ id k o _ _ ho=>h.other k (λ e=>hbs o (e ▸ ho))⟩
 ·have:k≠b:=λ e=>hbs o (e ▸ hk)
  simp only [World.cell?,h.other k this]
 ·by_cases e1:k=b
  ·subst e1; exact hsh c e hk
  ·exact ⟨c,(h.other k e1).trans hk,rfl⟩
theorem BA {w:World}{g:Gh}{es:List PV}{vs:Array Value}{T ty:Nat}(hsz:vs.size=1)
  (hargs:∀ (i:Nat) c v,[AV.ptr 1000000 0][i]? = some c→vs[i]? = some v→ARep w g c v)
  (hobs:∀ id cs,look [(1000000,[AV.bptr T 2 1000000,AV.vec 900000 1 ty es])] id=some cs→iI w g id cs) :
  ∃ b p q,g.ow 1000000=some b∧vs=#[.pointer (some ⟨b,0,none⟩)]∧w.heap[b]? = some (.cells #[p,q] T (0,0))∧(∀ o,¬ g.st b o) ∧
   (p=.pointer none∨p=.pointer (some ⟨b,0,none⟩))∧ARep w g (.vec 900000 1 ty es) q:=by
 obtain ⟨b,c,e,h1,h2,h3,h4,h5⟩:=hobs 1000000 _ rfl
 obtain ⟨p,hp,hpr⟩:=h5 0 _ rfl
 obtain ⟨q,hq,hqr⟩:=h5 1 _ rfl
 have hv0:vs[0]? = some vs[0]:=Array.getElem?_eq_getElem (by omega)
 have ha:=hargs 0 _ _ rfl hv0
 have hvs:vs=#[vs[0]]:=by
  apply Array.ext
  ·simp [hsz]
  ·intro i h1 h2
   have:i=0:=by omega
   subst this; rfl
 have hc:∀ c1:Array Value,c1=c→c1.size=2→c=#[p,q]:=by
  rintro c1 rfl h
  apply Array.ext
  ·simp [h]
  ·intro i k1 k2
   match i,k2 with
   | 0,_=>rw [Array.getElem?_eq_getElem k1] at hp; simpa using hp
   | 1,_=>rw [Array.getElem?_eq_getElem k1] at hq; simpa using hq
 have hav:vs[0]=.pointer (some ⟨b,0,none⟩):=by
  generalize vs[0]=v at ha
  cases ha with
  | ptr how=>rw [h1] at how; cases how; rfl
 refine ⟨b,p,q,h1,by rw [hvs,hav],?_,h4,?_,hqr⟩
 ·cases hpr with
  | bptrn how hb hcs=>rw [h1] at how; cases how; rw [h2] at hb; cases hb; rw [h2,hc _ rfl hcs]
  | bptr how hb hcs=>rw [h1] at how; cases how; rw [h2] at hb; cases hb; rw [h2,hc _ rfl hcs]
 ·cases hpr with
  | bptrn how hb hcs=>exact .inl rfl
  | bptr how hb hcs=>rw [h1] at how; cases how; exact .inr rfl
theorem ob_B {w':World}{g:Gh}{es:List PV}{T ty b:Nat}{p q:Value}(hb:g.ow 1000000=some b)(h4:∀ o,¬ g.st b o)(h:w'.heap[b]? = some (.cells #[p,q] T (0,0)))
  (hp:p=.pointer none∨p=.pointer (some ⟨b,0,none⟩)) (hq:ARep w' g (.vec 900000 1 ty es) q):iI w' (ghB g) 1000000 [.bptr T 2 1000000,.vec 2000000 1 ty es]:=by
 have how:(ghB g).ow 1000000=some b:=vV 1000000 1000000 b rfl hb
 refine ⟨b,#[p,q],T,how,h,by simp,h4,λ i x hx=>?_⟩
 match i,hx with
 | 0,hx =>
  simp only [List.getElem?_cons_zero,Option.some.injEq] at hx; subst hx
  refine ⟨p,rfl,?_⟩
  rcases hp with rfl | rfl
  ·exact .bptrn how h rfl
  ·exact .bptr how h rfl
 | 1,hx =>
  simp only [List.getElem?_cons_succ,List.getElem?_cons_zero,Option.some.injEq] at hx; subst hx
  exact ⟨q,rfl,jD (m:=back) (g:=g) (g':=ghB g) rfl vV hq rfl⟩
 | n+2,hx=>simp at hx
theorem eM (b_0:aB)(r:aB)(h0:ce b_0=some r):bH Tryz.prog 100 [.ptr 1000000 0] [(1000000,[.bptr 110 2 1000000,.vec 900000 1 (5+1) (b_0.fbuf.map eU)])]
  (λ x y=>x=.tuple []∧y=[(1000000,[.bptr 110 2 1000000,.vec 2000000 1 (5+1) (r.fbuf.map eU)])]):=by
 cases h0
 intro w g vs hok hown hinj hnst hsz hargs hobs
 obtain ⟨b,p,q,hb,rfl,hheap,hbs,hp,hq⟩:=BA hsz hargs hobs
 have hc0:w.cell? ⟨b,0,none⟩=some p:=by simp [World.cell?,hheap]
 rcases hp with rfl | rfl
 ·refine (sa b w hc0 (by simp [World.shape?,hheap]) (by simp [World.frozen?,hheap])).mono ?_
  rintro e w' ⟨rfl,rfl⟩
  have hO:yr b w (w.setCell ⟨b,0,none⟩ (.pointer (some ⟨b,0,none⟩))):=⟨rfl,rfl,rfl,by simp [World.setCell],λ k hk=>Below.heap_setCell _ _ _ _ hk⟩
  have hheap':(w.setCell ⟨b,0,none⟩ (.pointer (some ⟨b,0,none⟩))).heap[b]? = some (.cells #[.pointer (some ⟨b,0,none⟩),q] 110 (0,0)):=by
   simp [World.setCell,Array.getElem?_modify,hheap]
  have hsh:∀ (c:Array Value) (e:TypeId),w.heap[b]? = some (.cells c e (0,0))→∃ c':Array Value,(w.setCell ⟨b,0,none⟩ (.pointer (some ⟨b,0,none⟩))).heap[b]? = some (.cells c' e (0,0))∧c'.size=c.size:=λ c e h=>by
   rw [hheap] at h; cases h; exact ⟨_,hheap',rfl⟩
  refine ⟨_,_,_,ghB g,rfl,⟨rfl,rfl⟩,.tuple rfl (by simp),λ x hx=>?_,yn hok hown hinj hnst hb hO hsh⟩
  simp only [List.mem_singleton] at hx; subst hx
  exact ob_B hb hbs hheap' (.inr rfl) (hq.mono (Ex hbs hO ⟨_,_,hheap⟩ hsh))
 ·refine (sP b w hc0).mono ?_
  rintro e w' ⟨rfl,rfl⟩
  have hO:yr b w' w':=⟨rfl,rfl,rfl,rfl,λ k hk=>rfl⟩
  refine ⟨_,_,_,ghB g,rfl,⟨rfl,rfl⟩,.tuple rfl (by simp),λ x hx=>?_,yn hok hown hinj hnst hb hO (λ c e h=>⟨c,h,rfl⟩)⟩
  simp only [List.mem_singleton] at hx; subst hx
  exact ob_B hb hbs hheap (.inr rfl) hq
theorem vg:Tryz.prog.follows .mixedOrders=true:=by kernel_rfl
theorem pt (w:World):Below w.heap.size w w.drew:=Below.drew (Below.refl _ w)
set_option maxRecDepth 100000 in
theorem xC (b:Nat)(p:Value)(w:World)(hbk:w.heap[b]? = some (.cells #[p,.slice none 0 0] 110 (0,0))) :
  Calls Tryz.prog 80 #[.pointer (some ⟨b,0,none⟩)] w λ e w'=>e=.returned (.string ⟨#[]⟩)∧Below w.heap.size w w':=by
 have mixed:=vg
 have hUS:∀ (W:World) (q:Option Addr),(Builtin.unsafeString_ #[136,3] 9 #[.pointer q,.int .i64 0]).run Tryz.prog W=.ok (.string .empty) W:=λ W q=>Lib.run_unsafeString_none W _ _ _ q
 have c1:w.drew.cell? ⟨b,1,none⟩=some (.slice none 0 0):=by
  have:w.drew.heap[b]? = some (.cells #[p,.slice none 0 0] 110 (0,0)):=hbk
  rw [Lib.cell_of_heap this]; rfl
 have hSD:(Builtin.unsafeSliceData_ #[108] 136 #[.slice none 0 0]).run Tryz.prog w.drew=.ok (.pointer none) w.drew:=rfl
 go_enter Tryz.func80,Tryz.ntmps80
 go_wp2
 go_region_o
 all_goals (go_wp2; go_ret; exact ⟨rfl,pt w⟩)
set_option maxRecDepth 100000 in
theorem wH (b g cap:Nat)(p:Value)(w:World)(hc0:cap≠0)(hbk:w.heap[b]? = some (.cells #[p,.slice (some ⟨g,0,none⟩) 0 cap] 110 (0,0))) :
  Calls Tryz.prog 80 #[.pointer (some ⟨b,0,none⟩)] w λ e w'=>e=.returned (.string ⟨#[]⟩)∧Below w.heap.size w w':=by
 have mixed:=vg
 have hUS:∀ (W:World) (q:Option Addr),(Builtin.unsafeString_ #[136,3] 9 #[.pointer q,.int .i64 0]).run Tryz.prog W=.ok (.string .empty) W:=λ W q=>Lib.run_unsafeString_none W _ _ _ q
 have c1:w.drew.cell? ⟨b,1,none⟩=some (.slice (some ⟨g,0,none⟩) 0 cap):=by
  have:w.drew.heap[b]? = some (.cells #[p,.slice (some ⟨g,0,none⟩) 0 cap] 110 (0,0)):=hbk
  rw [Lib.cell_of_heap this]; rfl
 have hSD:(Builtin.unsafeSliceData_ #[108] 136 #[.slice (some ⟨g,0,none⟩) 0 cap]).run Tryz.prog w.drew=.ok (.pointer (some ⟨g,0,none⟩)) w.drew:=Lib.run_unsafeSliceData_row _ _ _ _ _ _ hc0
 clear hc0
 go_enter Tryz.func80,Tryz.ntmps80
 go_wp2
 go_region_o
 all_goals (go_wp2; go_ret; exact ⟨rfl,pt w⟩)
set_option maxRecDepth 100000 in
theorem uk (b g:Nat)(p:Value)(cur:Array Value)(w:World)(hbk:w.heap[b]? = some (.cells #[p,.slice (some ⟨g,0,none⟩) 0 0] 110 (0,0)))(hg:w.heap[g]? = some (.cells cur 5 (0,0))) :
  Calls Tryz.prog 80 #[.pointer (some ⟨b,0,none⟩)] w λ e w'=>e=.returned (.string ⟨#[]⟩)∧Below w.heap.size w w':=by
 have mixed:=vg
 have hUS:∀ (W:World) (q:Option Addr),(Builtin.unsafeString_ #[136,3] 9 #[.pointer q,.int .i64 0]).run Tryz.prog W=.ok (.string .empty) W:=λ W q=>Lib.run_unsafeString_none W _ _ _ q
 have hlt:b < w.heap.size:=by
  rcases Nat.lt_or_ge b w.heap.size with h' | h'
  ·exact h'
  ·simp [Array.getElem?_eq_none h'] at hbk
 have c1:w.drew.cell? ⟨b,1,none⟩=some (.slice (some ⟨g,0,none⟩) 0 0):=by
  have:w.drew.heap[b]? = some (.cells #[p,.slice (some ⟨g,0,none⟩) 0 0] 110 (0,0)):=hbk
  rw [Lib.cell_of_heap this]; rfl
 have hSD:(Builtin.unsafeSliceData_ #[108] 136 #[.slice (some ⟨g,0,none⟩) 0 0]).run Tryz.prog w.drew=.ok (.pointer (some ⟨w.drew.heap.size,0,none⟩)) (w.drew.alloc (.view ⟨g,0,none⟩ 5)) :=
  Lib.run_unsafeSliceData_zero w.drew _ _ 5 Tryz.underlying136 ⟨g,0,none⟩ 0 (5,cur.size) (by have hg':w.drew.heap[g]? = some (.cells cur 5 (0,0)):=hg; simp [World.shape?,hg'])
 have c2:(w.drew.alloc (.view ⟨g,0,none⟩ 5)).cell? ⟨b,1,none⟩=some (.slice (some ⟨g,0,none⟩) 0 0):=by
  have:(w.drew.alloc (.view ⟨g,0,none⟩ 5)).heap[b]? = _:=(Lib.alloc_old w.drew _ b hlt).trans hbk
  rw [Lib.cell_of_heap this]; rfl
 have c3:(w.alloc (.view ⟨g,0,none⟩ 5)).drew.cell? ⟨b,1,none⟩=some (.slice (some ⟨g,0,none⟩) 0 0):=c2
 have c0:w.cell? ⟨b,1,none⟩=some (.slice (some ⟨g,0,none⟩) 0 0):=c1
 go_enter Tryz.func80,Tryz.ntmps80
 go_wp2
 go_region_o
 all_goals (go_wp2; go_ret; exact ⟨rfl,(pt w).alloc (Nat.le_refl _) _⟩)
set_option maxRecDepth 100000 in
theorem xw (b g cap:Nat)(p:Value)(cur:Array Value)(l:List UInt8)(w:World)(h0:l≠[])(hbk:w.heap[b]? = some (.cells #[p,.slice (some ⟨g,0,none⟩) l.length cap] 110 (0,0)))(hg:w.heap[g]? = some (.cells cur 5 (0,0)))
  (hnc:l.length≤cap) (hcs:cur.size=cap) (hcm:l.length≤9223372036854775807) (hcell:∀ (j:Nat) x,l[j]? = some x→w.cell? ⟨g,j,none⟩=some (.int .u8 x.toNat)) :
  Calls Tryz.prog 80 #[.pointer (some ⟨b,0,none⟩)] w λ e w'=>e=.returned (.string ⟨l.toArray⟩)∧w'=(w.drew.freeze ⟨g,0,none⟩ l.length):=by
 have mixed:=vg
 have hl0:l.length≠0:=by simpa using h0
 have c1:w.drew.cell? ⟨b,1,none⟩=some (.slice (some ⟨g,0,none⟩) l.length cap):=by
  have:w.drew.heap[b]? = some (.cells #[p,.slice (some ⟨g,0,none⟩) l.length cap] 110 (0,0)):=hbk
  rw [Lib.cell_of_heap this]; rfl
 have hSD:(Builtin.unsafeSliceData_ #[108] 136 #[.slice (some ⟨g,0,none⟩) l.length cap]).run Tryz.prog w.drew=.ok (.pointer (some ⟨g,0,none⟩)) w.drew:=Lib.run_unsafeSliceData_row _ _ _ _ _ _ (by omega)
 have hUS:(Builtin.unsafeString_ #[136,3] 9 #[.pointer (some ⟨g,0,none⟩),.int .i64 l.length]).run Tryz.prog w.drew=.ok (.string ⟨l.toArray⟩) (w.drew.freeze ⟨g,0,none⟩ l.length):=by
  refine Lib.run_unsafeString_row w.drew 136 3 9 5 Tryz.underlying136 (by kernel_rfl) g cur.size (by have hg':w.drew.heap[g]? = some (.cells cur 5 (0,0)):=hg; simp [World.shape?,hg']) l h0 (by omega) hcm ?_
  intro j x hx
  have:=hcell j x hx
  rw [add_lit,Nat.zero_add,World.cell?_drew]; exact this
 clear hcell hcs hcm hnc h0 hl0
 go_enter Tryz.func80,Tryz.ntmps80
 go_wp2
 go_region_o
 all_goals (go_wp2; go_ret; exact ⟨rfl,rfl⟩)
theorem vz (w:World)(g n k:Nat)(h:k≠g):(w.freeze ⟨g,0,none⟩ n).heap[k]? = w.heap[k]?:=by
 unfold World.freeze
 split
 ·rfl
 ·simp only [Array.getElem?_modify]
  rw [if_neg (λ e=>h e.symm)]
theorem wR (w:World)(g n:Nat)(a:Addr):(w.freeze ⟨g,0,none⟩ n).cell? a=w.cell? a:=by
 unfold World.freeze
 split
 ·rfl
 ·simp only [World.cell?,Array.getElem?_modify]
  by_cases h:g=a.block
  ·simp only [h,if_true]
   cases w.heap[a.block]? with
   | none=>rfl
   | some o=>cases o <;> rfl
  ·simp only [h,if_false]
theorem wk (w:World)(g n:Nat):(w.freeze ⟨g,0,none⟩ n).heap.size=w.heap.size:=by
 unfold World.freeze; split <;> simp
theorem wM (w:World)(g n:Nat):(w.freeze ⟨g,0,none⟩ n).os=w.os∧(w.freeze ⟨g,0,none⟩ n).output=w.output∧(w.freeze ⟨g,0,none⟩ n).tape=w.tape:=by
 unfold World.freeze; split <;> exact ⟨rfl,rfl,rfl⟩
def ghS (g:Gh):Gh:=⟨g.st,λ i=>if M1≤i∧i < 2*M1 then g.ow i else none⟩
theorem vo {g:Gh}{i b:Nat}(h:(ghS g).ow i=some b):M1≤i∧i < 2*M1∧g.ow i=some b:=by
 simp only [ghS] at h
 split at h
 ·rename_i h1; exact ⟨h1.1,h1.2,h⟩
 ·cases h
theorem yb {w w':World}{g:Gh}{q:Nat}(hok:Ok0 w g.st)(hown:∀ i b,g.ow i=some b→b < w.heap.size∧i < 2*M1)
  (hinj:∀ i j b,g.ow i=some b→g.ow j=some b→i=j) (hnst:∀ i b,M1≤i→g.ow i=some b→∀ o,¬ g.st b o)
  (hq:g.ow 900000=some q∨w.heap.size≤q) (os:w'.os=w.os) (out:w'.output=w.output) (tape:w'.tape=w.tape) (size:w.heap.size≤w'.heap.size)
  (other:∀ k,k < w.heap.size→k≠q→w'.heap[k]? = w.heap[k]?) (cell:∀ b o,b < w.heap.size→w'.cell? ⟨b,o,none⟩=w.cell? ⟨b,o,none⟩):nF w g w' (ghS g):=by
 have hev:Ev w g.st w' g.st:=λ k o hk=>⟨hk,cell k o (hok.lt k o hk)⟩
 refine ⟨os,out,tape,size,λ k hk hno=>other k hk (λ e=>?_),λ i k hi=>?_,λ i j k hi hj=>?_,λ k o hk=>Nat.lt_of_lt_of_le (hok.lt k o hk) size,λ k hk _ o=>Iff.rfl,λ i h1 h2=>?_,λ i k c e h1 h2 h3=>?_,λ i k hi hk o=>hnst i k hi hk o,hev⟩
 ·rcases hq with hq | hq
  ·exact hno _ (e ▸ hq)
  ·omega
 ·obtain ⟨_,_,h1⟩:=vo hi
  exact ⟨Nat.lt_of_lt_of_le (hown _ _ h1).1 size,.inr ⟨_,h1⟩⟩
 ·exact hinj _ _ _ (vo hi).2.2 (vo hj).2.2
 ·simp only [ghS]; rw [if_pos ⟨h1,h2⟩]
 ·refine ⟨c,(other k (hown _ _ h2).1 (λ e=>?_)).trans h3,rfl⟩
  rcases hq with hq | hq
  ·have:=hinj _ _ _ h2 (e ▸ hq); unfold M1 at *; omega
  ·have:=(hown _ _ h2).1; omega
theorem ob_S {w':World}{g:Gh}{es:List PV}{T b:Nat}{p q:Value}(hb:g.ow 1000000=some b)(h4:∀ o,¬ g.st b o)(h:w'.heap[b]? = some (.cells #[p,q] T (0,0)))
  (hp:p=.pointer none∨p=.pointer (some ⟨b,0,none⟩)) (hq:PRep w' g.st (.slice es) q):iI w' (ghS g) 1000000 [.bptr T 2 1000000,.p (.slice es)]:=by
 have how:(ghS g).ow 1000000=some b:=by simp only [ghS]; rw [if_pos (by decide)]; exact hb
 refine ⟨b,#[p,q],T,how,h,by simp,h4,λ i x hx=>?_⟩
 match i,hx with
 | 0,hx =>
  simp only [List.getElem?_cons_zero,Option.some.injEq] at hx; subst hx
  refine ⟨p,rfl,?_⟩
  rcases hp with rfl | rfl
  ·exact .bptrn how h rfl
  ·exact .bptr how h rfl
 | 1,hx =>
  simp only [List.getElem?_cons_succ,List.getElem?_cons_zero,Option.some.injEq] at hx; subst hx
  exact ⟨q,rfl,.p hq⟩
 | n+2,hx=>simp at hx
theorem fA (b_0:aB)(r:Bytes×aB)(h0:dc b_0=some r):bH Tryz.prog 80 [.ptr 1000000 0] [(1000000,[.bptr 110 2 1000000,.vec 900000 1 (5+1) (b_0.fbuf.map eU)])]
  (λ x y=>x=.p (eS r.1)∧y=[(1000000,[.bptr 110 2 1000000,.p (eL eU r.2.fbuf)])]):=by
 obtain ⟨hmax,h0⟩:=kz h0
 cases h0
 intro w g vs hok hown hinj hnst hsz hargs hobs
 obtain ⟨b,p,q,hb,rfl,hheap,hbs,hp,hq⟩:=BA hsz hargs hobs
 have hbl:b < w.heap.size:=(hown _ _ hb).1
 obtain ⟨l,hl⟩:∃ l,l=b_0.fbuf:=⟨_,rfl⟩
 rw [← hl] at hq ⊢
 -- a builder that holds nothing
 have none_:∀ q0,l=[]→q=q0→(Calls Tryz.prog 80 #[.pointer (some ⟨b,0,none⟩)] w λ e w'=>e=.returned (.string ⟨#[]⟩)∧Below w.heap.size w w')→PRep w g.st (.slice []) q0 →
   Calls Tryz.prog 80 #[.pointer (some ⟨b,0,none⟩)] w λ e w'=>∃ v r obs' g',e=.returned v∧(r=.p (eS l)∧obs'=[(1000000,[.bptr 110 2 1000000,.p (eL eU l)])])∧ARep w' g' r v∧(∀ p∈obs',iI w' g' p.1 p.2)∧nF w g w' g':=by
  rintro q0 rfl rfl hc hr
  refine hc.mono ?_
  rintro e w' ⟨rfl,hB⟩
  have hcell:∀ b o,b < w.heap.size→w'.cell? ⟨b,o,none⟩=w.cell? ⟨b,o,none⟩:=λ b o h=>hB.cell (p:=⟨b,o,none⟩) h
  refine ⟨_,_,_,ghS g,rfl,⟨rfl,rfl⟩,.p (.val _),λ x hx=>?_,yb (q:=w.heap.size) hok hown hinj hnst (.inr (Nat.le_refl _)) hB.os hB.output hB.tape hB.size (λ k hk _=>hB.block k hk) hcell⟩
  simp only [List.mem_singleton] at hx; subst hx
  exact ob_S hb hbs ((hB.block b hbl).trans hheap) hp (hr.mono (w':=w') (st':=g.st) (λ k o hk=>⟨hk,hcell k o (hok.lt k o hk)⟩))
 generalize hes:l.map eU=es at hq
 cases hq with
 | vecn =>
  have e:l=[]:=by simpa using hes
  exact none_ _ e rfl (xC b p w hheap) .nils
 | vec how hb2 hcs hsz2 hst hr hty =>
  rename_i g2 off2 cap c e2
  have he2:e2=5∧off2=0:=by
   rcases hty with h | h
   ·cases h
   ·exact ⟨(Nat.succ.inj h.1).symm,h.2⟩
  obtain ⟨rfl,rfl⟩:=he2
  rw [Nat.zero_add] at hcs
  simp only [Nat.zero_add] at hst
  have hgl:g2 < w.heap.size:=(hown _ _ how).1
  subst hes
  simp only [List.length_map] at hheap
  by_cases hl0:l=[]
  ·subst hl0
   by_cases hc0:cap=0
   ·subst hc0
    exact none_ _ rfl rfl (uk b g2 p c w hheap hb2) (by simpa using hr)
   ·exact none_ _ rfl rfl (wH b g2 cap p w hc0 hheap) (by simpa using hr)
  ·have hcap:l.length≤cap:=by
    obtain ⟨a',cap',he,hle⟩:=nD hr
    cases he
    simpa using hle
   have hcell:∀ (j:Nat) x,l[j]? = some x→w.cell? ⟨g2,j,none⟩=some (.int .u8 x.toNat):=by
    intro j x hx
    have hinv:=CY hsz2 hb2 hr
    obtain ⟨_,u,hu,hru⟩:=hinv j (eU x) 0 (eU x) (by simp [hx]) rfl
    cases hru
    simp only [World.cell?,hb2]
    simpa using hu
   refine (xw b g2 cap p c l w hl0 (by simpa using hheap) hb2 hcap (by simpa using hcs) ?_ hcell).mono ?_
   ·rw [hl]; exact hmax
   rintro e w' ⟨rfl,rfl⟩
   have hother:∀ k,k≠g2→(w.drew.freeze ⟨g2,0,none⟩ l.length).heap[k]? = w.heap[k]?:=λ k hk=>vz w.drew g2 _ k hk
   have hcell2:∀ b o,(w.drew.freeze ⟨g2,0,none⟩ l.length).cell? ⟨b,o,none⟩=w.cell? ⟨b,o,none⟩:=λ b o=>wR w.drew g2 _ _
   obtain ⟨r1,r2,r3⟩:=wM w.drew g2 l.length
   refine ⟨_,_,_,ghS g,rfl,⟨rfl,rfl⟩,.p (.val _),λ x hx=>?_,yb (q:=g2) hok hown hinj hnst (.inl how) r1 r2 r3 (by rw [wk]; exact Nat.le_refl _) (λ k _ hk=>hother k hk) (λ b o _=>hcell2 b o)⟩
   simp only [List.mem_singleton] at hx; subst hx
   have hne:b≠g2:=λ e=>by subst e; have:=hinj _ _ _ hb how; omega
   exact ob_S hb hbs ((hother b hne).trans (by simpa using hheap)) hp (by simpa using hr.mono (w':=w.drew.freeze ⟨g2,0,none⟩ l.length) (st':=g.st) (λ k o hk=>⟨hk,hcell2 k o⟩))
end Go.Ab
end
section
namespace Go.Ab.RB
open Go.Proofs Go.Ab
attribute [local irreducible] awp d8 aP aw bH AV.sub M dD
def cV (p_0:List UInt8)(r_1:Int):Option (List UInt8) :=
 if IntKind.wrap .u32 (r_1)≤2047 then
  ck ((0:Int)≤6) <|
  ck ((0:Int)≤iOr .u8 192 (IntKind.wrap .u8 (cC .i32 r_1 6))∧iOr .u8 192 (IntKind.wrap .u8 (cC .i32 r_1 6)) < 256) <|
  ck ((0:Int)≤iOr .u8 128 (bw .u8 (IntKind.wrap .u8 (r_1)) 63)∧iOr .u8 128 (bw .u8 (IntKind.wrap .u8 (r_1)) 63) < 256) <|
  ck ((p_0.length+[u8 (iOr .u8 192 (IntKind.wrap .u8 (cC .i32 r_1 6))),u8 (iOr .u8 128 (bw .u8 (IntKind.wrap .u8 (r_1)) 63))].length)*1≤140737488355328) <|
  some (p_0++[u8 (iOr .u8 192 (IntKind.wrap .u8 (cC .i32 r_1 6))),u8 (iOr .u8 128 (bw .u8 (IntKind.wrap .u8 (r_1)) 63))])
 else
  (
    if IntKind.wrap .u32 (r_1) < 55296 then
     some true
    else
     if 57343 < IntKind.wrap .u32 (r_1) then
      some (decide (IntKind.wrap .u32 (r_1)≤65535))
     else
      some false
   : Option Bool).bind λ t8 =>
  if t8=true then
   ck ((0:Int)≤12) <|
   ck ((0:Int)≤6) <|
   ck ((0:Int)≤iOr .u8 224 (IntKind.wrap .u8 (cC .i32 r_1 12))∧iOr .u8 224 (IntKind.wrap .u8 (cC .i32 r_1 12)) < 256) <|
   ck ((0:Int)≤iOr .u8 128 (bw .u8 (IntKind.wrap .u8 (cC .i32 r_1 6)) 63)∧iOr .u8 128 (bw .u8 (IntKind.wrap .u8 (cC .i32 r_1 6)) 63) < 256) <|
   ck ((0:Int)≤iOr .u8 128 (bw .u8 (IntKind.wrap .u8 (r_1)) 63)∧iOr .u8 128 (bw .u8 (IntKind.wrap .u8 (r_1)) 63) < 256) <|
   ck ((p_0.length+[u8 (iOr .u8 224 (IntKind.wrap .u8 (cC .i32 r_1 12))),u8 (iOr .u8 128 (bw .u8 (IntKind.wrap .u8 (cC .i32 r_1 6)) 63)),u8 (iOr .u8 128 (bw .u8 (IntKind.wrap .u8 (r_1)) 63))].length)*1≤140737488355328) <|
   some (p_0++[u8 (iOr .u8 224 (IntKind.wrap .u8 (cC .i32 r_1 12))),u8 (iOr .u8 128 (bw .u8 (IntKind.wrap .u8 (cC .i32 r_1 6)) 63)),u8 (iOr .u8 128 (bw .u8 (IntKind.wrap .u8 (r_1)) 63))])
  else
   (
     if 65535 < IntKind.wrap .u32 (r_1) then
      some (decide (IntKind.wrap .u32 (r_1)≤1114111))
     else
      some false
    : Option Bool).bind λ t17 =>
   if t17=true then
    ck ((0:Int)≤18) <|
    ck ((0:Int)≤12) <|
    ck ((0:Int)≤6) <|
    ck ((0:Int)≤iOr .u8 240 (IntKind.wrap .u8 (cC .i32 r_1 18))∧iOr .u8 240 (IntKind.wrap .u8 (cC .i32 r_1 18)) < 256) <|
    ck ((0:Int)≤iOr .u8 128 (bw .u8 (IntKind.wrap .u8 (cC .i32 r_1 12)) 63)∧iOr .u8 128 (bw .u8 (IntKind.wrap .u8 (cC .i32 r_1 12)) 63) < 256) <|
    ck ((0:Int)≤iOr .u8 128 (bw .u8 (IntKind.wrap .u8 (cC .i32 r_1 6)) 63)∧iOr .u8 128 (bw .u8 (IntKind.wrap .u8 (cC .i32 r_1 6)) 63) < 256) <|
    ck ((0:Int)≤iOr .u8 128 (bw .u8 (IntKind.wrap .u8 (r_1)) 63)∧iOr .u8 128 (bw .u8 (IntKind.wrap .u8 (r_1)) 63) < 256) <|
    ck ((p_0.length+[u8 (iOr .u8 240 (IntKind.wrap .u8 (cC .i32 r_1 18))),u8 (iOr .u8 128 (bw .u8 (IntKind.wrap .u8 (cC .i32 r_1 12)) 63)),u8 (iOr .u8 128 (bw .u8 (IntKind.wrap .u8 (cC .i32 r_1 6)) 63)),u8 (iOr .u8 128 (bw .u8 (IntKind.wrap .u8 (r_1)) 63))].length)*1≤140737488355328) <|
    some (p_0++[u8 (iOr .u8 240 (IntKind.wrap .u8 (cC .i32 r_1 18))),u8 (iOr .u8 128 (bw .u8 (IntKind.wrap .u8 (cC .i32 r_1 12)) 63)),u8 (iOr .u8 128 (bw .u8 (IntKind.wrap .u8 (cC .i32 r_1 6)) 63)),u8 (iOr .u8 128 (bw .u8 (IntKind.wrap .u8 (r_1)) 63))])
   else
    ck ((p_0.length+[(239:UInt8),(191:UInt8),(189:UInt8)].length)*1≤140737488355328) <|
    some (p_0++[(239:UInt8),(191:UInt8),(189:UInt8)])
theorem iV (p_0:List UInt8)(r_1:Int)(r:(List UInt8))(h0:cV p_0 r_1=some r):bH Tryz.prog 151 [.vec 900000 1 (5+1) (p_0.map eU),.p (eK .i32 r_1)] [] (λ x y=>x=.vec 2000000 1 (5+1) (r.map eU)∧y=[]):=by
 unfold cV at h0
 refine gh good [800000] [] Tryz.func151 rfl rfl rfl rfl rfl λ w0 F=>mPo (λ v:(List UInt8)=>.vec 2000000 1 (5+1) (v.map eU)) (λ v=>[]) ?_
 refine nx 17 rfl (fD [11,13] h0 rfl (λ c1 h0=>?_) λ c1 h0=>?_)
 ·exact nx 5 rfl (cc' h0 λ hk2 h0=>mO rfl (jJ rfl rfl rfl rfl rfl rfl hk2 (nx 6 rfl (cc' h0 λ hk4 h0=>cc' h0 λ hk3 h0=>mO rfl (bn eU [u8 (iOr .u8 192 (IntKind.wrap .u8 (cC .i32 r_1 6))),u8 (iOr .u8 128 (bw .u8 (IntKind.wrap .u8 (r_1)) 63))] rfl rfl rfl rfl rfl rfl rfl rfl rfl rfl rfl rfl rfl (congr (congrArg List.cons (g8 hk4)) (congr (congrArg List.cons (g8 hk3)) rfl)) (cc' h0 λ hk5 h0=>mO rfl (gw eU p_0 [u8 (iOr .u8 192 (IntKind.wrap .u8 (cC .i32 r_1 6))),u8 (iOr .u8 128 (bw .u8 (IntKind.wrap .u8 (r_1)) 63))] rfl rfl rfl rfl rfl rfl rfl rfl rfl rfl rfl rfl rfl (λ _=>rfl) rfl rfl rfl rfl hk5 (nx 3 rfl (mQo (oi h0) (br (bm 24 800000 rfl rfl rfl rfl rfl) (bM _)) rfl rfl rfl rfl (sr) trivial)))))))))
 refine nx 2 rfl (bd h0 λ o30 h1 h0=>?_)
 refine kN o30 (λ v31=>⟨[(0,.vec 900000 1 (5+1) (p_0.map eU)),(1,.p (eK .i32 r_1)),(5,.p (eK .u32 (IntKind.wrap .u32 (r_1)))),(25,.p (eB v31))],[]⟩) ?_ ?_
 ·refine nx 1 rfl (fB [25] h0 rfl (λ c9 h0=>?_) λ c9 h0=>?_)
  ·refine nx 5 rfl (cc' h0 λ hk10 h0=>mO rfl (jJ rfl rfl rfl rfl rfl rfl hk10 (nx 3 rfl (cc' h0 λ hk11 h0=>mO rfl (jJ rfl rfl rfl rfl rfl rfl hk11 (nx 7 rfl (cc' h0 λ hk14 h0=>cc' h0 λ hk13 h0=>cc' h0 λ hk12 h0=>mO rfl (bn eU [u8 (iOr .u8 224 (IntKind.wrap .u8 (cC .i32 r_1 12))),u8 (iOr .u8 128 (bw .u8 (IntKind.wrap .u8 (cC .i32 r_1 6)) 63)),u8 (iOr .u8 128 (bw .u8 (IntKind.wrap .u8 (r_1)) 63))] rfl rfl rfl rfl rfl rfl rfl rfl rfl rfl rfl rfl rfl (congr (congrArg List.cons (g8 hk14)) (congr (congrArg List.cons (g8 hk13)) (congr (congrArg List.cons (g8 hk12)) rfl))) (cc' h0 λ hk15 h0=>mO rfl (gw eU p_0 [u8 (iOr .u8 224 (IntKind.wrap .u8 (cC .i32 r_1 12))),u8 (iOr .u8 128 (bw .u8 (IntKind.wrap .u8 (cC .i32 r_1 6)) 63)),u8 (iOr .u8 128 (bw .u8 (IntKind.wrap .u8 (r_1)) 63))] rfl rfl rfl rfl rfl rfl rfl rfl rfl rfl rfl rfl rfl (λ _=>rfl) rfl rfl rfl rfl hk15 ?_))))))))))
   exact nx 3 rfl (mQo (oi h0) (br (bm 49 800000 rfl rfl rfl rfl rfl) (bM _)) rfl rfl rfl rfl (sr) trivial)
  refine nx 2 rfl (bd h0 λ o32 h1 h0=>?_)
  refine kN o32 (λ v33=>⟨[(0,.vec 900000 1 (5+1) (p_0.map eU)),(1,.p (eK .i32 r_1)),(50,.p (eB v33))],[]⟩) ?_ ?_
  ·refine nx 1 rfl (fB [50] h0 rfl (λ c18 h0=>?_) λ c18 h0=>?_)
   ·refine nx 5 rfl (cc' h0 λ hk19 h0=>mO rfl (jJ rfl rfl rfl rfl rfl rfl hk19 (nx 3 rfl (cc' h0 λ hk20 h0=>mO rfl (jJ rfl rfl rfl rfl rfl rfl hk20 (nx 4 rfl (cc' h0 λ hk21 h0=>mO rfl (jJ rfl rfl rfl rfl rfl rfl hk21 (nx 7 rfl (cc' h0 λ hk25 h0=>?_))))))))))
    exact cc' h0 λ hk24 h0=>cc' h0 λ hk23 h0=>cc' h0 λ hk22 h0=>mO rfl (bn eU [u8 (iOr .u8 240 (IntKind.wrap .u8 (cC .i32 r_1 18))),u8 (iOr .u8 128 (bw .u8 (IntKind.wrap .u8 (cC .i32 r_1 12)) 63)),u8 (iOr .u8 128 (bw .u8 (IntKind.wrap .u8 (cC .i32 r_1 6)) 63)),u8 (iOr .u8 128 (bw .u8 (IntKind.wrap .u8 (r_1)) 63))] rfl rfl rfl rfl rfl rfl rfl rfl rfl rfl rfl rfl rfl (congr (congrArg List.cons (g8 hk25)) (congr (congrArg List.cons (g8 hk24)) (congr (congrArg List.cons (g8 hk23)) (congr (congrArg List.cons (g8 hk22)) rfl)))) (cc' h0 λ hk26 h0=>mO rfl (gw eU p_0 [u8 (iOr .u8 240 (IntKind.wrap .u8 (cC .i32 r_1 18))),u8 (iOr .u8 128 (bw .u8 (IntKind.wrap .u8 (cC .i32 r_1 12)) 63)),u8 (iOr .u8 128 (bw .u8 (IntKind.wrap .u8 (cC .i32 r_1 6)) 63)),u8 (iOr .u8 128 (bw .u8 (IntKind.wrap .u8 (r_1)) 63))] rfl rfl rfl rfl rfl rfl rfl rfl rfl rfl rfl rfl rfl (λ _=>rfl) rfl rfl rfl rfl hk26 (nx 3 rfl (mQo (oi h0) (br (bm 77 800000 rfl rfl rfl rfl rfl) (bM _)) rfl rfl rfl rfl (sr) trivial)))))
   exact nx 4 rfl (mO rfl (bn eU [(239:UInt8),(191:UInt8),(189:UInt8)] rfl rfl rfl rfl rfl rfl rfl rfl rfl rfl rfl rfl rfl rfl (cc' h0 λ hk27 h0=>mO rfl (gw eU p_0 [(239:UInt8),(191:UInt8),(189:UInt8)] rfl rfl rfl rfl rfl rfl rfl rfl rfl rfl rfl rfl rfl (λ _=>rfl) rfl rfl rfl rfl hk27 (nx 3 rfl (mQo (oi h0) (br (bm 10 800000 rfl rfl rfl rfl rfl) (bM _)) rfl rfl rfl rfl (sr) trivial))))))
  refine nx 4 rfl (fD [52,53] h1 rfl (λ c16 h1=>?_) λ c16 h1=>?_)
  ·exact nx 5 rfl (eX _ (oi h1).symm (gE rfl rfl))
  exact nx 5 rfl (eX _ (oi h1).symm (gE rfl rfl))
 refine nx 6 rfl (fD [25,27] h1 rfl (λ c6 h1=>?_) λ c6 h1=>?_)
 ·exact nx 2 rfl (eX _ (oi h1).symm (gE rfl rfl))
 refine nx 5 rfl (fD [29,30] h1 rfl (λ c7 h1=>?_) λ c7 h1=>?_)
 ·exact nx 5 rfl (eX _ (oi h1).symm (gE rfl rfl))
 exact nx 5 rfl (eX _ (oi h1).symm (gE rfl rfl))
def dH (p_0:List UInt8)(r_1:Int):Option (List UInt8) :=
 if IntKind.wrap .u32 (r_1)≤127 then
  ck ((0:Int)≤IntKind.wrap .u8 (r_1)∧IntKind.wrap .u8 (r_1) < 256) <|
  ck ((p_0.length+[u8 (IntKind.wrap .u8 (r_1))].length)*1≤140737488355328) <|
  some (p_0++[u8 (IntKind.wrap .u8 (r_1))])
 else
  (cV p_0 r_1).bind λ r4 =>
  some r4
theorem lD (p_0:List UInt8)(r_1:Int)(r:(List UInt8))(h0:dH p_0 r_1=some r):bH Tryz.prog 139 [.vec 900000 1 (5+1) (p_0.map eU),.p (eK .i32 r_1)] [] (λ x y=>x=.vec 2000000 1 (5+1) (r.map eU)∧y=[]):=by
 unfold dH at h0
 refine gh good [800000] [] Tryz.func139 rfl rfl rfl rfl rfl λ w0 F=>mPo (λ v:(List UInt8)=>.vec 2000000 1 (5+1) (v.map eU)) (λ v=>[]) ?_
 refine nx 11 rfl (fD [7] h0 rfl (λ c1 h0=>?_) λ c1 h0=>?_)
 ·exact nx 6 rfl (cc' h0 λ hk2 h0=>mO rfl (bn eU [u8 (IntKind.wrap .u8 (r_1))] rfl rfl rfl rfl rfl rfl rfl rfl rfl rfl rfl rfl rfl (congr (congrArg List.cons (g8 hk2)) rfl) (cc' h0 λ hk3 h0=>mO rfl (gw eU p_0 [u8 (IntKind.wrap .u8 (r_1))] rfl rfl rfl rfl rfl rfl rfl rfl rfl rfl rfl rfl rfl (λ _=>rfl) rfl rfl rfl rfl hk3 (nx 3 rfl (mQo (oi h0) (br (bm 12 800000 rfl rfl rfl rfl rfl) (bM _)) rfl rfl rfl rfl (sr) trivial))))))
 exact nx 6 rfl (bd h0 λ r4 e5 h0=>mO rfl (bS [] [900000] 101000 101001 (iV p_0 r_1 _ e5) rfl rfl rfl rfl rfl ⟨sr,sr,trivial⟩ rfl rfl trivial rfl rfl rfl rfl rfl rfl rfl rfl Tryz.call151 rfl rfl (nx 3 rfl (mQo (oi h0) (br (bm 101000 800000 rfl rfl rfl rfl rfl) (bM _)) rfl rfl rfl rfl (sr) trivial))))
def a8 (b_0:aB)(s_1:Bytes):Option (Int×Bool×aB) :=
 (ce (aB.mk b_0.fbuf)).bind λ r1 =>
 ck ((r1.fbuf.length+s_1.length)*1≤140737488355328) <|
 some ((s_1.length:Int),false,(aB.mk (r1.fbuf++s_1)))
theorem bK (b_0:aB)(s_1:Bytes)(r:Int×Bool×aB)(h0:a8 b_0 s_1=some r):bH Tryz.prog 78 [.ptr 1000000 0,.p (eS s_1)] [(1000000,[.bptr 110 2 1000000,.vec 900000 1 (5+1) (b_0.fbuf.map eU)])] (λ x y=>x=.tuple [.p (eI r.1),.p (eE r.2.1)]∧y=[(1000000,[.bptr 110 2 1000000,.vec 2000000 1 (5+1) (r.2.2.fbuf.map eU)])]):=by
 unfold a8 at h0
 refine gh good [800000] [1000000] Tryz.func78 rfl rfl rfl rfl rfl λ w0 F=>mPo (λ v:Int×Bool×aB=>.tuple [.p (eI v.1),.p (eE v.2.1)]) (λ v=>[(1000000,[.bptr 110 2 1000000,.vec 2000000 1 (5+1) (v.2.2.fbuf.map eU)])]) ?_
 exact nx 8 rfl (bd h0 λ r1 e2 h0=>mO rfl (bS [1000000] [900000] 101000 101001 (eM (aB.mk b_0.fbuf) _ e2) rfl rfl rfl rfl rfl ⟨sr,trivial⟩ rfl rfl ⟨⟨_,rfl,⟨sr,sr,trivial⟩⟩,trivial⟩ rfl rfl rfl rfl rfl rfl rfl rfl Tryz.call100 rfl rfl (nx 9 rfl (cc' h0 λ hk3 h0=>mO rfl (BK r1.fbuf s_1 rfl rfl rfl rfl rfl rfl rfl rfl rfl rfl rfl rfl rfl rfl rfl hk3 (nx 7 rfl (oLs rfl (nx 4 rfl (mQo (oi h0) (br (bm 14 800000 rfl rfl rfl rfl rfl) (bM _)) rfl rfl rfl rfl (ar ⟨sr,sr,trivial⟩) ⟨⟨_,rfl,⟨sr,sr,trivial⟩⟩,trivial⟩)))))))))
def bF (b_0:aB)(c_1:Int):Option (Bool×aB) :=
 (ce (aB.mk b_0.fbuf)).bind λ r1 =>
 ck ((0:Int)≤c_1∧c_1 < 256) <|
 ck ((r1.fbuf.length+[u8 c_1].length)*1≤140737488355328) <|
 some (false,(aB.mk (r1.fbuf++[u8 c_1])))
theorem cF (b_0:aB)(c_1:Int)(r:Bool×aB)(h0:bF b_0 c_1=some r):bH Tryz.prog 120 [.ptr 1000000 0,.p (eK .u8 c_1)] [(1000000,[.bptr 110 2 1000000,.vec 900000 1 (5+1) (b_0.fbuf.map eU)])] (λ x y=>x=.p (eE r.1)∧y=[(1000000,[.bptr 110 2 1000000,.vec 2000000 1 (5+1) (r.2.fbuf.map eU)])]):=by
 unfold bF at h0
 refine gh good [800000] [1000000] Tryz.func120 rfl rfl rfl rfl rfl λ w0 F=>mPo (λ v:Bool×aB=>.p (eE v.1)) (λ v=>[(1000000,[.bptr 110 2 1000000,.vec 2000000 1 (5+1) (v.2.fbuf.map eU)])]) ?_
 exact nx 7 rfl (bd h0 λ r1 e2 h0=>mO rfl (bS [1000000] [900000] 101000 101001 (eM (aB.mk b_0.fbuf) _ e2) rfl rfl rfl rfl rfl ⟨sr,trivial⟩ rfl rfl ⟨⟨_,rfl,⟨sr,sr,trivial⟩⟩,trivial⟩ rfl rfl rfl rfl rfl rfl rfl rfl Tryz.call100 rfl rfl (nx 9 rfl (cc' h0 λ hk3 h0=>mO rfl (bn eU [u8 c_1] rfl rfl rfl rfl rfl rfl rfl rfl rfl rfl rfl rfl rfl (congr (congrArg List.cons (g8 hk3)) rfl) (cc' h0 λ hk4 h0=>mO rfl (gw eU r1.fbuf [u8 c_1] rfl rfl rfl rfl rfl rfl rfl rfl rfl rfl rfl rfl rfl (λ _=>rfl) rfl rfl rfl rfl hk4 (nx 9 rfl (mQo (oi h0) (br (bm 14 800000 rfl rfl rfl rfl rfl) (bM _)) rfl rfl rfl rfl (sr) ⟨⟨_,rfl,⟨sr,sr,trivial⟩⟩,trivial⟩)))))))))
def de (b_0:aB)(r_1:Int):Option (Int×Bool×aB) :=
 (ce (aB.mk b_0.fbuf)).bind λ r1 =>
 (dH r1.fbuf r_1).bind λ r3 =>
 ck (inR ((r3.length:Int) - (r1.fbuf.length:Int))) <|
 some ((r3.length:Int) - (r1.fbuf.length:Int),false,(aB.mk r3))
theorem kD (b_0:aB)(r_1:Int)(r:Int×Bool×aB)(h0:de b_0 r_1=some r):bH Tryz.prog 118 [.ptr 1000000 0,.p (eK .i32 r_1)] [(1000000,[.bptr 110 2 1000000,.vec 900000 1 (5+1) (b_0.fbuf.map eU)])] (λ x y=>x=.tuple [.p (eI r.1),.p (eE r.2.1)]∧y=[(1000000,[.bptr 110 2 1000000,.vec 2000000 1 (5+1) (r.2.2.fbuf.map eU)])]):=by
 unfold de at h0
 refine gh good [800000] [1000000] Tryz.func118 rfl rfl rfl rfl rfl λ w0 F=>mPo (λ v:Int×Bool×aB=>.tuple [.p (eI v.1),.p (eE v.2.1)]) (λ v=>[(1000000,[.bptr 110 2 1000000,.vec 2000000 1 (5+1) (v.2.2.fbuf.map eU)])]) ?_
 refine nx 8 rfl (bd h0 λ r1 e2 h0=>mO rfl (bS [1000000] [900000] 101000 101001 (eM (aB.mk b_0.fbuf) _ e2) rfl rfl rfl rfl rfl ⟨sr,trivial⟩ rfl rfl ⟨⟨_,rfl,⟨sr,sr,trivial⟩⟩,trivial⟩ rfl rfl rfl rfl rfl rfl rfl rfl Tryz.call100 rfl rfl (nx 7 rfl (oLl (f:=eU) rfl rfl (nx 10 rfl (bd h0 λ r3 e4 h0=>mO rfl (bS [] [101000] 102000 102001 (lD r1.fbuf r_1 _ e4) rfl rfl rfl rfl rfl ⟨sr,sr,trivial⟩ rfl rfl trivial rfl rfl rfl rfl rfl rfl rfl rfl Tryz.call139 rfl rfl (nx 10 rfl (oLl (f:=eU) rfl rfl (nx 1 rfl (oA h0 rfl rfl λ hk5 h0=>?_)))))))))))
 exact nx 3 rfl (mG (gE (t:=⟨[(4,.p (eI ((r3.length:Int) - (r1.fbuf.length:Int)))),(5,.p (eE false))],[(1000000,[.bptr 110 2 1000000,.vec 102000 1 (5+1) (r3.map eU)])]⟩) rfl rfl) (nx 1 rfl (mQo (oi h0) (br (bm 102000 800000 rfl rfl rfl rfl rfl) (bM _)) rfl rfl rfl rfl (ar ⟨sr,sr,trivial⟩) ⟨⟨_,rfl,⟨sr,sr,trivial⟩⟩,trivial⟩)))
def iw (b_0:aB):Option (Int×aB) :=
 some ((b_0.fbuf.length:Int),(aB.mk b_0.fbuf))
theorem mI (b_0:aB)(r:Int×aB)(h0:iw b_0=some r):bH Tryz.prog 119 [.ptr 1000000 0] [(1000000,[.bptr 110 2 1000000,.vec 900000 1 (5+1) (b_0.fbuf.map eU)])] (λ x y=>x=.p (eI r.1)∧y=[(1000000,[.bptr 110 2 1000000,.vec 2000000 1 (5+1) (r.2.fbuf.map eU)])]):=by
 unfold iw at h0
 refine gh good [800000] [1000000] Tryz.func119 rfl rfl rfl rfl rfl λ w0 F=>mPo (λ v:Int×aB=>.p (eI v.1)) (λ v=>[(1000000,[.bptr 110 2 1000000,.vec 2000000 1 (5+1) (v.2.fbuf.map eU)])]) ?_
 exact nx 10 rfl (oLl (f:=eU) rfl rfl (nx 3 rfl (mQo (oi h0) (br (bm 900000 800000 rfl rfl rfl rfl rfl) (bM _)) rfl rfl rfl rfl (sr) ⟨⟨_,rfl,⟨sr,sr,trivial⟩⟩,trivial⟩)))
end Go.Ab.RB
end
section
namespace Go.Ab
open Go.RowKit
theorem aw.of_calls {P:Program}{f:FuncId}{l:List Value}{r:AV}
  (h:∀ (w:World) (st:Nat→Nat→Prop),Ok0 w st→Calls P f l.toArray w λ e w'=>∃ v,e=.returned v∧Below w.heap.size w w'∧∀ g',ARep w' g' r v):aw P f (l.map PV.val) (·=r):=by
 intro w st vs hok hsz hargs
 have e:vs=l.toArray:=by
  apply Array.ext
  ·simpa using hsz
  ·intro i h1 h2
   have hi:i < l.length:=by simpa using h2
   have:=hargs i (.val l[i]) vs[i] (by simp [hi]) (Array.getElem?_eq_getElem h1)
   generalize hv:vs[i]=v at this
   cases this
   simp
 subst e
 refine (h w st hok).mono ?_
 rintro e w' ⟨v,rfl,hB,hr⟩
 refine ⟨v,r,⟨st,λ _=>none⟩,rfl,rfl,hr _,⟨hB.os,hB.output,hB.tape,hB.size,λ b hb=>hB.block b hb,?_,?_,λ b o hb=>Nat.lt_of_lt_of_le (hok.lt b o hb) hB.size,λ b _ o=>Iff.rfl⟩⟩
 ·intro i b hi; cases hi
 ·intro i j b hi; cases hi
theorem oe {w:World}{st:Nat→Nat→Prop}(h:kB w st){g j:Nat}{l:List GC}{k:IntKind}{n:Int}(hl:look qd g=some l)(hj:l[j]? = some (.int k n)):w.cell? ⟨g,j,none⟩=some (.int k n):=by
 obtain ⟨_,v,h2,h3⟩:=(h g (l.map GC.pv) (by rw [mL,hl]; rfl)).1 j (.val (.int k n)) (by rw [List.getElem?_map,hj]; rfl)
 cases h3
 exact h2
theorem we {w:World}{st:Nat→Nat→Prop}(h:kB w st){g j:Nat}{l:List GC}(hl:look qd g=some l)(hj:l[j]? = some .ifc):∃ t v,w.cell? ⟨g,j,none⟩=some (.iface t v):=by
 obtain ⟨_,v,h2,h3⟩:=(h g (l.map GC.pv) (by rw [mL,hl]; rfl)).1 j .ifc (by rw [List.getElem?_map,hj]; rfl)
 cases h3 with
 | ifc t v=>exact ⟨t,v,h2⟩
theorem A5 {P:Program}{w:World}{st:Nat→Nat→Prop}(h:kB w st){g:Nat}{l:List GC}{nm:String}{k:IntKind}{zs:List Int}(hl:look qd g=some l)(hn:P.globalNamed nm=some g)(hz:l=zs.map (GC.int k))(hne:zs≠[]):Lib.TabIs P w nm k zs:=by
 obtain ⟨h0,h1,h2⟩:=h g (l.map GC.pv) (by rw [mL,hl]; rfl)
 have hc:∀ (j:Nat) z,zs[j]? = some z→w.cell? ⟨g,j,none⟩=some (.int k z):=λ j z hj=>oe h hl (by rw [hz,List.getElem?_map,hj]; rfl)
 unfold Lib.TabIs World.var?
 rw [hn]
 simp only [Option.bind_some]
 have hlen:(l.map GC.pv).length=zs.length:=by rw [hz]; simp
 rw [hlen] at h2
 obtain ⟨z0,hz0⟩:∃ z0,zs[0]? = some z0:=by
  cases zs with
  | nil=>exact absurd rfl hne
  | cons z r=>exact ⟨z,rfl⟩
 have hc0:=hc 0 z0 hz0
 simp only [World.cell?] at hc hc0 h2
 cases hh:w.heap[g]? with
 | none=>rw [hh] at hc0; cases hc0
 | some o =>
  rw [hh] at hc hc0 h2
  cases o with
  | cells c e fz =>
   simp only [Option.isSome_none,Bool.false_eq_true,if_false] at hc hc0 h2
   refine congrArg some ?_
   apply Array.ext_getElem?
   intro j
   by_cases hj:j < zs.length
   ·rw [hc j zs[j] (List.getElem?_eq_getElem hj)]
    simp [hj]
   ·have h3:c.size≤zs.length:=by
     rcases Nat.lt_or_ge zs.length c.size with h' | h'
     ·rw [Array.getElem?_eq_getElem h'] at h2; cases h2
     ·exact h'
    rw [Array.getElem?_eq_none (by omega),Array.getElem?_eq_none (by simp; omega)]
  | _=>simp at hc0
theorem gB (s:Bytes):(str s).data.toList=s:=by simp [str]
theorem lh (w:World):Below w.heap.size w w:=Below.refl _ w
end Go.Ab
end
section
namespace Go.Proofs
open Go.Shelf
def Tryz.lays119_ren:Go.Shelf.Ren:=⟨λ | 119=>134 | n=>n,λ | 21=>21 | 4=>4 | n=>n,λ | n=>n⟩
theorem Tryz.lays119:Go.Proofs.Lays.n119 Tryz.prog Tryz.lays119_ren:={
 mixed:=by kernel_rfl
 f119:=Tryz.func134.trans (congrArg some (by kernel_rfl))
 t4:=Tryz.underlying4
 a4:=Tryz.isAgg4
 z4:=Tryz.sizeOf4
 v4:=Tryz.zeroValue4
 t21:=Tryz.underlying21
 a21:=Tryz.isAgg21
 z21:=Tryz.sizeOf21
 v21:=Tryz.zeroValue21 }
theorem Tryz.utf8_ValidRune (r:Int)(w:World) :
  Calls Tryz.prog 134 #[.int .i32 r] w λ e w'=>e=.returned (.bool (Lib.validRune r))∧w'=w:=Any.utf8_ValidRune Tryz.lays119 r w
def Tryz.lays137_ren:Go.Shelf.Ren:=⟨λ | 137=>97 | 217=>122 | 266=>141 | n=>n,λ | 9=>9 | 5=>5 | 3=>3 | n=>n,λ | n=>n⟩
theorem Tryz.lays137:Go.Proofs.Lays.n137 Tryz.prog Tryz.lays137_ren:={
 mixed:=by kernel_rfl
 f137:=Tryz.func97.trans (congrArg some (by kernel_rfl))
 f217:=Tryz.func122.trans (congrArg some (by kernel_rfl))
 f266:=Tryz.func141.trans (congrArg some (by kernel_rfl))
 t3:=Tryz.underlying3
 a3:=Tryz.isAgg3
 z3:=Tryz.sizeOf3
 v3:=Tryz.zeroValue3
 t5:=Tryz.underlying5
 a5:=Tryz.isAgg5
 z5:=Tryz.sizeOf5
 v5:=Tryz.zeroValue5
 t9:=Tryz.underlying9
 a9:=Tryz.isAgg9
 z9:=Tryz.sizeOf9
 v9:=Tryz.zeroValue9 }
open Go.RowKit in
theorem Tryz.strings_IndexByte (s:ByteArray)(c:Int)(w:World) :
  Calls Tryz.prog 97 #[.string s,.int .u8 c] w λ e w'=>e=.returned (.int .i64 (Lib.indexByte s.data.toList c.toNat.toUInt8))∧w'=w:=Any.strings_IndexByte Tryz.lays137 s c w
def Tryz.lays103_ren:Go.Shelf.Ren:=⟨λ | 103=>92 | 210=>111 | 206=>91 | n=>n,λ | 9=>9 | 4=>4 | 24=>126 | 3=>3 | n=>n,λ | n=>n⟩
theorem Tryz.lays103:Go.Proofs.Lays.n103 Tryz.prog Tryz.lays103_ren:={
 mixed:=by kernel_rfl
 f103:=Tryz.func92.trans (congrArg some (by kernel_rfl))
 f206:=Tryz.func91.trans (congrArg some (by kernel_rfl))
 f210:=Tryz.func111.trans (congrArg some (by kernel_rfl))
 t3:=Tryz.underlying3
 a3:=Tryz.isAgg3
 z3:=Tryz.sizeOf3
 v3:=Tryz.zeroValue3
 t4:=Tryz.underlying4
 a4:=Tryz.isAgg4
 z4:=Tryz.sizeOf4
 v4:=Tryz.zeroValue4
 t9:=Tryz.underlying9
 a9:=Tryz.isAgg9
 z9:=Tryz.sizeOf9
 v9:=Tryz.zeroValue9
 t24:=Tryz.underlying126
 a24:=Tryz.isAgg126
 z24:=Tryz.sizeOf126
 v24:=Tryz.zeroValue126 }
open Go.RowKit in
theorem Tryz.strings_CutPrefix (s p:ByteArray)(w:World) :
  Calls Tryz.prog 92 #[.string s,.string p] w λ e w'=>e=.returned (.tuple #[.string ⟨(Lib.trimPrefix s.data.toList p.data.toList).toArray⟩,.bool (Lib.hasPrefix s.data.toList p.data.toList)])∧w'=w:=Any.strings_CutPrefix Tryz.lays103 s p w
def Tryz.lays99_ren:Go.Shelf.Ren:=⟨λ | 99=>68 | 206=>91 | n=>n,λ | 9=>9 | 4=>4 | 3=>3 | n=>n,λ | n=>n⟩
theorem Tryz.lays99:Go.Proofs.Lays.n99 Tryz.prog Tryz.lays99_ren:={
 mixed:=by kernel_rfl
 f99:=Tryz.func68.trans (congrArg some (by kernel_rfl))
 f206:=Tryz.func91.trans (congrArg some (by kernel_rfl))
 t3:=Tryz.underlying3
 a3:=Tryz.isAgg3
 z3:=Tryz.sizeOf3
 v3:=Tryz.zeroValue3
 t4:=Tryz.underlying4
 a4:=Tryz.isAgg4
 z4:=Tryz.sizeOf4
 v4:=Tryz.zeroValue4
 t9:=Tryz.underlying9
 a9:=Tryz.isAgg9
 z9:=Tryz.sizeOf9
 v9:=Tryz.zeroValue9 }
open Go.RowKit Go.Lib in
theorem Tryz.strings_HasPrefix (s p:ByteArray)(w:World) :
  Calls Tryz.prog 68 #[.string s,.string p] w λ e w'=>e=.returned (.bool (Lib.hasPrefix s.data.toList p.data.toList))∧w'=w:=Any.strings_HasPrefix Tryz.lays99 s p w
def Tryz.laysM171_ren:Go.Shelf.Ren:=⟨λ | 171=>128 | 243=>145 | 246=>140 | 283=>152 | 284=>153 | 285=>154 | 286=>155 | 129=>165 | 317=>164 | 318=>166 | 319=>167 | 320=>168 | 337=>175 | 338=>176 | n=>n,λ | 3=>3 | 9=>9 | 2=>2 | 4=>4 | 171=>176 | 0=>0 | 53=>177 | 37=>108 | 5=>5 | 173=>180 | 212=>191 | 51=>175 | 20=>20 | 213=>192 | 46=>165 | 232=>205 | 233=>206 | n=>n,λ | 17=>3 | 18=>6 | 19=>7 | n=>n⟩
theorem Tryz.laysM171:Go.Proofs.LaysM.n171 Tryz.prog Tryz.laysM171_ren:={
 mixed:=by kernel_rfl
 f129:=Tryz.func165.trans (congrArg some (by kernel_rfl))
 f171:=Tryz.func128.trans (congrArg some (by kernel_rfl))
 f243:=Tryz.func145.trans (congrArg some (by kernel_rfl))
 f246:=Tryz.func140.trans (congrArg some (by kernel_rfl))
 f283:=Tryz.func152.trans (congrArg some (by kernel_rfl))
 f284:=Tryz.func153.trans (congrArg some (by kernel_rfl))
 f285:=Tryz.func154.trans (congrArg some (by kernel_rfl))
 f286:=Tryz.func155.trans (congrArg some (by kernel_rfl))
 f317:=Tryz.func164.trans (congrArg some (by kernel_rfl))
 f318:=Tryz.func166.trans (congrArg some (by kernel_rfl))
 f319:=Tryz.func167.trans (congrArg some (by kernel_rfl))
 f320:=Tryz.func168.trans (congrArg some (by kernel_rfl))
 f337:=Tryz.func175.trans (congrArg some (by kernel_rfl))
 f338:=Tryz.func176.trans (congrArg some (by kernel_rfl))
 t0:=Tryz.underlying0
 a0:=Tryz.isAgg0
 z0:=Tryz.sizeOf0
 v0:=Tryz.zeroValue0
 t2:=Tryz.underlying2
 a2:=Tryz.isAgg2
 z2:=Tryz.sizeOf2
 v2:=Tryz.zeroValue2
 t3:=Tryz.underlying3
 a3:=Tryz.isAgg3
 z3:=Tryz.sizeOf3
 v3:=Tryz.zeroValue3
 t4:=Tryz.underlying4
 a4:=Tryz.isAgg4
 z4:=Tryz.sizeOf4
 v4:=Tryz.zeroValue4
 t5:=Tryz.underlying5
 a5:=Tryz.isAgg5
 z5:=Tryz.sizeOf5
 v5:=Tryz.zeroValue5
 t9:=Tryz.underlying9
 a9:=Tryz.isAgg9
 z9:=Tryz.sizeOf9
 v9:=Tryz.zeroValue9
 t20:=Tryz.underlying20
 a20:=Tryz.isAgg20
 z20:=Tryz.sizeOf20
 v20:=Tryz.zeroValue20
 t37:=Tryz.underlying108
 a37:=Tryz.isAgg108
 z37:=Tryz.sizeOf108
 v37:=Tryz.zeroValue108
 t46:=Tryz.underlying165
 a46:=Tryz.isAgg165
 z46:=Tryz.sizeOf165
 v46:=Tryz.zeroValue165
 t51:=Tryz.underlying175
 a51:=Tryz.isAgg175
 z51:=Tryz.sizeOf175
 v51:=Tryz.zeroValue175
 t53:=Tryz.underlying177
 a53:=Tryz.isAgg177
 z53:=Tryz.sizeOf177
 v53:=Tryz.zeroValue177
 t171:=Tryz.underlying176
 a171:=Tryz.isAgg176
 z171:=Tryz.sizeOf176
 v171:=Tryz.zeroValue176
 t173:=Tryz.underlying180
 a173:=Tryz.isAgg180
 z173:=Tryz.sizeOf180
 v173:=Tryz.zeroValue180
 t212:=Tryz.underlying191
 a212:=Tryz.isAgg191
 z212:=Tryz.sizeOf191
 v212:=Tryz.zeroValue191
 t213:=Tryz.underlying192
 a213:=Tryz.isAgg192
 z213:=Tryz.sizeOf192
 t232:=Tryz.underlying205
 a232:=Tryz.isAgg205
 z232:=Tryz.sizeOf205
 v232:=Tryz.zeroValue205
 t233:=Tryz.underlying206
 a233:=Tryz.isAgg206
 z233:=Tryz.sizeOf206
 v233:=Tryz.zeroValue206
 g17:=by kernel_rfl
 g18:=by kernel_rfl
 g19:=by kernel_rfl
 i0:=by kernel_rfl
 i2:=by kernel_rfl
 i3:=by kernel_rfl
 i4:=by kernel_rfl
 i5:=by kernel_rfl
 i9:=by kernel_rfl
 i20:=by kernel_rfl
 i37:=by kernel_rfl
 i46:=by kernel_rfl
 i51:=by kernel_rfl
 i53:=by kernel_rfl
 i171:=by kernel_rfl
 i173:=by kernel_rfl
 i212:=by kernel_rfl
 i232:=by kernel_rfl
 i233:=by kernel_rfl
 m17:=by kernel_rfl
 m18:=by kernel_rfl
 m19:=by kernel_rfl }
open Go.RowKit Go.Sort Go.Lib in
theorem Tryz.strconv_Itoa (n:Int)(h0:-9223372036854775808≤n)(h1:n≤9223372036854775807)(w:World)(htab:Lib.TabIs Tryz.prog w "internal/strconv.uint64pow10" .u64 Lib.pow10Tab) :
  Calls Tryz.prog 128 #[.int .i64 n] w λ e w'=>e=.returned (.string ⟨(Lib.itoa n).toArray⟩)∧∃ k os,w'=grow (w.drewN k) os:=Any.strconv_Itoa Tryz.laysM171 n h0 h1 w htab
def Tryz.laysC174_ren:Go.Shelf.Ren:=⟨λ | 174=>124 | 247=>142 | 245=>143 | 287=>156 | 279=>157 | 280=>158 | 281=>159 | 282=>160 | 321=>169 | 322=>170 | 316=>171 | 171=>128 | 205=>172 | 243=>145 | 246=>140 | 283=>152 | 284=>153 | 285=>154 | 286=>155 | 129=>165 | 317=>164 | 318=>166 | 319=>167 | 320=>168 | 337=>175 | 338=>176 | n=>n,λ | 9=>9 | 3=>3 | 2=>2 | 75=>112 | 85=>158 | 4=>4 | 167=>182 | 5=>5 | 53=>177 | 175=>183 | 46=>165 | 168=>185 | 37=>108 | 0=>0 | 210=>196 | 21=>21 | 127=>136 | 145=>203 | 143=>201 | 171=>176 | 173=>180 | 212=>191 | 51=>175 | 20=>20 | 213=>192 | 232=>205 | 233=>206 | 80=>104 | n=>n,λ | 15=>4 | 16=>5 | 17=>3 | 18=>6 | 19=>7 | n=>n⟩
theorem Tryz.laysC174:Go.Proofs.LaysC.n174 Tryz.prog Tryz.laysC174_ren:={
 mixed:=by kernel_rfl
 f129:=Tryz.func165.trans (congrArg some (by kernel_rfl))
 f171:=Tryz.func128.trans (congrArg some (by kernel_rfl))
 f174:=Tryz.func124.trans (congrArg some (by kernel_rfl))
 f205:=Tryz.func172.trans (congrArg some (by kernel_rfl))
 f243:=Tryz.func145.trans (congrArg some (by kernel_rfl))
 f245:=Tryz.func143.trans (congrArg some (by kernel_rfl))
 f246:=Tryz.func140.trans (congrArg some (by kernel_rfl))
 f247:=Tryz.func142.trans (congrArg some (by kernel_rfl))
 f279:=Tryz.func157.trans (congrArg some (by kernel_rfl))
 f280:=Tryz.func158.trans (congrArg some (by kernel_rfl))
 f281:=Tryz.func159.trans (congrArg some (by kernel_rfl))
 f282:=Tryz.func160.trans (congrArg some (by kernel_rfl))
 f283:=Tryz.func152.trans (congrArg some (by kernel_rfl))
 f284:=Tryz.func153.trans (congrArg some (by kernel_rfl))
 f285:=Tryz.func154.trans (congrArg some (by kernel_rfl))
 f286:=Tryz.func155.trans (congrArg some (by kernel_rfl))
 f287:=Tryz.func156.trans (congrArg some (by kernel_rfl))
 f316:=Tryz.func171.trans (congrArg some (by kernel_rfl))
 f317:=Tryz.func164.trans (congrArg some (by kernel_rfl))
 f318:=Tryz.func166.trans (congrArg some (by kernel_rfl))
 f319:=Tryz.func167.trans (congrArg some (by kernel_rfl))
 f320:=Tryz.func168.trans (congrArg some (by kernel_rfl))
 f321:=Tryz.func169.trans (congrArg some (by kernel_rfl))
 f322:=Tryz.func170.trans (congrArg some (by kernel_rfl))
 f337:=Tryz.func175.trans (congrArg some (by kernel_rfl))
 f338:=Tryz.func176.trans (congrArg some (by kernel_rfl))
 t0:=Tryz.underlying0
 a0:=Tryz.isAgg0
 z0:=Tryz.sizeOf0
 v0:=Tryz.zeroValue0
 t2:=Tryz.underlying2
 a2:=Tryz.isAgg2
 z2:=Tryz.sizeOf2
 v2:=Tryz.zeroValue2
 t3:=Tryz.underlying3
 a3:=Tryz.isAgg3
 z3:=Tryz.sizeOf3
 v3:=Tryz.zeroValue3
 t4:=Tryz.underlying4
 a4:=Tryz.isAgg4
 z4:=Tryz.sizeOf4
 v4:=Tryz.zeroValue4
 t5:=Tryz.underlying5
 a5:=Tryz.isAgg5
 z5:=Tryz.sizeOf5
 v5:=Tryz.zeroValue5
 t9:=Tryz.underlying9
 a9:=Tryz.isAgg9
 z9:=Tryz.sizeOf9
 v9:=Tryz.zeroValue9
 t20:=Tryz.underlying20
 a20:=Tryz.isAgg20
 z20:=Tryz.sizeOf20
 v20:=Tryz.zeroValue20
 t21:=Tryz.underlying21
 a21:=Tryz.isAgg21
 z21:=Tryz.sizeOf21
 v21:=Tryz.zeroValue21
 t37:=Tryz.underlying108
 a37:=Tryz.isAgg108
 z37:=Tryz.sizeOf108
 v37:=Tryz.zeroValue108
 t46:=Tryz.underlying165
 a46:=Tryz.isAgg165
 z46:=Tryz.sizeOf165
 v46:=Tryz.zeroValue165
 t51:=Tryz.underlying175
 a51:=Tryz.isAgg175
 z51:=Tryz.sizeOf175
 v51:=Tryz.zeroValue175
 t53:=Tryz.underlying177
 a53:=Tryz.isAgg177
 z53:=Tryz.sizeOf177
 v53:=Tryz.zeroValue177
 t75:=Tryz.underlying112
 a75:=Tryz.isAgg112
 z75:=Tryz.sizeOf112
 v75:=Tryz.zeroValue112
 t85:=Tryz.underlying158
 a85:=Tryz.isAgg158
 z85:=Tryz.sizeOf158
 v85:=Tryz.zeroValue158
 t127:=Tryz.underlying136
 a127:=Tryz.isAgg136
 z127:=Tryz.sizeOf136
 v127:=Tryz.zeroValue136
 t143:=Tryz.underlying201
 a143:=Tryz.isAgg201
 z143:=Tryz.sizeOf201
 v143:=Tryz.zeroValue201
 t145:=Tryz.underlying203
 a145:=Tryz.isAgg203
 z145:=Tryz.sizeOf203
 v145:=Tryz.zeroValue203
 t167:=Tryz.underlying182
 a167:=Tryz.isAgg182
 z167:=Tryz.sizeOf182
 v167:=Tryz.zeroValue182
 t168:=Tryz.underlying185
 a168:=Tryz.isAgg185
 z168:=Tryz.sizeOf185
 v168:=Tryz.zeroValue185
 t171:=Tryz.underlying176
 a171:=Tryz.isAgg176
 z171:=Tryz.sizeOf176
 v171:=Tryz.zeroValue176
 t173:=Tryz.underlying180
 a173:=Tryz.isAgg180
 z173:=Tryz.sizeOf180
 v173:=Tryz.zeroValue180
 t175:=Tryz.underlying183
 a175:=Tryz.isAgg183
 z175:=Tryz.sizeOf183
 v175:=Tryz.zeroValue183
 t210:=Tryz.underlying196
 a210:=Tryz.isAgg196
 z210:=Tryz.sizeOf196
 v210:=Tryz.zeroValue196
 t212:=Tryz.underlying191
 a212:=Tryz.isAgg191
 z212:=Tryz.sizeOf191
 v212:=Tryz.zeroValue191
 t213:=Tryz.underlying192
 a213:=Tryz.isAgg192
 z213:=Tryz.sizeOf192
 t232:=Tryz.underlying205
 a232:=Tryz.isAgg205
 z232:=Tryz.sizeOf205
 v232:=Tryz.zeroValue205
 t233:=Tryz.underlying206
 a233:=Tryz.isAgg206
 z233:=Tryz.sizeOf206
 v233:=Tryz.zeroValue206
 g15:=by kernel_rfl
 g16:=by kernel_rfl
 g17:=by kernel_rfl
 g18:=by kernel_rfl
 g19:=by kernel_rfl
 t80:=Tryz.underlying104
 a80:=Tryz.isAgg104
 z80:=Tryz.sizeOf104
 v80:=Tryz.zeroValue104
 i0:=by kernel_rfl
 i2:=by kernel_rfl
 i3:=by kernel_rfl
 i4:=by kernel_rfl
 i5:=by kernel_rfl
 i9:=by kernel_rfl
 i20:=by kernel_rfl
 i21:=by kernel_rfl
 i37:=by kernel_rfl
 i46:=by kernel_rfl
 i51:=by kernel_rfl
 i53:=by kernel_rfl
 i75:=by kernel_rfl
 i80:=by kernel_rfl
 i85:=by kernel_rfl
 i127:=by kernel_rfl
 i143:=by kernel_rfl
 i145:=by kernel_rfl
 i167:=by kernel_rfl
 i168:=by kernel_rfl
 i171:=by kernel_rfl
 i173:=by kernel_rfl
 i175:=by kernel_rfl
 i210:=by kernel_rfl
 i212:=by kernel_rfl
 i232:=by kernel_rfl
 i233:=by kernel_rfl
 m15:=by kernel_rfl
 m16:=by kernel_rfl
 m17:=by kernel_rfl
 m18:=by kernel_rfl
 m19:=by kernel_rfl
 c0:=by kernel_rfl
 c2:=by kernel_rfl
 c3:=by kernel_rfl
 c4:=by kernel_rfl
 c5:=by kernel_rfl
 c9:=by kernel_rfl
 c20:=by kernel_rfl
 c21:=by kernel_rfl
 c37:=by kernel_rfl
 c46:=by kernel_rfl
 c51:=by kernel_rfl
 c53:=by kernel_rfl
 c75:=by kernel_rfl
 c80:=by kernel_rfl
 c85:=by kernel_rfl
 c127:=by kernel_rfl
 c143:=by kernel_rfl
 c145:=by kernel_rfl
 c167:=by kernel_rfl
 c168:=by kernel_rfl
 c171:=by kernel_rfl
 c173:=by kernel_rfl
 c175:=by kernel_rfl
 c210:=by kernel_rfl
 c212:=by kernel_rfl
 c213:=by kernel_rfl
 c232:=by kernel_rfl
 c233:=by kernel_rfl }
open Go.RowKit in
theorem Tryz.strconv_ParseInt_10_at64_ok (s:ByteArray)(hmax:s.size≤9223372036854775806)(v:Int)(h:Lib.parseIntB 64 s.data.toList=.ok v)(w:World) :
  Calls Tryz.prog 124 #[.string s,.int .i64 10,.int .i64 64] w λ e w'=>e=.returned (.tuple #[.int .i64 v,.nilIface])∧(w'=w∨∃ t,w'=Lib.bytesWorld w 5 t):=Any.strconv_ParseInt_10_at64_ok Tryz.laysC174 s hmax v h w
open Go.RowKit in
theorem Tryz.strconv_ParseInt_10_at64_range (s:ByteArray)(hlim:s.size≤281474976710656)(h:Lib.parseIntB 64 s.data.toList=.range)(ev:Value)(w:World)(hv:w.cell? ⟨5,0,none⟩=some ev)(hev:ev=.nilIface∨∃ te pe,ev=.iface te pe) :
  Calls Tryz.prog 124 #[.string s,.int .i64 10,.int .i64 64] w λ e w'=>∃ N,e=.returned (.tuple #[.int .i64 (Lib.intSat 64 s.data.toList),.iface 185 (.pointer (some ⟨N,0,none⟩))])∧w.heap.size≤N∧w'.heap[N]? = some (.cells #[.string ⟨#[80,97,114,115,101,73,110,116]⟩,.string s,ev] 196 (0,0))∧Below w.heap.size w w':=Any.strconv_ParseInt_10_at64_range Tryz.laysC174 s hlim h ev w hv hev
open Go.RowKit in
theorem Tryz.strconv_ParseInt_10_at64_syntax (s:ByteArray)(hlim:s.size≤281474976710656)(h:Lib.parseIntB 64 s.data.toList=Lib.parseIntB 64 [])(ev:Value)(w:World)(hv:w.cell? ⟨4,0,none⟩=some ev)(hev:ev=.nilIface∨∃ te pe,ev=.iface te pe) :
  Calls Tryz.prog 124 #[.string s,.int .i64 10,.int .i64 64] w λ e w'=>∃ N,e=.returned (.tuple #[.int .i64 (0),.iface 185 (.pointer (some ⟨N,0,none⟩))])∧w.heap.size≤N∧w'.heap[N]? = some (.cells #[.string ⟨#[80,97,114,115,101,73,110,116]⟩,.string s,ev] 196 (0,0))∧Below w.heap.size w w':=Any.strconv_ParseInt_10_at64_syntax Tryz.laysC174 s hlim h ev w hv hev
def Tryz.lays197_ren:Go.Shelf.Ren:=⟨λ | 197=>116 | 260=>137 | n=>n,λ | 9=>9 | 21=>21 | 3=>3 | 4=>4 | 5=>5 | 105=>150 | 119=>171 | 0=>0 | 46=>165 | 139=>174 | 138=>173 | n=>n,λ | 3=>1 | 4=>2 | n=>n⟩
theorem Tryz.lays197:Go.Proofs.Lays.n197 Tryz.prog Tryz.lays197_ren:={
 mixed:=by kernel_rfl
 f197:=Tryz.func116.trans (congrArg some (by kernel_rfl))
 f260:=Tryz.func137.trans (congrArg some (by kernel_rfl))
 t0:=Tryz.underlying0
 a0:=Tryz.isAgg0
 z0:=Tryz.sizeOf0
 v0:=Tryz.zeroValue0
 t3:=Tryz.underlying3
 a3:=Tryz.isAgg3
 z3:=Tryz.sizeOf3
 v3:=Tryz.zeroValue3
 t4:=Tryz.underlying4
 a4:=Tryz.isAgg4
 z4:=Tryz.sizeOf4
 v4:=Tryz.zeroValue4
 t5:=Tryz.underlying5
 a5:=Tryz.isAgg5
 z5:=Tryz.sizeOf5
 v5:=Tryz.zeroValue5
 t9:=Tryz.underlying9
 a9:=Tryz.isAgg9
 z9:=Tryz.sizeOf9
 v9:=Tryz.zeroValue9
 t21:=Tryz.underlying21
 a21:=Tryz.isAgg21
 z21:=Tryz.sizeOf21
 v21:=Tryz.zeroValue21
 t46:=Tryz.underlying165
 a46:=Tryz.isAgg165
 z46:=Tryz.sizeOf165
 v46:=Tryz.zeroValue165
 t105:=Tryz.underlying150
 a105:=Tryz.isAgg150
 z105:=Tryz.sizeOf150
 v105:=Tryz.zeroValue150
 t119:=Tryz.underlying171
 a119:=Tryz.isAgg171
 z119:=Tryz.sizeOf171
 t138:=Tryz.underlying173
 a138:=Tryz.isAgg173
 z138:=Tryz.sizeOf173
 v138:=Tryz.zeroValue173
 t139:=Tryz.underlying174
 a139:=Tryz.isAgg174
 z139:=Tryz.sizeOf174
 v139:=Tryz.zeroValue174
 g3:=by kernel_rfl
 g4:=by kernel_rfl }
open Go.RowKit Go.Lib in
theorem Tryz.utf8_DecodeRuneInString (s:ByteArray)(w:World)(hT:Lib.Utf8Tabs 1 2 w) :
  Calls Tryz.prog 116 #[.string s] w λ e w'=>e=.returned (.tuple #[.int .i32 (Lib.decodeGo s).1,.int .i64 (Lib.decodeGo s).2])∧Below w.heap.size w w':=Any.utf8_DecodeRuneInString Tryz.lays197 s w hT
def Tryz.lays153_ren:Go.Shelf.Ren:=⟨λ | 153=>93 | 152=>112 | 226=>113 | 227=>114 | 228=>115 | 137=>97 | 119=>134 | 224=>135 | 225=>136 | 217=>122 | 266=>141 | n=>n,λ | 9=>9 | 3=>3 | 4=>4 | 5=>5 | 21=>21 | 117=>147 | 116=>146 | 0=>0 | 46=>165 | 124=>166 | n=>n,λ | n=>n⟩
theorem Tryz.lays153:Go.Proofs.Lays.n153 Tryz.prog Tryz.lays153_ren:={
 mixed:=by kernel_rfl
 f119:=Tryz.func134.trans (congrArg some (by kernel_rfl))
 f137:=Tryz.func97.trans (congrArg some (by kernel_rfl))
 f152:=Tryz.func112.trans (congrArg some (by kernel_rfl))
 f153:=Tryz.func93.trans (congrArg some (by kernel_rfl))
 f217:=Tryz.func122.trans (congrArg some (by kernel_rfl))
 f224:=Tryz.func135.trans (congrArg some (by kernel_rfl))
 f225:=Tryz.func136.trans (congrArg some (by kernel_rfl))
 f226:=Tryz.func113.trans (congrArg some (by kernel_rfl))
 f227:=Tryz.func114.trans (congrArg some (by kernel_rfl))
 f228:=Tryz.func115.trans (congrArg some (by kernel_rfl))
 f266:=Tryz.func141.trans (congrArg some (by kernel_rfl))
 t0:=Tryz.underlying0
 a0:=Tryz.isAgg0
 z0:=Tryz.sizeOf0
 v0:=Tryz.zeroValue0
 t3:=Tryz.underlying3
 a3:=Tryz.isAgg3
 z3:=Tryz.sizeOf3
 v3:=Tryz.zeroValue3
 t4:=Tryz.underlying4
 a4:=Tryz.isAgg4
 z4:=Tryz.sizeOf4
 v4:=Tryz.zeroValue4
 t5:=Tryz.underlying5
 a5:=Tryz.isAgg5
 z5:=Tryz.sizeOf5
 v5:=Tryz.zeroValue5
 t9:=Tryz.underlying9
 a9:=Tryz.isAgg9
 z9:=Tryz.sizeOf9
 v9:=Tryz.zeroValue9
 t21:=Tryz.underlying21
 a21:=Tryz.isAgg21
 z21:=Tryz.sizeOf21
 v21:=Tryz.zeroValue21
 t46:=Tryz.underlying165
 a46:=Tryz.isAgg165
 z46:=Tryz.sizeOf165
 v46:=Tryz.zeroValue165
 t116:=Tryz.underlying146
 a116:=Tryz.isAgg146
 z116:=Tryz.sizeOf146
 t117:=Tryz.underlying147
 a117:=Tryz.isAgg147
 z117:=Tryz.sizeOf147
 v117:=Tryz.zeroValue147
 t124:=Tryz.underlying166
 a124:=Tryz.isAgg166
 z124:=Tryz.sizeOf166
 v124:=Tryz.zeroValue166 }
open Go.RowKit Go.Lib in
theorem Tryz.strings_IndexAny_long (hv116:∀ w,(zeroValue 146).run Tryz.prog w=.ok (.agg (Array.replicate 256 (.bool false))) w)(s chars:ByteArray)(w:World)(h2:2≤chars.size)(h8:8 < s.size)(hs:s.size < 4294967281)(hcs:chars.size < 4294967281)(hascii:∀ (j:Nat) b,chars.data.toList[j]? = some b→b.toNat < 128) :
  Calls Tryz.prog 93 #[.string s,.string chars] w λ e w'=>e=.returned (.int .i64 (Lib.indexAny s.data.toList chars.data.toList))∧w'=((w.alloc (.cells (Lib.setCells chars.data.toList) 146)).alloc (.cells (Lib.setCells chars.data.toList) 146)):=Any.strings_IndexAny_long Tryz.lays153 hv116 (by kernel_rfl) s chars w h2 h8 hs hcs hascii
def Tryz.lays152_ren:Go.Shelf.Ren:=⟨λ | 152=>112 | 137=>97 | 119=>134 | 224=>135 | 225=>136 | 217=>122 | 266=>141 | n=>n,λ | 9=>9 | 21=>21 | 3=>3 | 4=>4 | 5=>5 | 0=>0 | 46=>165 | n=>n,λ | n=>n⟩
theorem Tryz.lays152:Go.Proofs.Lays.n152 Tryz.prog Tryz.lays152_ren:={
 mixed:=by kernel_rfl
 f119:=Tryz.func134.trans (congrArg some (by kernel_rfl))
 f137:=Tryz.func97.trans (congrArg some (by kernel_rfl))
 f152:=Tryz.func112.trans (congrArg some (by kernel_rfl))
 f217:=Tryz.func122.trans (congrArg some (by kernel_rfl))
 f224:=Tryz.func135.trans (congrArg some (by kernel_rfl))
 f225:=Tryz.func136.trans (congrArg some (by kernel_rfl))
 f266:=Tryz.func141.trans (congrArg some (by kernel_rfl))
 t0:=Tryz.underlying0
 a0:=Tryz.isAgg0
 z0:=Tryz.sizeOf0
 v0:=Tryz.zeroValue0
 t3:=Tryz.underlying3
 a3:=Tryz.isAgg3
 z3:=Tryz.sizeOf3
 v3:=Tryz.zeroValue3
 t4:=Tryz.underlying4
 a4:=Tryz.isAgg4
 z4:=Tryz.sizeOf4
 v4:=Tryz.zeroValue4
 t5:=Tryz.underlying5
 a5:=Tryz.isAgg5
 z5:=Tryz.sizeOf5
 v5:=Tryz.zeroValue5
 t9:=Tryz.underlying9
 a9:=Tryz.isAgg9
 z9:=Tryz.sizeOf9
 v9:=Tryz.zeroValue9
 t21:=Tryz.underlying21
 a21:=Tryz.isAgg21
 z21:=Tryz.sizeOf21
 v21:=Tryz.zeroValue21
 t46:=Tryz.underlying165
 a46:=Tryz.isAgg165
 z46:=Tryz.sizeOf165
 v46:=Tryz.zeroValue165 }
open Go.RowKit Go.Lib in
theorem Tryz.strings_IndexRune_ascii (s:ByteArray)(r:Int)(w:World)(h0:0≤r)(h1:r < 128) :
  Calls Tryz.prog 112 #[.string s,.int .i32 r] w λ e w'=>e=.returned (.int .i64 (Lib.indexByte s.data.toList r.toNat.toUInt8))∧w'=w:=Any.strings_IndexRune_ascii Tryz.lays152 s r w h0 h1
def Tryz.lays196_ren:Go.Shelf.Ren:=⟨λ | 196=>144 | 259=>161 | n=>n,λ | 9=>9 | 4=>4 | 3=>3 | 5=>5 | 12=>12 | 119=>171 | 0=>0 | 46=>165 | 139=>174 | 138=>173 | 53=>177 | n=>n,λ | 3=>1 | 4=>2 | n=>n⟩
theorem Tryz.lays196:Go.Proofs.Lays.n196 Tryz.prog Tryz.lays196_ren:={
 mixed:=by kernel_rfl
 f196:=Tryz.func144.trans (congrArg some (by kernel_rfl))
 f259:=Tryz.func161.trans (congrArg some (by kernel_rfl))
 t0:=Tryz.underlying0
 a0:=Tryz.isAgg0
 z0:=Tryz.sizeOf0
 v0:=Tryz.zeroValue0
 t3:=Tryz.underlying3
 a3:=Tryz.isAgg3
 z3:=Tryz.sizeOf3
 v3:=Tryz.zeroValue3
 t4:=Tryz.underlying4
 a4:=Tryz.isAgg4
 z4:=Tryz.sizeOf4
 v4:=Tryz.zeroValue4
 t5:=Tryz.underlying5
 a5:=Tryz.isAgg5
 z5:=Tryz.sizeOf5
 v5:=Tryz.zeroValue5
 t9:=Tryz.underlying9
 a9:=Tryz.isAgg9
 z9:=Tryz.sizeOf9
 v9:=Tryz.zeroValue9
 t12:=Tryz.underlying12
 a12:=Tryz.isAgg12
 z12:=Tryz.sizeOf12
 v12:=Tryz.zeroValue12
 t46:=Tryz.underlying165
 a46:=Tryz.isAgg165
 z46:=Tryz.sizeOf165
 v46:=Tryz.zeroValue165
 t53:=Tryz.underlying177
 a53:=Tryz.isAgg177
 z53:=Tryz.sizeOf177
 v53:=Tryz.zeroValue177
 t119:=Tryz.underlying171
 a119:=Tryz.isAgg171
 z119:=Tryz.sizeOf171
 t138:=Tryz.underlying173
 a138:=Tryz.isAgg173
 z138:=Tryz.sizeOf173
 v138:=Tryz.zeroValue173
 t139:=Tryz.underlying174
 a139:=Tryz.isAgg174
 z139:=Tryz.sizeOf174
 v139:=Tryz.zeroValue174
 g3:=by kernel_rfl
 g4:=by kernel_rfl }
open Go.RowKit Go.Lib in
theorem Tryz.utf8_ValidString (s:ByteArray)(w:World)(hs:s.size≤9223372036854775807)(hT:Lib.Utf8Tabs 1 2 w):Calls Tryz.prog 144 #[.string s] w λ e w'=>e=.returned (.bool (Lib.validD s.data.toList))∧Below w.heap.size w w':=Any.utf8_ValidString Tryz.lays196 s w hs hT
def Tryz.lays226_ren:Go.Shelf.Ren:=⟨λ | 226=>113 | n=>n,λ | 3=>3 | 4=>4 | n=>n,λ | n=>n⟩
theorem Tryz.lays226:Go.Proofs.Lays.n226 Tryz.prog Tryz.lays226_ren:={
 mixed:=by kernel_rfl
 f226:=Tryz.func113.trans (congrArg some (by kernel_rfl))
 t3:=Tryz.underlying3
 a3:=Tryz.isAgg3
 z3:=Tryz.sizeOf3
 v3:=Tryz.zeroValue3
 t4:=Tryz.underlying4
 a4:=Tryz.isAgg4
 z4:=Tryz.sizeOf4
 v4:=Tryz.zeroValue4 }
open Go.RowKit Go.Lib in
theorem Tryz.strings_shouldUseASCIISet (n:Int)(w:World) :
  Calls Tryz.prog 113 #[.int .i64 n] w λ e w'=>e=.returned (.bool (decide (8 < n)))∧w'=w:=Any.strings_shouldUseASCIISet Tryz.lays226 n w
end Go.Proofs
end
section
namespace Go.Ab
open Go.Proofs Go.RowKit
def strings_IndexByte (s:Bytes)(c:Int):Option Int:=some (Lib.indexByte s c.toNat.toUInt8)
theorem kh (s_0:Bytes)(c_1:Int)(r:Int)(h0:strings_IndexByte s_0 c_1=some r):aw Tryz.prog 97 [eS s_0,eK .u8 c_1] (·=.p (eI r)):=by
 cases h0
 refine aw.of_calls (l:=[.string (str s_0),.int .u8 c_1]) λ w st hok=>(Tryz.strings_IndexByte _ _ w).mono ?_
 rintro e w' ⟨rfl,rfl⟩
 rw [gB]
 exact ⟨_,rfl,lh _,λ _=>.p (.val _)⟩
def dd (r:Int):Option Bool:=some (Lib.validRune r)
theorem io (r_0:Int)(r:Bool)(h0:dd r_0=some r):aw Tryz.prog 134 [eK .i32 r_0] (·=.p (eB r)):=by
 cases h0
 refine aw.of_calls (l:=[.int .i32 r_0]) λ w st hok=>(Tryz.utf8_ValidRune _ w).mono ?_
 rintro e w' ⟨rfl,rfl⟩
 exact ⟨_,rfl,lh _,λ _=>.p (.val _)⟩
theorem tG {w:World}{g:Gh}{a b:Value}:ARep w g (.tuple [.p (.val a),.p (.val b)]) (.tuple #[a,b]):=by
 refine .tuple rfl λ i c v h1 h2=>?_
 match i,h1,h2 with
 | 0,h1,h2=>simp at h1 h2; subst h1 h2; exact .p (.val _)
 | 1,h1,h2=>simp at h1 h2; subst h1 h2; exact .p (.val _)
 | n+2,h1,_=>simp at h1
def strings_CutPrefix (s p:Bytes):Option (Bytes×Bool):=some (Lib.trimPrefix s p,Lib.hasPrefix s p)
theorem kw (s_0 p_1:Bytes)(r:Bytes×Bool)(h0:strings_CutPrefix s_0 p_1=some r):aw Tryz.prog 92 [eS s_0,eS p_1] (·=.tuple [.p (eS r.1),.p (eB r.2)]):=by
 cases h0
 refine aw.of_calls (l:=[.string (str s_0),.string (str p_1)]) λ w st hok=>(Tryz.strings_CutPrefix _ _ w).mono ?_
 rintro e w' ⟨rfl,rfl⟩
 rw [gB,gB]
 exact ⟨_,rfl,lh _,λ _=>tG⟩
def strings_HasPrefix (s p:Bytes):Option Bool:=some (Lib.hasPrefix s p)
theorem nO (s_0 p_1:Bytes)(r:Bool)(h0:strings_HasPrefix s_0 p_1=some r):aw Tryz.prog 68 [eS s_0,eS p_1] (·=.p (eB r)):=by
 cases h0
 refine aw.of_calls (l:=[.string (str s_0),.string (str p_1)]) λ w st hok=>(Tryz.strings_HasPrefix _ _ w).mono ?_
 rintro e w' ⟨rfl,rfl⟩
 rw [gB,gB]
 exact ⟨_,rfl,lh _,λ _=>.p (.val _)⟩
def strconv_Itoa (n:Int):Option Bytes:=ck (inR n) <| some (Lib.itoa n)
theorem se (i_0:Int)(r:Bytes)(h0:strconv_Itoa i_0=some r):aw Tryz.prog 128 [eI i_0] (·=.p (eS r)):=by
 obtain ⟨hr,h0⟩:=kz h0
 cases h0
 refine aw.of_calls (l:=[.int .i64 i_0]) λ w st hok=>(Tryz.strconv_Itoa _ hr.1 hr.2 w (A5 hok.gl (g:=3) rfl (by kernel_rfl) (by kernel_rfl) (by decide))).mono ?_
 rintro e w' ⟨rfl,k,os,rfl⟩
 exact ⟨_,rfl,Lib.below_grow _ w (Nat.le_refl _) k os,λ _=>.p (.val _)⟩
theorem yR:(List.range 256).all (λ c=>match Ay[c]? with | some (.int .u8 n)=>n == (Lib.firstT c:Int) | _=>false)=true:=by kernel_rfl
theorem CC:(List.range 16).all (λ c=>(match Aj[2*c]? with | some (.int .u8 n)=>n == (Lib.accLo c:Int) | _=>false)&&(match Aj[2*c+1]? with | some (.int .u8 n)=>n == (Lib.accHi c:Int) | _=>false))=true:=by kernel_rfl
theorem Bi {o:Option GC}{m:Int}(h:(match o with | some (.int .u8 n)=>n == m | _=>false)=true):o=some (.int .u8 m):=by
 split at h
 ·rw [eq_of_beq h]
 ·cases h
theorem wF {w:World}{st:Nat→Nat→Prop}(h:kB w st):Lib.Utf8Tabs 1 2 w:=by
 refine ⟨λ c hc=>oe h rfl (Bi (List.all_eq_true.1 yR c (by simpa using hc))),λ i hi=>?_⟩
 have:=List.all_eq_true.1 CC i (by simpa using hi)
 simp only [Bool.and_eq_true] at this
 exact ⟨oe h rfl (Bi this.1),oe h rfl (Bi this.2)⟩
def cU (s:Bytes):Option (Int×Int):=some ((Lib.decodeGo (str s)).1,(Lib.decodeGo (str s)).2)
theorem iX (s_0:Bytes)(r:Int×Int)(h0:cU s_0=some r):aw Tryz.prog 116 [eS s_0] (·=.tuple [.p (eK .i32 r.1),.p (eI r.2)]):=by
 cases h0
 refine aw.of_calls (l:=[.string (str s_0)]) λ w st hok=>(Tryz.utf8_DecodeRuneInString _ w (wF hok.gl)).mono ?_
 rintro e w' ⟨rfl,hB⟩
 exact ⟨_,rfl,hB,λ _=>tG⟩
def ef (s:Bytes):Option Bool:=ck (s.length≤9223372036854775807) <| some (Lib.validD s)
theorem kG (s_0:Bytes)(r:Bool)(h0:ef s_0=some r):aw Tryz.prog 144 [eS s_0] (·=.p (eB r)):=by
 obtain ⟨hl,h0⟩:=kz h0
 cases h0
 refine aw.of_calls (l:=[.string (str s_0)]) λ w st hok=>(Tryz.utf8_ValidString _ w (by rw [g7]; exact hl) (wF hok.gl)).mono ?_
 rintro e w' ⟨rfl,hB⟩
 rw [gB]
 exact ⟨_,rfl,hB,λ _=>.p (.val _)⟩
theorem wK (w:World)(e:TypeId)(t:ByteArray):Below w.heap.size w (Lib.bytesWorld w e t) :=
 ⟨rfl,rfl,rfl,by rw [Lib.bytesWorld_size]; omega,λ k hk=>Lib.bytesWorld_at_old w e t k hk⟩
def hZ (s:Bytes)(b z:Int):Option (Int×Bool):=ck (b=10∧z=64∧s.length≤281474976710656) <| some (match Lib.parseIntB 64 s with | .ok v=>(v,false) | .range=>(Lib.intSat 64 s,true) | _=>(0,true))
theorem x9 {w:World}{g:Gh}{a:Int}{t:TypeId}{v:Value}:ARep w g (.tuple [.p (eI a),.p (eE true)]) (.tuple #[.int .i64 a,.iface t v]):=by
 refine .tuple rfl λ i c v h1 h2=>?_
 match i,h1,h2 with
 | 0,h1,h2=>simp at h1 h2; subst h1 h2; exact .p (.val _)
 | 1,h1,h2=>simp at h1 h2; subst h1 h2; exact .p (.ifc _ _)
 | n+2,h1,_=>simp at h1
theorem oJ (s_0:Bytes)(base_1 bitSize_2:Int)(r:Int×Bool)(h0:hZ s_0 base_1 bitSize_2=some r):aw Tryz.prog 124 [eS s_0,eI base_1,eI bitSize_2] (·=.tuple [.p (eI r.1),.p (eE r.2)]):=by
 obtain ⟨⟨rfl,rfl,hl⟩,h1⟩:=kz h0
 have hsz:(str s_0).size≤281474976710656:=by rw [g7]; exact hl
 refine aw.of_calls (l:=[.string (str s_0),.int .i64 10,.int .i64 64]) λ w st hok=>?_
 cases hp:Lib.parseIntB 64 s_0 with
 | ok v =>
  rw [hp] at h1; cases h1
  refine (Tryz.strconv_ParseInt_10_at64_ok (str s_0) (by omega) v (by rw [gB]; exact hp) w).mono ?_
  rintro e w' ⟨rfl,h⟩
  refine ⟨_,rfl,?_,λ _=>tG⟩
  rcases h with rfl | ⟨t,rfl⟩
  ·exact lh _
  ·exact wK _ _ _
 | range =>
  rw [hp] at h1; cases h1
  obtain ⟨t,v,hv⟩:=we hok.gl (g:=5) (j:=0) rfl rfl
  refine (Tryz.strconv_ParseInt_10_at64_range (str s_0) hsz (by rw [gB]; exact hp) _ w hv (.inr ⟨_,_,rfl⟩)).mono ?_
  rintro e w' ⟨N,rfl,_,_,hB⟩
  rw [gB]
  exact ⟨_,rfl,hB,λ _=>x9⟩
 | _ =>
  rw [hp] at h1; cases h1
  obtain ⟨t,v,hv⟩:=we hok.gl (g:=4) (j:=0) rfl rfl
  refine (Tryz.strconv_ParseInt_10_at64_syntax (str s_0) hsz (by rw [gB]; exact hp) _ w hv (.inr ⟨_,_,rfl⟩)).mono ?_
  rintro e w' ⟨N,rfl,_,_,hB⟩
  exact ⟨_,rfl,hB,λ _=>x9⟩
end Go.Ab
namespace Go.Ab
open Go.Proofs Go.RowKit Go
def hexDigit (n:Nat):UInt8:=if n < 10 then UInt8.ofNat (48+n) else UInt8.ofNat (87+n)
def dm (u:Nat):Bytes:=if u < 16 then [hexDigit u] else [hexDigit (u / 16),hexDigit (u % 16)]
set_option maxRecDepth 100000 in
theorem tz16 (w:World)(hT:w.cell? ⟨7,15,none⟩=some (.int .u8 4)) :
  Calls Tryz.prog 176 #[.int .u64 16] w λ e w'=>e=.returned (.int .i64 4)∧w'=w:=by
 have hq:IntKind.u64.wrap (Go.bits BinOp.and IntKind.u64 16 (IntKind.u64.wrap (-16))*285870213051353865) / 288230376151711744=15:=by kernel_rfl
 go_enter Tryz.func176,Tryz.ntmps176
 go_wp2
 go_ret
 exact ⟨rfl,rfl⟩
set_option maxRecDepth 100000 in
theorem pow2 (w:World):Calls Tryz.prog 167 #[.int .i64 16] w λ e w'=>e=.returned (.bool true)∧w'=w:=by
 have hq:bits BinOp.and IntKind.i64 16 15=0:=by kernel_rfl
 go_enter Tryz.func167,Tryz.ntmps167
 go_wp2
 go_ret
 exact ⟨rfl,rfl⟩
set_option maxRecDepth 100000 in
theorem tz (w:World)(hT:w.cell? ⟨7,15,none⟩=some (.int .u8 4)) :
  Calls Tryz.prog 168 #[.int .u64 16] w λ e w'=>e=.returned (.int .i64 4)∧w'=w:=by
 have HC:=tz16 w hT
 clear hT
 go_enter Tryz.func168,Tryz.ntmps168
 go_wp2_with (go_at_call 176; refine HC.mono ?_; rintro e w' ⟨rfl,rfl⟩)
 go_ret
 exact ⟨rfl,rfl⟩
end Go.Ab
namespace Go.Ab
open Go.Proofs Go.RowKit Go
abbrev digs:ByteArray:={ data:=#[48,49,50,51,52,53,54,55,56,57,97,98,99,100,101,102,103,104,105,106,107,108,109,110,111,112,113,114,115,116,117,118,119,120,121,122] }
def dig (n:Nat)(h:n < 36):UInt8:=digs[n]'(by show n < 36; exact h)
theorem xZ (n:Nat)(h:n < 36):(({ data:=#[48,49,50,51,52,53,54,55,56,57,97,98,99,100,101,102,103,104,105,106,107,108,109,110,111,112,113,114,115,116,117,118,119,120,121,122] }:ByteArray)[n]'(by show n < 36; exact h))=dig n h:=rfl
set_option maxRecDepth 100000 in
theorem fb (u:Int)(h0:0≤u)(h1:u < 16)(w:World)(hT:w.cell? ⟨7,15,none⟩=some (.int .u8 4)) :
  Calls Tryz.prog 155 #[.slice none 0 0,.int .u64 u,.int .i64 16,.bool false,.bool false] w λ e w'=>e=.returned (.tuple #[.slice none 0 0,.string ⟨[dig u.toNat (by omega)].toArray⟩])∧Below w.heap.size w w':=by
 have hlt:(7:Nat) < w.heap.size:=by
  rcases Nat.lt_or_ge 7 w.heap.size with h | h
  ·exact h
  ·simp [World.cell?,Array.getElem?_eq_none h] at hT
 have HZ:Hid (∀ o,Calls Tryz.prog 168 #[.int .u64 16] (w.alloc o) λ e w'=>e=.returned (.int .i64 4)∧w'=w.alloc o):=λ o=>tz (w.alloc o) ((World.cell?_alloc_lt w _ _ hlt).trans hT)
 clear hT
 go_enter Tryz.func155,Tryz.ntmps155
 go_wp2_with (first | (go_at_call 167; refine (pow2 _).mono ?_; rintro e w' ⟨rfl,rfl⟩) | (go_at_call 168; refine (HZ.out _).mono ?_; rintro e w' ⟨rfl,rfl⟩))
 go_loopg [1,13] 1 (λ g uv iv wx=>g=1∧uv=.int .u64 u∧iv=.int .i64 65∧wx=w.alloc (.cells Tryz.zeroCells192 192))
 case atStart=>exact ⟨rfl,rfl,rfl,rfl⟩
 case round =>
  obtain ⟨rfl,rfl,rfl,rfl⟩:=hrel
  have hlt16:decide ((16:Int)≤u)=false:=decide_eq_false (by omega)
  go_wp2
  rw [xZ u.toNat (by omega)]
  generalize hd:dig u.toNat (by omega)=dg
  have hcv:=run_convert_bytes_back (P:=Tryz.prog) (w.alloc (.cells (Tryz.zeroCells192.setIfInBounds 64 (.int .u8 dg.toNat)) 192)) 108 9 5 ⟨w.heap.size,64,none⟩ 1 [dg] Tryz.underlying108 Tryz.underlying5 Tryz.underlying9 (λ j hj=>by
   have:j=0:=by simpa using hj
   subst this
   rw [add_lit,Nat.add_zero,World.cell?_alloc_new]
   rfl)
  rw [show [dg].length=1 from rfl] at hcv
  rw [hcv]
  simp only [Result.andThen]
  rw [Oper.upon_value]
  go_wp2
  go_ret2
  subst hd
  exact ⟨rfl,(Below.refl _ w).alloc (Nat.le_refl _) _⟩
theorem Eo:(List.range 256).all (λ n=>Go.bits BinOp.and IntKind.u64 (n:Int) 15 == ((n % 16:Nat):Int))=true:=by kernel_rfl
set_option maxRecDepth 100000 in
theorem fb2 (u:Nat)(h0:16≤u)(h1:u < 256)(w:World)(hT:w.cell? ⟨7,15,none⟩=some (.int .u8 4)) :
  Calls Tryz.prog 155 #[.slice none 0 0,.int .u64 u,.int .i64 16,.bool false,.bool false] w λ e w'=>e=.returned (.tuple #[.slice none 0 0,.string ⟨[dig (u / 16) (by omega),dig (u % 16) (by omega)].toArray⟩])∧Below w.heap.size w w':=by
 have hlt:(7:Nat) < w.heap.size:=by
  rcases Nat.lt_or_ge 7 w.heap.size with h | h
  ·exact h
  ·simp [World.cell?,Array.getElem?_eq_none h] at hT
 have HZ:Hid (∀ o,Calls Tryz.prog 168 #[.int .u64 16] (w.alloc o) λ e w'=>e=.returned (.int .i64 4)∧w'=w.alloc o):=λ o=>tz (w.alloc o) ((World.cell?_alloc_lt w _ _ hlt).trans hT)
 clear hT
 have hand:Go.bits BinOp.and IntKind.u64 (u:Int) 15=((u % 16:Nat):Int):=eq_of_beq (List.all_eq_true.1 Eo u (List.mem_range.2 h1))
 go_enter Tryz.func155,Tryz.ntmps155
 go_wp2_with (first | (go_at_call 167; refine (pow2 _).mono ?_; rintro e w' ⟨rfl,rfl⟩) | (go_at_call 168; refine (HZ.out _).mono ?_; rintro e w' ⟨rfl,rfl⟩))
 go_loopg [1,13] 1 (λ g uv iv wx=>(g=1∧uv=.int .u64 u∧iv=.int .i64 65∧wx=w.alloc (.cells Tryz.zeroCells192 192))∨(g=0∧uv=.int .u64 ((u / 16:Nat):Int)∧iv=.int .i64 64∧wx=w.alloc (.cells (Tryz.zeroCells192.setIfInBounds 64 (.int .u8 (dig (u % 16) (by omega)).toNat)) 192)))
 case atStart=>exact .inl ⟨rfl,rfl,rfl,rfl⟩
 case round =>
  rcases hrel with ⟨rfl,rfl,rfl,rfl⟩ | ⟨rfl,rfl,rfl,rfl⟩
  ·have hlt16:decide ((16:Int)≤(u:Int))=true:=decide_eq_true (by omega)
   go_wp2
   rw [xZ (u % 16) (by omega)]
   go_roundg 0
   case measure=>omega
   case rel=>exact .inr ⟨rfl,by rw [Int.natCast_ediv]; rfl,rfl,rfl⟩
  ·have hlt16:decide ((16:Int)≤((u / 16:Nat):Int))=false:=decide_eq_false (by omega)
   go_wp2
   rw [xZ (u / 16) (by omega)]
   generalize hd:dig (u / 16) (by omega)=d1
   generalize he:dig (u % 16) (by omega)=d0
   have hcv:=run_convert_bytes_back (P:=Tryz.prog) (w.alloc (.cells ((Tryz.zeroCells192.setIfInBounds 64 (.int .u8 d0.toNat)).setIfInBounds 63 (.int .u8 d1.toNat)) 192)) 108 9 5 ⟨w.heap.size,63,none⟩ 2 [d1,d0] Tryz.underlying108 Tryz.underlying5 Tryz.underlying9 (λ j hj=>by
    have:j=0∨j=1:=by simp at hj; omega
    rcases this with rfl | rfl
    ·rw [add_lit,Nat.add_zero,World.cell?_alloc_new]
     rfl
    ·rw [add_lit,World.cell?_alloc_new]
     rfl)
   rw [show [d1,d0].length=2 from rfl] at hcv
   rw [hcv]
   simp only [Result.andThen]
   rw [Oper.upon_value]
   go_wp2
   go_ret2
   subst hd he
   exact ⟨rfl,(Below.refl _ w).alloc (Nat.le_refl _) _⟩
end Go.Ab
namespace Go.Ab
open Go.Proofs Go.RowKit Go
theorem CS:∀ n:Fin 16,dig n.1 (Nat.lt_of_lt_of_le n.2 (by decide))=hexDigit n.1:=by decide
theorem tT (n:Nat)(h:n < 16)(h':n < 36):dig n h'=hexDigit n:=CS ⟨n,h⟩
theorem En (u:Nat)(h1:u < 256)(w:World)(hT:w.cell? ⟨7,15,none⟩=some (.int .u8 4)) :
  Calls Tryz.prog 155 #[.slice none 0 0,.int .u64 u,.int .i64 16,.bool false,.bool false] w λ e w'=>e=.returned (.tuple #[.slice none 0 0,.string ⟨(dm u).toArray⟩])∧Below w.heap.size w w':=by
 by_cases h:u < 16
 ·have:=fb u (by omega) (by omega) w hT
  rwa [tT _ (by omega) _,Int.toNat_natCast,show [hexDigit u]=dm u from (if_pos h).symm] at this
 ·have:=fb2 u (by omega) h1 w hT
  rwa [tT (u / 16) (by omega) _,tT (u % 16) (by omega) _,show [hexDigit (u / 16),hexDigit (u % 16)]=dm u from (if_neg h).symm] at this
set_option maxRecDepth 100000 in
theorem fint (u:Nat)(h1:u < 256)(w:World)(hT:w.cell? ⟨7,15,none⟩=some (.int .u8 4)) :
  Calls Tryz.prog 140 #[.int .i64 u,.int .i64 16] w λ e w'=>e=.returned (.string ⟨(dm u).toArray⟩)∧Below w.heap.size w w':=by
 have HC:Hid _:=En u h1 w hT
 clear hT
 have hneg:decide ((u:Int) < 0)=false:=decide_eq_false (by omega)
 generalize dm u=tx at HC ⊢
 go_enter Tryz.func140,Tryz.ntmps140
 go_wp2_with (go_at_call 155; refine Calls.mono HC.out ?_; rintro e w' ⟨rfl,hB⟩)
 go_ret
 exact ⟨rfl,hB⟩
set_option maxRecDepth 100000 in
theorem EE (u:Nat)(h1:u < 256)(w:World)(hT:w.cell? ⟨7,15,none⟩=some (.int .u8 4)) :
  Calls Tryz.prog 121 #[.int .i64 u,.int .i64 16] w λ e w'=>e=.returned (.string ⟨(dm u).toArray⟩)∧Below w.heap.size w w':=by
 have HC:Hid _:=fint u h1 w hT
 clear hT
 generalize dm u=tx at HC ⊢
 go_enter Tryz.func121,Tryz.ntmps121
 go_wp2_with (go_at_call 140; refine Calls.mono HC.out ?_; rintro e w' ⟨rfl,hB⟩)
 go_ret
 exact ⟨rfl,hB⟩
def gW (i b:Int):Option Bytes:=ck (b=16∧0≤i∧i < 256) <| some (dm i.toNat)
theorem nY (i_0 base_1:Int)(r:Bytes)(h0:gW i_0 base_1=some r):aw Tryz.prog 121 [eI i_0,eI base_1] (·=.p (eS r)):=by
 obtain ⟨⟨rfl,h1,h2⟩,h3⟩:=kz h0
 cases h3
 obtain ⟨u,rfl⟩:∃ u:Nat,i_0=u:=⟨i_0.toNat,by omega⟩
 refine aw.of_calls (l:=[.int .i64 u,.int .i64 16]) λ w st hok=>(EE u (by omega) w (oe hok.gl rfl (by kernel_rfl))).mono ?_
 rintro e w' ⟨rfl,hB⟩
 exact ⟨_,rfl,hB,λ _=>.p (.val _)⟩
end Go.Ab
namespace Go.Ab
open Go.Proofs Go.RowKit Go
theorem C5 (n b0 b1 b2 b3:Nat)(hn:1≤n)(h0:b0 < 256):1≤(Lib.decodeN n b0 b1 b2 b3).2∧(Lib.decodeN n b0 b1 b2 b3).2≤n∧(Lib.decodeN n b0 b1 b2 b3).2≤4 ∧
  ((Lib.decodeN n b0 b1 b2 b3).1 < 128→(Lib.decodeN n b0 b1 b2 b3).2=1∧(Lib.decodeN n b0 b1 b2 b3).1=b0) ∧
  (128≤(Lib.decodeN n b0 b1 b2 b3).1→128≤b0∧(2≤(Lib.decodeN n b0 b1 b2 b3).2→128≤b1)∧(3≤(Lib.decodeN n b0 b1 b2 b3).2→128≤b2)∧(4≤(Lib.decodeN n b0 b1 b2 b3).2→128≤b3)) ∧
  ((Lib.decodeN n b0 b1 b2 b3).1 < 55296∨(57343 < (Lib.decodeN n b0 b1 b2 b3).1∧(Lib.decodeN n b0 b1 b2 b3).1≤1114111)):=by
 unfold Lib.decodeN
 repeat' split
 all_goals (refine ⟨by dsimp only; omega,by dsimp only; omega,by dsimp only; omega,λ h=>⟨by dsimp only at h ⊢; first | done | omega,by dsimp only at h ⊢; first | done | omega⟩,λ h=>⟨by dsimp only at h; omega,λ k=>by dsimp only at k; omega,λ k=>by dsimp only at k; omega,λ k=>by dsimp only at k; omega⟩,by dsimp only; omega⟩)
end Go.Ab
namespace Go.Ab
open Go.Proofs Go.RowKit Go
abbrev fW:ByteArray:={ data:=#[46,91] }
theorem CU {P:Program}(w:World)(b:Nat)(s:ByteArray)(pos:Nat)(ty:TypeId)(h:pos < s.size)(hb:w.heap[b]? = some (.stringIter s pos)) :
  (Instr.next (.pointer (some ⟨b,0,none⟩)) true ty).run P w=.ok (.tuple #[.bool true,.int .i64 pos,.int .i32 (Utf8.decode s pos).1]) { w with heap:=w.heap.setIfInBounds b (.stringIter s (pos+(Utf8.decode s pos).2)) }:=by
 simp only [Instr.next,getObj,setObj,Sem.run_bind,Sem.run,hb,Result.andThen,h,if_true]
 simp [goInt,Sem.run,hb]
theorem BS {P:Program}(w:World)(b:Nat)(s:ByteArray)(pos:Nat)(ty:TypeId)(h:¬ pos < s.size)(hb:w.heap[b]? = some (.stringIter s pos)) :
  (Instr.next (.pointer (some ⟨b,0,none⟩)) true ty).run P w=.ok (.tuple #[.bool false]) w:=by
 simp [Instr.next,getObj,Sem.run,hb,h]
theorem wo (s:ByteArray)(k:Nat)(h:k < s.size):s.data.toList[k]? = some (s.get! k):=by
 have:s.get! k=s[k]'h:=by
  simp [ByteArray.get!,getElem!_pos,h]
  rfl
 rw [this]; exact Lib.data_getElem? s k h
theorem AP (s:ByteArray)(i:Nat)(h:i < s.size):∃ c k:Nat,Utf8.decode s i=(c,k)∧1≤k∧i+k≤s.size∧(c < 128→k=1∧∃ x:UInt8,s.data.toList[i]? = some x∧c=x.toNat) ∧
  (128≤c→∀ j b,i≤j→j < i+k→s.data.toList[j]? = some b→128≤b.toNat)∧(c < 55296∨(57343 < c∧c≤1114111)):=by
 refine ⟨(Utf8.decode s i).1,(Utf8.decode s i).2,rfl,?_⟩
 rw [Lib.decode_at]
 obtain ⟨h1,h2,h3,h4,h5,h6⟩:=C5 (s.size - i) (s.get! i).toNat (s.get! (i+1)).toNat (s.get! (i+2)).toNat (s.get! (i+3)).toNat (by omega) (UInt8.toNat_lt _)
 refine ⟨h1,by omega,λ q=>⟨(h4 q).1,s.get! i,wo s i h,(h4 q).2⟩,λ q j b a1 a2 hb=>?_,h6⟩
 obtain ⟨q0,q1,q2,q3⟩:=h5 q
 have hj:j < s.size:=by omega
 rw [wo s j hj] at hb
 cases hb
 obtain rfl | rfl | rfl | rfl:j=i∨j=i+1∨j=i+2∨j=i+3:=by omega
 ·exact q0
 ·exact q1 (by omega)
 ·exact q2 (by omega)
 ·exact q3 (by omega)
theorem zn (c:Nat)(h:128≤c)(hv:Lib.validRune c=true):(Utf8.encode (c:Int)=⟨#[UInt8.ofNat (0xC0+c / 64),UInt8.ofNat (0x80+c % 64)]⟩)∨((Utf8.encode (c:Int)).size=3∨(Utf8.encode (c:Int)).size=4):=by
 have hv2:Utf8.valid (c:Int)=true:=by
  simp only [Lib.validRune,decide_eq_true_eq] at hv
  simp only [Utf8.valid,Bool.or_eq_true,Bool.and_eq_true,decide_eq_true_eq]
  omega
 simp only [Utf8.encode,hv2,if_true,Int.toNat_natCast]
 rw [if_neg (by omega)]
 by_cases h1:c < 2048
 ·rw [if_pos h1]; exact .inl rfl
 ·rw [if_neg h1]
  by_cases h2:c < 65536
  ·rw [if_pos h2]; exact .inr (.inl rfl)
  ·rw [if_neg h2]; exact .inr (.inr rfl)
theorem Ez (c:Nat):(UInt8.ofNat (0x80+c % 64)).toNat≠91:=by
 rw [UInt8.toNat_ofNat']
 omega
theorem below_drewN' {B:Nat}{a w:World}(h:Below B a w)(n:Nat):Below B a (w.drewN n):=h.trans ⟨rfl,rfl,rfl,Nat.le_refl _,λ _ _=>rfl⟩
theorem D7 (c:Int)(w:World):Calls Tryz.prog 97 #[.string ByteArray.empty,.int .u8 c] w λ e w'=>e=.returned (.int .i64 (-1))∧w'=w:=Tryz.strings_IndexByte ByteArray.empty c w
set_option maxRecDepth 1000000 in
theorem D8 (s rs:ByteArray)(c:Nat)(h:128≤c)(hv:Lib.validRune c=true)(hne:c≠65533)(henc:Utf8.encode (c:Int)=rs)(hs:s.size=2)(hr:rs.size=2)
  (h1:(s[1]'(by omega))≠(rs[1]'(by omega))) (w:World) :
  Calls Tryz.prog 112 #[.string s,.int .i32 c] w λ e w'=>e=.returned (.int .i64 (-1))∧Below w.heap.size w w':=by
 have hlt:decide ((c:Int) < 128)=false:=decide_eq_false (by omega)
 have hne':((c:Int) == 65533)=false:=beq_eq_false_iff_ne.2 (by omega)
 have h0:decide ((0:Int)≤(c:Int))=true:=decide_eq_true (by omega)
 obtain ⟨x,hx⟩:∃ x,s[1]'(by omega)=x:=⟨_,rfl⟩
 obtain ⟨y,hy⟩:∃ y,rs[1]'(by omega)=y:=⟨_,rfl⟩
 rw [hx,hy] at h1
 have hsz:(s.size:Int)=2:=by omega
 have hrz:(rs.size:Int)=2:=by omega
 have hb:((x.toNat:Int) != (y.toNat:Int))=true:=by
  rw [bne_iff_ne]
  intro e
  exact h1 (UInt8.toNat_inj.1 (by omega))
 go_enter Tryz.func112,Tryz.ntmps112
 go_wp2_with (go_at_call 134; refine (Tryz.utf8_ValidRune _ _).mono ?_; rintro e w' ⟨rfl,hw⟩; rw [hw,hv])
 refine wp_scope_straight ?_
 go_wp2
 go_loopg [9] 0 (λ g v wx=>g=0∧v=.int .i64 1∧wx=w)
 case atStart=>exact ⟨rfl,by go_num,rfl⟩
 case round =>
  obtain ⟨rfl,rfl,rfl⟩:=hrel
  go_wp2
  refine wp_scope_straight ?_
  go_wp2
  go_big_quiet (fail)
  go_wp2
  go_big_quiet ((go_at_call 97; exact (D7 _ _).mono (λ _ _ h=>⟨h.1,_,h.2⟩)))
  go_wp2
  simp only [Exit.noGoto,Exit.inBlock,Exit.then]
  go_ret
  exact ⟨rfl,below_drewN' (Below.refl _ _) _⟩
set_option maxRecDepth 1000000 in
theorem CB (s rs:ByteArray)(c:Nat)(h:128≤c)(hv:Lib.validRune c=true)(hne:c≠65533)(henc:Utf8.encode (c:Int)=rs)(hs:s.size=2)(hr:3≤rs.size)(hr4:rs.size≤4)(w:World) :
  Calls Tryz.prog 112 #[.string s,.int .i32 c] w λ e w'=>e=.returned (.int .i64 (-1))∧Below w.heap.size w w':=by
 have hlt:decide ((c:Int) < 128)=false:=decide_eq_false (by omega)
 have hne':((c:Int) == 65533)=false:=beq_eq_false_iff_ne.2 (by omega)
 have h0:decide ((0:Int)≤(c:Int))=true:=decide_eq_true (by omega)
 obtain ⟨i,hi⟩:∃ i:Nat,rs.size=i+1:=⟨rs.size - 1,by omega⟩
 have hsz:(s.size:Int)=2:=by omega
 have hrz:(rs.size:Int)=(i:Int)+1:=by omega
 have hlast:IntKind.i64.wrap ((i:Int)+1 - 1)=(i:Int):=by rw [wrap_small _ (by omega) (by omega)]; omega
 have hend:decide ((i:Int) < 2)=false:=decide_eq_false (by omega)
 go_enter Tryz.func112,Tryz.ntmps112
 go_wp2_with (go_at_call 134; refine (Tryz.utf8_ValidRune _ _).mono ?_; rintro e w' ⟨rfl,hw⟩; rw [hw,hv])
 refine wp_scope_straight ?_
 go_wp2
 go_loopg [9] 0 (λ g v wx=>g=0∧v=.int .i64 i∧wx=w)
 case atStart=>exact ⟨rfl,by first | rfl | (congr 1; omega),rfl⟩
 case round =>
  obtain ⟨rfl,rfl,rfl⟩:=hrel
  go_wp2
  simp only [Exit.noGoto,Exit.inBlock,Exit.then]
  go_ret
  exact ⟨rfl,Below.refl _ _⟩
set_option maxRecDepth 1000000 in
theorem Di (w:World) :
  Calls Tryz.prog 112 #[.string fW,.int .i32 65533] w λ e w'=>e=.returned (.int .i64 (-1))∧Below w.heap.size w w':=by
 generalize hs:fW=s
 have hz:s.size=2:=by rw [← hs]; rfl
 have ha:∀ i (hi:i < s.size),(s[i]'hi).toNat < 128:=by
  subst hs
  intro i hi
  have:i=0∨i=1:=by have:i < 2:=hi; omega
  rcases this with rfl | rfl
  ·show (46:UInt8).toNat < 128; decide
  ·show (91:UInt8).toNat < 128; decide
 go_enter Tryz.func112,Tryz.ntmps112
 go_wp2
 go_loopg [5,6] 2 (λ g _ _ wx=>∃ i:Nat,i+g=2∧wx=w.iter s i)
 case atStart=>exact ⟨0,rfl,rfl⟩
 case round =>
  obtain ⟨i,hig,rfl⟩:=hrel
  cases gk with
  | zero =>
   obtain rfl:i=2:=by omega
   have hnx:=run_next_end (P:=Tryz.prog) w s 2
   rw [hz] at hnx
   go_wp2
   go_ret
   exact ⟨rfl,(Below.refl _ w).alloc (Nat.le_refl _) _⟩
  | succ g =>
   have hi:i < s.size:=by omega
   have hx128:=ha i hi
   have hnx:=λ ty=>run_next_ascii (P:=Tryz.prog) w s i ty hi hx128
   obtain ⟨x,hx⟩:∃ x:UInt8,s[i]'hi=x:=⟨_,rfl⟩
   rw [hx] at hnx hx128
   have hne:((x.toNat:Int) == 65533)=false:=beq_eq_false_iff_ne.2 (by omega)
   go_wp2
   go_roundg g
   case measure=>omega
   case rel=>exact ⟨i+1,by omega,rfl⟩
end Go.Ab
namespace Go.Ab
open Go.Proofs Go.RowKit Go
theorem CE (c:Nat)(hv:c < 55296∨(57343 < c∧c≤1114111))(h:128≤c)(w:World) :
  Calls Tryz.prog 112 #[.string fW,.int .i32 c] w λ e w'=>e=.returned (.int .i64 (-1))∧Below w.heap.size w w':=by
 have hv1:Lib.validRune (c:Int)=true:=by
  simp only [Lib.validRune,decide_eq_true_eq]
  omega
 by_cases hne:c=65533
 ·subst hne; exact Di w
 ·rcases zn c h hv1 with e | e
  ·refine D8 fW _ c h hv1 hne e rfl rfl ?_ w
   have h91:=Ez c
   intro q
   apply h91
   have q':(91:UInt8)=UInt8.ofNat (0x80+c % 64):=q
   rw [← q']
   rfl
  ·exact CB fW _ c h hv1 hne rfl rfl (by omega) (by omega) w
theorem xY {s cs:List UInt8}{i k:Nat}(hcs:∀ b,cs.contains b=true→b.toNat < 128)(h:Lib.NoAny s cs i)(hk:∀ j b,i≤j→j < i+k→s[j]? = some b→128≤b.toNat):Lib.NoAny s cs (i+k):=λ j b hj hb=>by
 by_cases q:j < i
 ·exact h j b q hb
 ·cases hc:cs.contains b with
  | false=>rfl
  | true=>have:=hk j b (by omega) hj hb; have:=hcs b hc; omega
theorem y5 {B:Nat}{a w:World}(h:Below B a w){b:Nat}(hb:B≤b)(o:Obj):Below B a { w with heap:=w.heap.setIfInBounds b o } :=
 h.trans ⟨rfl,rfl,rfl,by simp,λ k hk=>by
  show (w.heap.setIfInBounds b o)[k]? = _
  rw [Array.getElem?_setIfInBounds_ne (by omega)]⟩
set_option maxHeartbeats 8000000 in
set_option maxRecDepth 1000000 in
theorem tr (s:ByteArray)(w:World)(h8:s.size≤8) :
  Calls Tryz.prog 93 #[.string s,.string fW] w λ e w'=>e=.returned (.int .i64 (Lib.indexAny s.data.toList [46,91]))∧Below w.heap.size w w':=by
 have hn1:((fW.size:Int) == 1)=false:=rfl
 have h8z:decide ((8:Int) < (s.size:Int))=false:=decide_eq_false (by omega)
 have hcs:∀ b,([46,91]:List UInt8).contains b=true→b.toNat < 128:=by
  intro b hb
  simp at hb
  rcases hb with rfl | rfl <;> decide
 have hemp:({ data:=#[46,91] }:ByteArray).toList.isEmpty=false:=by rw [Lib.toList_data]; rfl
 go_enter Tryz.func93,Tryz.ntmps93
 go_wp2_with (go_at_call 113; refine (Tryz.strings_shouldUseASCIISet _ _).mono ?_; rintro e w' ⟨rfl,hw⟩; rw [hw,h8z])
 go_loopg [9,10] s.size (λ g _ _ wx=>∃ i:Nat,i+g=s.size∧wx.heap[w.heap.size]? = some (.stringIter s i)∧Hid (Below w.heap.size w wx)∧Hid (Lib.NoAny s.data.toList [46,91] i))
 case atStart=>exact ⟨0,by omega,by simp [World.iter_heap],(Below.refl _ w).alloc (Nat.le_refl _) _,Lib.NoAny.zero _ _⟩
 case round =>
  obtain ⟨i,hig,hit,HB,HN⟩:=hrel
  cases gk with
  | zero =>
   obtain rfl:i=s.size:=by omega
   have hnx:=λ ty=>BS (P:=Tryz.prog) wr w.heap.size s s.size ty (by omega) hit
   go_wp2
   go_ret
   exact ⟨by rw [Lib.indexAny_none (by rw [← Lib.size_eq]; exact HN.out)]; rfl,HB.out⟩
  | succ g =>
   have hi:i < s.size:=by omega
   obtain ⟨c,k,hd,hk1,hk2,hlow,hhigh,hval⟩:=AP s i hi
   have hnx:=λ ty=>CU (P:=Tryz.prog) wr w.heap.size s i ty hi hit
   rw [hd] at hnx
   have hlt:w.heap.size < wr.heap.size:=by
    rcases Nat.lt_or_ge w.heap.size wr.heap.size with h | h
    ·exact h
    ·rw [Array.getElem?_eq_none h] at hit; cases hit
   obtain ⟨W1,hW1⟩:∃ W1,({ wr with heap:=wr.heap.setIfInBounds w.heap.size (.stringIter s (i+k)) }:World)=W1:=⟨_,rfl⟩
   have HI:Hid (W1.heap[w.heap.size]? = some (.stringIter s (i+k))):=by
    rw [← hW1]
    show (wr.heap.setIfInBounds w.heap.size (.stringIter s (i+k)))[w.heap.size]? = _
    rw [Array.getElem?_setIfInBounds_self_of_lt hlt]
   have HL:Hid (w.heap.size < W1.heap.size):=by
    rw [← hW1]; show w.heap.size < (wr.heap.setIfInBounds _ _).size; simp; exact hlt
   have HB1:Hid (Below w.heap.size w W1):=by rw [← hW1]; exact y5 HB.out (Nat.le_refl _) _
   have Hk:Hid (∃ g',i+k+g'=s.size∧g'≤g):=⟨s.size - (i+k),by omega,by omega⟩
   simp only [hW1] at hnx
   clear hW1 hit HB hd
   by_cases h128:c < 128
   ·obtain ⟨rfl,x,hx,rfl⟩:=hlow h128
    have Hx:Hid (s.data.toList[i]? = some x):=hx
    have HR:Hid _:=Tryz.strings_IndexRune_ascii fW (x.toNat:Int) W1 (by omega) (by omega)
    have hback:((x.toNat:Int)).toNat.toUInt8=x:=by simp
    rw [hback] at HR
    have hcon:=Lib.contains_iff_indexByte [46,91] x
    rw [show fW.data.toList=[46,91] from rfl] at HR
    clear hx hlow hhigh hval hback
    cases hin:([46,91]:List UInt8).contains x
    ·rw [hin] at hcon
     generalize Lib.indexByte [46,91] x=v at HR hcon
     have hlt:decide ((0:Int)≤v)=false:=hcon.symm
     clear hcon
     go_wp2_with (go_at_call 112; refine Calls.mono HR.out ?_; rintro e w' ⟨rfl,hw'⟩; rw [hw'])
     go_roundg g
     case measure=>omega
     case rel=>exact ⟨i+1,by omega,HI.out,HB1,HN.out.succ Hx.out hin⟩
    ·rw [hin] at hcon
     generalize Lib.indexByte [46,91] x=v at HR hcon
     have hge:decide ((0:Int)≤v)=true:=hcon.symm
     clear hcon
     go_wp2_with (go_at_call 112; refine Calls.mono HR.out ?_; rintro e w' ⟨rfl,hw'⟩; rw [hw'])
     go_ret
     exact ⟨by rw [Lib.indexAny_hit HN.out Hx.out hin]; rfl,HB1.out⟩
   ·have HR:Hid _:=CE c hval (by omega) W1
    have HN2:Hid _:=xY hcs HN.out (hhigh (by omega))
    clear hlow hhigh hval
    go_wp2_with (go_at_call 112; refine Calls.mono HR.out ?_; rintro e w' ⟨rfl,hB'⟩)
    have h1:w'.heap[w.heap.size]? = some (.stringIter s (i+k)):=(hB'.block _ HL.out).trans HI.out
    obtain ⟨g',hg',hg''⟩:=Hk.out
    go_roundg g'
    case measure=>omega
    case rel=>exact ⟨i+k,hg',h1,HB1.out.trans (hB'.mono HB1.out.size),HN2⟩
theorem zo:Tryz.zeroCells146=Array.replicate 256 (.bool false):=by kernel_rfl
theorem z6 (w:World):(zeroValue 146).run Tryz.prog w=.ok (.agg (Array.replicate 256 (.bool false))) w:=by
 rw [← zo]; exact Tryz.zeroValue146 w
theorem xI (j:Nat)(b:UInt8)(h:fW.data.toList[j]? = some b):b.toNat < 128:=by
 match j,h with
 | 0,h=>cases h; decide
 | 1,h=>cases h; decide
 | n+2,h=>cases h
def strings_IndexAny (s cs:Bytes):Option Int:=ck (cs=[46,91]∧s.length < 4294967281) <| some (Lib.indexAny s cs)
theorem oQ (s_0 chars_1:Bytes)(r:Int)(h0:strings_IndexAny s_0 chars_1=some r):aw Tryz.prog 93 [eS s_0,eS chars_1] (·=.p (eI r)):=by
 obtain ⟨⟨rfl,hl⟩,h1⟩:=kz h0
 cases h1
 refine aw.of_calls (l:=[.string (str s_0),.string fW]) λ w st hok=>?_
 have hz:(str s_0).size=s_0.length:=g7 _
 by_cases h8:(str s_0).size≤8
 ·refine (tr (str s_0) w h8).mono ?_
  rintro e w' ⟨rfl,hB⟩
  rw [gB]
  exact ⟨_,rfl,hB,λ _=>.p (.val _)⟩
 ·refine (Tryz.strings_IndexAny_long z6 (str s_0) fW w (by decide) (by omega) (by omega) (by decide) xI).mono ?_
  rintro e w' ⟨rfl,rfl⟩
  rw [gB]
  exact ⟨_,rfl,((Below.refl _ w).alloc (Nat.le_refl _) _).alloc (by show w.heap.size≤(w.heap.push _).size; simp) _,λ _=>.p (.val _)⟩
end Go.Ab
namespace Go.Ab
open Go.Proofs Go.Ab
attribute [local irreducible] awp d8 aP aw bH Ar AV.sub
theorem fU (l:List ab)(h:l.isEmpty=true):aw Tryz.prog 81 [eL ac l] (·=.p (eL ac [])):=by
 obtain rfl:l=[]:=by simpa using h
 refine a6 good Tryz.func81 rfl rfl rfl λ w0=>?_
 refine bB ?_
 refine bZ ?_
 refine aR rfl ?_
 refine bc rfl rfl rfl rfl ?_
 refine bj ?_
 (repeat (first | refine aC ?_ | refine aI ?_ | refine bR ?_ | refine aZ rfl ?_ | refine bQ ?_ | refine aO ?_ | refine aD ?_ | refine aj ?_ | refine ax ?_ | refine am rfl ?_ | refine noGoto_ret ?_ | refine noGoto_exit ?_ | refine noGoto_normal ?_))
 refine bB ?_
 refine bB ?_
 refine bZ ?_
 refine aR rfl ?_
 refine cB rfl rfl rfl rfl ?_
 refine aR rfl ?_
 refine mu rfl rfl rfl rfl rfl rfl rfl rfl (λ b hb=>?_)
 refine bj ?_
 (repeat (first | refine aC ?_ | refine aI ?_ | refine bR ?_ | refine aZ rfl ?_ | refine bQ ?_ | refine aO ?_ | refine aD ?_ | refine aj ?_ | refine ax ?_ | refine am rfl ?_ | refine noGoto_ret ?_ | refine noGoto_exit ?_ | refine noGoto_normal ?_))
 refine g5 rfl (λ hc=>?_) (λ hc=>?_)
 ·skip
  refine bB ?_
  refine bZ ?_
  refine aR rfl ?_
  refine bc rfl rfl rfl rfl ?_
  refine bj ?_
  (repeat (first | refine aC ?_ | refine aI ?_ | refine bR ?_ | refine aZ rfl ?_ | refine bQ ?_ | refine aO ?_ | refine aD ?_ | refine aj ?_ | refine ax ?_ | refine am rfl ?_ | refine noGoto_ret ?_ | refine noGoto_exit ?_ | refine noGoto_normal ?_))
  refine cQ ?_
  (repeat (first | refine aC ?_ | refine aI ?_ | refine bR ?_ | refine aZ rfl ?_ | refine bQ ?_ | refine aO ?_ | refine aD ?_ | refine aj ?_ | refine ax ?_ | refine am rfl ?_ | refine noGoto_ret ?_ | refine noGoto_exit ?_ | refine noGoto_normal ?_))
  refine nf rfl ?_
  exact gA _
 ·skip
  refine cR ?_
  (repeat (first | refine aC ?_ | refine aI ?_ | refine bR ?_ | refine aZ rfl ?_ | refine bQ ?_ | refine aO ?_ | refine aD ?_ | refine aj ?_ | refine ax ?_ | refine am rfl ?_ | refine noGoto_ret ?_ | refine noGoto_exit ?_ | refine noGoto_normal ?_))
  refine bB ?_
  refine bZ ?_
  refine aR rfl ?_
  refine sJ rfl rfl rfl rfl rfl rfl rfl 5 4 ?_
  refine aR rfl ?_
  refine cB rfl rfl rfl rfl ?_
  refine aR rfl ?_
  refine gw ac [] [] rfl rfl rfl rfl rfl rfl rfl rfl rfl rfl rfl rfl rfl (λ x=>congrArg List.length (ab.cells_eq x)) rfl rfl rfl rfl (by decide) ?_
  refine aR rfl ?_
  refine bc rfl rfl rfl rfl ?_
  refine bj ?_
  (repeat (first | refine aC ?_ | refine aI ?_ | refine bR ?_ | refine aZ rfl ?_ | refine bQ ?_ | refine aO ?_ | refine aD ?_ | refine aj ?_ | refine ax ?_ | refine am rfl ?_ | refine noGoto_ret ?_ | refine noGoto_exit ?_ | refine noGoto_normal ?_))
  refine cQ ?_
  (repeat (first | refine aC ?_ | refine aI ?_ | refine bR ?_ | refine aZ rfl ?_ | refine bQ ?_ | refine aO ?_ | refine aD ?_ | refine aj ?_ | refine ax ?_ | refine am rfl ?_ | refine noGoto_ret ?_ | refine noGoto_exit ?_ | refine noGoto_normal ?_))
  refine nf rfl ?_
  exact AV.sub_vec _ _ _ _
theorem fS (l:List ab)(h:l.isEmpty=false)(hlen:l.length*48≤140737488355328):bH Tryz.prog 81 [.p (eL ac l)] [] (λ x y=>x=.arr 2000000 4 0 l.length∧y=[(2000000,iF ac l)]):=by
 refine gh good [800000] [800000] Tryz.func81 rfl rfl rfl rfl rfl λ w0 F=>?_
 refine bB ?_
 refine bZ ?_
 refine aR rfl ?_
 refine bc rfl rfl rfl rfl ?_
 refine bj ?_
 (repeat (first | refine aC ?_ | refine aI ?_ | refine bR ?_ | refine aZ rfl ?_ | refine bQ ?_ | refine aO ?_ | refine aD ?_ | refine aj ?_ | refine ax ?_ | refine am rfl ?_ | refine noGoto_ret ?_ | refine noGoto_exit ?_ | refine noGoto_normal ?_))
 refine bB ?_
 refine bB ?_
 refine bZ ?_
 refine aR rfl ?_
 refine cB rfl rfl rfl rfl ?_
 refine aR rfl ?_
 refine mu rfl rfl rfl rfl rfl rfl rfl rfl (λ b hb=>?_)
 refine bj ?_
 (repeat (first | refine aC ?_ | refine aI ?_ | refine bR ?_ | refine aZ rfl ?_ | refine bQ ?_ | refine aO ?_ | refine aD ?_ | refine aj ?_ | refine ax ?_ | refine am rfl ?_ | refine noGoto_ret ?_ | refine noGoto_exit ?_ | refine noGoto_normal ?_))
 refine g5 rfl (λ hc=>?_) (λ hc=>?_)
 ·have he:l=[]:=by simpa using hb hc
  subst he
  cases h
 ·skip
  refine cR ?_
  (repeat (first | refine aC ?_ | refine aI ?_ | refine bR ?_ | refine aZ rfl ?_ | refine bQ ?_ | refine aO ?_ | refine aD ?_ | refine aj ?_ | refine ax ?_ | refine am rfl ?_ | refine noGoto_ret ?_ | refine noGoto_exit ?_ | refine noGoto_normal ?_))
  refine bB ?_
  refine bZ ?_
  refine aR rfl ?_
  refine uI rfl rfl rfl rfl rfl rfl 4 ?_
  refine aR rfl ?_
  refine cB rfl rfl rfl rfl ?_
  refine aR rfl ?_
  refine yx ac [] l rfl rfl rfl rfl rfl rfl rfl rfl rfl rfl rfl rfl rfl rfl rfl (λ x=>congrArg List.length (ab.cells_eq x)) rfl rfl rfl (by simpa using hlen) ?_
  refine aR rfl ?_
  refine bc rfl rfl rfl rfl ?_
  refine bj ?_
  (repeat (first | refine aC ?_ | refine aI ?_ | refine bR ?_ | refine aZ rfl ?_ | refine bQ ?_ | refine aO ?_ | refine aD ?_ | refine aj ?_ | refine ax ?_ | refine am rfl ?_ | refine noGoto_ret ?_ | refine noGoto_exit ?_ | refine noGoto_normal ?_))
  refine cQ ?_
  (repeat (first | refine aC ?_ | refine aI ?_ | refine bR ?_ | refine aZ rfl ?_ | refine bQ ?_ | refine aO ?_ | refine aD ?_ | refine aj ?_ | refine ax ?_ | refine am rfl ?_ | refine noGoto_ret ?_ | refine noGoto_exit ?_ | refine noGoto_normal ?_))
  exact og (bm 7 800000 rfl rfl rfl rfl (aF rfl (aJ _) rfl)) rfl rfl rfl (aF rfl (aJ _) rfl) (AV.sub_of_eq (congrArg (AV.arr 2000000 4 0) (by simp))) ⟨⟨_,rfl,ag _⟩,trivial⟩
end Go.Ab
end
section
namespace Go.Ab
open Go.Proofs Go.RowKit
end Go.Ab
end
section
namespace Go.Ab
open Go.MapKept
section
variable {α:Type}
def cJ:List (Bytes×α)→Bytes→Option α
 | [],_=>none
 | (j,v)::r,k=>if j=k then some v else cJ r k
def kK:List (Bytes×α)→Bytes→α→List (Bytes×α)
 | [],k,v=>[(k,v)]
 | (j,u)::r,k,v=>if j=k then (k,v)::r else (j,u)::kK r k v
theorem tl:∀ {l:List (Bytes×α)} {i:Nat} {k:Bytes} {v:α},(l.map Prod.fst).Nodup→l[i]? = some (k,v)→cJ l k=some v
 | [],i,k,v,_,h=>by simp at h
 | (j,u)::r,0,k,v,_,h=>by
  simp only [List.getElem?_cons_zero,Option.some.injEq,Prod.mk.injEq] at h
  obtain ⟨rfl,rfl⟩:=h
  simp [cJ]
 | (j,u)::r,i+1,k,v,hd,h=>by
  simp only [List.map_cons,List.nodup_cons] at hd
  simp only [List.getElem?_cons_succ] at h
  have hne:j≠k:=λ e=>hd.1 (by rw [e]; exact List.mem_map.2 ⟨_,List.mem_of_getElem? h,rfl⟩)
  simp only [cJ,if_neg hne]
  exact tl hd.2 h
theorem pu:∀ {l:List (Bytes×α)} {k:Bytes},(∀ p∈l,p.1≠k)→cJ l k=none
 | [],_,_=>rfl
 | (j,u)::r,k,h=>by
  simp only [cJ,if_neg (h (j,u) (by simp))]
  exact pu λ p hp=>h p (List.mem_cons_of_mem _ hp)
theorem kk:∀ {l:List (Bytes×α)} {k:Bytes} {v:α},(∀ p∈l,p.1≠k)→kK l k v=l++[(k,v)]
 | [],_,_,_=>rfl
 | (j,u)::r,k,v,h=>by
  simp only [kK,if_neg (h (j,u) (by simp)),List.cons_append]
  rw [kk λ p hp=>h p (List.mem_cons_of_mem _ hp)]
theorem lF:∀ {l:List (Bytes×α)} {i:Nat} {k:Bytes} {u v:α},(l.map Prod.fst).Nodup→l[i]? = some (k,u)→kK l k v=l.set i (k,v)
 | [],i,k,u,v,_,h=>by simp at h
 | (j,x)::r,0,k,u,v,_,h=>by
  simp only [List.getElem?_cons_zero,Option.some.injEq,Prod.mk.injEq] at h
  obtain ⟨rfl,rfl⟩:=h
  simp [kK]
 | (j,x)::r,i+1,k,u,v,hd,h=>by
  simp only [List.map_cons,List.nodup_cons] at hd
  simp only [List.getElem?_cons_succ] at h
  have hne:j≠k:=λ e=>hd.1 (by rw [e]; exact List.mem_map.2 ⟨_,List.mem_of_getElem? h,rfl⟩)
  simp only [kK,if_neg hne,List.set_cons_succ]
  rw [lF hd.2 h]
theorem tf {l:List (Bytes×α)}{k:Bytes}{v:α}(hd:(l.map Prod.fst).Nodup):((kK l k v).map Prod.fst).Nodup:=by
 by_cases h:∀ p∈l,p.1≠k
 ·rw [kk h,List.map_append,List.nodup_append]
  refine ⟨hd,by simp,λ a ha b hb e=>?_⟩
  simp only [List.map_cons,List.map_nil,List.mem_singleton] at hb
  subst hb
  obtain ⟨p,hp,hq⟩:=List.mem_map.1 ha
  exact h p hp (hq.trans e)
 ·obtain ⟨p,hp,hk⟩:∃ p∈l,p.1=k:=by
   refine Classical.byContradiction λ q=>h λ p hp e=>q ⟨p,hp,e⟩
  obtain ⟨i,hi⟩:=List.mem_iff_getElem?.1 hp
  obtain ⟨j,u⟩:=p
  have hk:j=k:=hk
  subst hk
  rw [lF hd hi]
  have:(l.set i (j,v)).map Prod.fst=l.map Prod.fst:=by
   rw [List.map_set]
   apply List.ext_getElem?
   intro q
   rw [List.getElem?_set]
   by_cases e:i=q
   ·subst e
    have:i < l.length:=(List.getElem?_eq_some_iff.1 hi).1
    rw [if_pos rfl]
    simp only [List.length_map,this,if_true,List.getElem?_map,hi]
    rfl
   ·rw [if_neg e]
  rw [this]; exact hd
theorem oq {β:Type}(f:α→β):∀ (l:List (Bytes×α)) (k:Bytes),cJ (l.map λ p=>(p.1,f p.2)) k=(cJ l k).map f
 | [],_=>rfl
 | (j,v)::r,k=>by
  simp only [List.map_cons,cJ]
  split
  ·rfl
  ·exact oq f r k
theorem tb {β:Type}(f:α→β):∀ (l:List (Bytes×α)) (k:Bytes) (v:α),kK (l.map λ p=>(p.1,f p.2)) k (f v)=(kK l k v).map λ p=>(p.1,f p.2)
 | [],_,_=>rfl
 | (j,u)::r,k,v=>by
  simp only [List.map_cons,kK]
  split
  ·rfl
  ·rw [tb f r k v]; rfl
end
theorem ym {a b:Bytes}(h:(Value.string ⟨a.toArray⟩)=.string ⟨b.toArray⟩):a=b:=by
 simpa using h
theorem mr {u:TypeDesc}{k e:Nat}(h:kindOf u=.map k e):u=.map k e:=by
 cases u <;> simp [kindOf] at h
 obtain ⟨rfl,rfl⟩:=h; rfl
theorem sS {es:Array MapEntry}{kvs:List (Bytes×PV)}(hn:es.size=kvs.length)(hd:(kvs.map Prod.fst).Nodup)(hk:∀ (i:Nat) e kv,es[i]? = some e→kvs[i]? = some kv→e.key=.string ⟨kv.1.toArray⟩)(k:Bytes) :
  (∀ x∈es.toList,IsKey .string x.key) ∧
  ((Instr.findNow .string (.string ⟨k.toArray⟩) es.toList 0=some none∧(∀ x∈es.toList,x.key≠.string ⟨k.toArray⟩)∧∀ p∈kvs,p.1≠k) ∨
  ∃ j e v,Instr.findNow .string (.string ⟨k.toArray⟩) es.toList 0=some (some (j,e.val))∧es[j]? = some e∧e.key=.string ⟨k.toArray⟩∧kvs[j]? = some (k,v)):=by
 have hks:∀ x∈es.toList,IsKey .string x.key:=by
  intro x hx
  obtain ⟨i,hi⟩:=List.mem_iff_getElem?.1 hx
  rw [Array.getElem?_toList] at hi
  have hil:=(Array.getElem?_eq_some_iff.1 hi).1
  have:=hk i x kvs[i] hi (List.getElem?_eq_getElem (by omega))
  rw [this]; trivial
 refine ⟨hks,?_⟩
 rcases findNow_spec (k:=.string ⟨k.toArray⟩) (d:=.string) trivial es.toList 0 hks with ⟨h1,h2⟩ | ⟨j,e,h1,h2,h3⟩
 ·refine .inl ⟨h1,h2,λ p hp e=>?_⟩
  obtain ⟨i,hi⟩:=List.mem_iff_getElem?.1 hp
  have hil:=(List.getElem?_eq_some_iff.1 hi).1
  have hes:es[i]? = some es[i]:=Array.getElem?_eq_getElem (by omega)
  have:=hk i es[i] p hes hi
  exact h2 es[i] (Array.getElem_mem_toList (by omega)) (by rw [this,e])
 ·rw [Array.getElem?_toList] at h2
  have hil:=(Array.getElem?_eq_some_iff.1 h2).1
  have hkv:kvs[j]? = some kvs[j]:=List.getElem?_eq_getElem (by omega)
  have:=hk j e kvs[j] h2 hkv
  have he:kvs[j].1=k:=ym (this.symm.trans h3)
  refine .inr ⟨j,e,kvs[j].2,by rw [h1]; simp,h2,h3,?_⟩
  rw [hkv,← he]
def upA (tok:Nat)(kvs:List (Bytes×PV))(x:AV):AV:=match x with
 | .mp t l=>bif Nat.beq t tok then .mp t kvs else .mp t l
 | x=>x.dem (Nat.beq · tok)
def upS (tok:Nat)(kvs:List (Bytes×PV)):List (Nat×AV)→Option (List (Nat×AV))
 | []=>some []
 | (i,x)::r=>(match frc (upA tok kvs x) with
  | some y=>(match upS tok kvs r with | some l=>some ((i,y)::l) | none=>none)
  | none=>none)
theorem AN {tok:Nat}{kvs:List (Bytes×PV)}:∀ {l l':List (Nat×AV)},upS tok kvs l=some l'→l'=l.map λ p=>(p.1,upA tok kvs p.2)
 | [],l',h=>by cases h; rfl
 | (i,x)::r,l',h=>by
  unfold upS at h
  split at h
  ·rename_i y hy
   split at h
   ·rename_i m hm; cases h; rw [sM hy,AN hm]; rfl
   ·cases h
  ·cases h
section
variable {C:Cx} {o:Oper} {K:AS→Prop} {sl:List (Nat×AV)} {ob:List (Nat×List AV)} {d:Nat}
theorem BC {d:Nat}(hd:d < M1):∀ i,Nat.beq i d=true→i < M1:=λ i hi=>by have:=Nat.eq_of_beq_eq_true hi; omega
theorem ru {y:AV}{sl':List (Nat×AV)}{ob':List (Nat×List AV)}(hd:o.dst=some d)(hn:Nat.blt d C.n=true)
  (hrun:∀ g a w,St C.n C.w0 C.F g ⟨sl,ob⟩ a w→(execOp a.eval o).run C.P w=.ok (.value (.map (some w.heap.size))) (w.alloc (.map #[] 0)))
  (hy:∀ (w:World) (g:Gh) (b:Nat),g.ow d=some b→w.heap[b]? = some (.map #[] 0)→ARep w g y (.map (some b)))
  (h1:dmS (Nat.beq · d) sl=some sl') (h2:dmO (Nat.beq · d) ob=some ob') (hK:K ⟨(d,y)::sl',ob'⟩):aP C o K ⟨sl,ob⟩:=by
 intro g a w hs
 have hdl:d < M1:=by have h1:=Nat.le_of_ble_eq_true C.nl; have h2:d < C.n:=Nat.blt_eq ▸ hn; omega
 unfold Oper.wp
 rw [hrun g a w hs]
 have hev:Ev w g.st (w.alloc (.map #[] 0)) g.st:=λ b o h=>⟨h,World.cell?_alloc_lt w _ _ (hs.lt b o h)⟩
 obtain ⟨g',hg'⟩:∃ g':Gh,g'=⟨g.st,λ i=>if i=d then some w.heap.size else g.ow i⟩:=⟨_,rfl⟩
 have hsz:(w.alloc (.map #[] 0)).heap.size=w.heap.size+1:=by simp
 have hs':St C.n C.w0 C.F g' (cb (Nat.beq · d) ⟨sl,ob⟩) a (w.alloc (.map #[] 0)):=by
  subst hg'
  refine hs.evolve (Nat.beq · d) (BC hdl) hev (λ id b hD h=>?_) (λ i j b hi hj=>?_) (λ i b hi=>?_) (λ b o h=>?_) (λ b hb=>?_) rfl rfl rfl (by omega) (λ b _ o=>Iff.rfl) (λ i hi=>?_)
  ·have hne:id≠d:=λ e=>by subst e; simp at hD
   exact ⟨by simp only [if_neg hne]; exact h,cZ (hs.own id b h).1,λ o h=>h⟩
  ·dsimp only at hi hj
   by_cases e1:i=d <;> by_cases e2:j=d
   ·omega
   ·rw [if_pos e1] at hi; rw [if_neg e2] at hj; cases hi; have:=(hs.own j _ hj).1; omega
   ·rw [if_neg e1] at hi; rw [if_pos e2] at hj; cases hj; have:=(hs.own i _ hi).1; omega
   ·rw [if_neg e1] at hi; rw [if_neg e2] at hj; exact hs.inj i j b hi hj
  ·dsimp only at hi
   by_cases e1:i=d
   ·rw [if_pos e1] at hi; cases hi
    exact ⟨by omega,λ hF=>by have:=hs.fl _ hF; have:=hs.size; omega⟩
   ·rw [if_neg e1] at hi; have:=hs.own i b hi; exact ⟨by omega,this.2⟩
  ·have:=hs.lt b o h; omega
  ·exact cZ (by have:=hs.fl b hb; have:=hs.size; omega)
  ·dsimp only
   rw [if_neg (by omega)]
 refine ⟨g',⟨(d,y)::sl',ob'⟩,?_,hK⟩
 have hp:=hs'.put (d:=o.dst) (λ t ht=>by rw [hd] at ht; cases ht; exact Nat.blt_eq ▸ hn) (x:=y) (v:=.map (some w.heap.size))
  (hy _ _ _ (by rw [hg']; simp) cw)
 rw [hd] at hp ⊢
 rw [vF h1,pr h2]
 exact hp
theorem wz {t:TypeId}{x:Operand}{n:Int}{i:TI}{kt et:Nat}{sl':List (Nat×AV)}{ob':List (Nat×List AV)}(ho:o.op=.makeMap t (some x))(hd:o.dst=some d)(hn:Nat.blt d C.n=true)
  (hi:look C.tt t=some i) (hik:i.k=.map kt et) (hx:evo sl x=some (.p (.val (.int .i64 n)))) (h1:dmS (Nat.beq · d) sl=some sl') (h2:dmO (Nat.beq · d) ob=some ob') (hK:K ⟨(d,.mp d [])::sl',ob'⟩):aP C o K ⟨sl,ob⟩:=by
 obtain ⟨u,hu1,hu2⟩:=aU C.good hi
 obtain rfl:=mr (hu2.trans hik)
 refine ru hd hn (λ g a w hs=>?_) (λ w g b h1 h2=>.mp h1 h2 rfl (by simp) (by simp) (by simp)) h1 h2 hK
 have hv:=bA hs hx
 simp [execOp,ho,hv,Instr.makeMap,run_underlying hu1,asInt,asIntOf,newObj,Sem.run,Result.andThen]
theorem uX {t kt et:TypeId}{x y:Operand}{i j:TI}{tok:Nat}{kvs:List (Bytes×PV)}{k:Bytes}{z:Value}{r:PV}(ho:o.op=.lookup t x y false)(hd:o.dst=some d)(hn:Nat.blt d C.n=true)
  (hi:look C.tt t=some i) (hik:i.k=.map kt et) (hj:look C.tt kt=some j) (hjk:j.k=.string) (hz:(C.P.info? et).map (·.zero)=some (some z))
  (hx:evo sl x=some (.mp tok kvs)) (hy:evo sl y=some (.p (.val (.string ⟨k.toArray⟩)))) (hr:∀ (w:World) (st:Nat→Nat→Prop) (v:Value),PRep w st ((cJ kvs k).getD (.val z)) v→PRep w st r v) (hK:K ⟨(d,.p r)::sl,ob⟩):aP C o K ⟨sl,ob⟩:=by
 obtain ⟨u,h1,h2⟩:=aU C.good hi
 obtain rfl:=mr (h2.trans hik)
 obtain ⟨u2,h3,h4⟩:=aU C.good hj
 obtain rfl:=dZ (h4.trans hjk)
 refine ok_one hd hn (λ g a w hs=>?_) hK
 have hm:=bf hs hx
 have hkv:=bA hs hy
 generalize hv:a.eval x=v at hm
 cases hm with
 | mp how hb hN hD hkeys hvals =>
  rename_i b ck es
  obtain ⟨hks,hc⟩:=sS hN hD hkeys k
  have hz2:(zeroValue et).run C.P w=.ok z w:=by
   obtain ⟨inf,hinf,hzz⟩:=Option.map_eq_some_iff.1 hz
   simp [zeroValue,typeInfo,hinf,hzz]
  rcases hc with ⟨f1,f2,f3⟩ | ⟨jj,e,v',f1,f2,f3,f4⟩
  ·refine ⟨z,?_,?_⟩
   ·simp [execOp,ho,hv,hkv,Instr.lookup,run_underlying h1,Go.MapKept.run_getObj_map hb,run_checkKey (d:=.string) h3 (k:=.string ⟨k.toArray⟩) trivial,run_findKey h3 f1,hz2,Result.andThen]
   ·exact .p (hr w _ _ (by rw [pu f3]; exact .val _))
  ·refine ⟨e.val,?_,?_⟩
   ·simp [execOp,ho,hv,hkv,Instr.lookup,run_underlying h1,Go.MapKept.run_getObj_map hb,run_checkKey (d:=.string) h3 (k:=.string ⟨k.toArray⟩) trivial,run_findKey h3 f1,Result.andThen]
   ·exact .p (hr w _ _ (by rw [tl hD f4]; exact hvals jj e _ f2 f4))
theorem AZ {t kt et:TypeId}{x y:Operand}{i j:TI}{tok:Nat}{kvs:List (Bytes×PV)}{k:Bytes}{z:Value}{r:PV}(ho:o.op=.lookup t x y false)(hd:o.dst=some d)(hn:Nat.blt d C.n=true)
  (hi:look C.tt t=some i) (hik:i.k=.map kt et) (hj:look C.tt kt=some j) (hjk:j.k=.string) (hz:(C.P.info? et).map (·.zero)=some (some z))
  (hx:evo sl x=some (.mp tok kvs)) (hy:evo sl y=some (.p (.val (.string ⟨k.toArray⟩)))) (hr:(cJ kvs k).getD (.val z)=r) (hK:K ⟨(d,.p r)::sl,ob⟩):aP C o K ⟨sl,ob⟩ :=
 uX ho hd hn hi hik hj hjk hz hx hy (λ _ _ _ h=>hr ▸ h) hK
theorem Cz {t kt et:TypeId}{x y v:Operand}{i j:TI}{tok:Nat}{kvs kvs':List (Bytes×PV)}{k:Bytes}{r:PV}{sl':List (Nat×AV)}{ob':List (Nat×List AV)}(ho:o.op=.mapUpdate t x y v)(hd:o.dst=none)
  (hi:look C.tt t=some i) (hik:i.k=.map kt et) (hj:look C.tt kt=some j) (hjk:j.k=.string)
  (hx:evo sl x=some (.mp tok kvs)) (hy:evo sl y=some (.p (.val (.string ⟨k.toArray⟩)))) (hv:evo sl v=some (.p r)) (htok:Nat.blt tok M1=true)
  (hk:kK kvs k r=kvs') (h1:upS tok kvs' sl=some sl') (h2:dmO (Nat.beq · tok) ob=some ob') (hK:K ⟨sl',ob'⟩):aP C o K ⟨sl,ob⟩:=by
 obtain ⟨u,hu1,hu2⟩:=aU C.good hi
 obtain rfl:=mr (hu2.trans hik)
 obtain ⟨u2,hu3,hu4⟩:=aU C.good hj
 obtain rfl:=dZ (hu4.trans hjk)
 have htl:tok < M1:=Nat.blt_eq ▸ htok
 intro g a w hs
 have hm:=bf hs hx
 have hkv:=bA hs hy
 have hrep:=bf hs hv
 generalize hvx:a.eval x=vx at hm
 generalize hvv:a.eval v=vv at hrep
 cases hrep with
 | p hrep =>
 cases hm with
 | mp how hb hN hD hkeys hvals =>
  rename_i b ck es
  obtain ⟨hks,hc⟩:=sS hN hD hkeys k
  have hbl:b < w.heap.size:=(hs.own tok b how).1
  -- the entries behind the change
  obtain ⟨es',ck',hrun,hN',hkeys',hvals'⟩:∃ (es':Array MapEntry) (ck':Nat),(execOp a.eval o).run C.P w=.ok .skip { w with heap:=w.heap.setIfInBounds b (.map es' ck') }∧es'.size=kvs'.length ∧
    (∀ (i:Nat) e kv,es'[i]? = some e→kvs'[i]? = some kv→e.key=.string ⟨kv.1.toArray⟩)∧(∀ (i:Nat) e kv,es'[i]? = some e→kvs'[i]? = some kv→PRep w g.st kv.2 e.val):=by
   rcases hc with ⟨f1,f2,f3⟩ | ⟨jj,e,v',f1,f2,f3,f4⟩
   ·refine ⟨es.push { key:=.string ⟨k.toArray⟩,val:=vv,born:=ck },ck+1,?_,?_,?_,?_⟩
    ·simp [execOp,ho,hvx,hkv,hvv,Instr.mapUpdate,run_underlying hu1,Go.MapKept.run_getObj_map hb,run_checkKey (d:=.string) hu3 (k:=.string ⟨k.toArray⟩) trivial,run_findKey hu3 f1,run_setObj_map _ hb,Result.andThen]
    ·rw [← hk,kk f3]; simp [hN]
    ·intro i e kv h3 h4
     rw [← hk,kk f3] at h4
     rw [Array.getElem?_push] at h3
     split at h3
     ·rename_i hi2
      cases h3
      rw [hi2,List.getElem?_append_right (by omega),hN] at h4
      simp at h4
      rw [← h4]
     ·have hil:i < es.size:=(Array.getElem?_eq_some_iff.1 h3).1
      rw [List.getElem?_append_left (by omega)] at h4
      exact hkeys i e kv h3 h4
    ·intro i e kv h3 h4
     rw [← hk,kk f3] at h4
     rw [Array.getElem?_push] at h3
     split at h3
     ·rename_i hi2
      cases h3
      rw [hi2,List.getElem?_append_right (by omega),hN] at h4
      simp at h4
      rw [← h4]
      exact hrep
     ·have hil:i < es.size:=(Array.getElem?_eq_some_iff.1 h3).1
      rw [List.getElem?_append_left (by omega)] at h4
      exact hvals i e kv h3 h4
   ·have hjl:jj < es.size:=(Array.getElem?_eq_some_iff.1 f2).1
    refine ⟨es.modify jj λ e=>{ e with key:=.string ⟨k.toArray⟩,val:=vv },ck,?_,?_,?_,?_⟩
    ·have hkey:=run_keyThatStays (P:=C.P) (w:=w) (d:=.string) (k:=.string ⟨k.toArray⟩) trivial
     simp [execOp,ho,hvx,hkv,hvv,Instr.mapUpdate,run_underlying hu1,Go.MapKept.run_getObj_map hb,run_checkKey (d:=.string) hu3 (k:=.string ⟨k.toArray⟩) trivial,run_findKey hu3 f1,f2,f3,hkey,run_setObj_map _ hb,Result.andThen]
    ·rw [← hk,lF hD f4]; simp [hN]
    ·intro i e2 kv h3 h4
     rw [← hk,lF hD f4] at h4
     rw [Array.getElem?_modify] at h3
     rw [List.getElem?_set] at h4
     split at h3
     ·rename_i hji
      subst hji
      rw [f2] at h3
      cases h3
      rw [if_pos rfl,if_pos (by omega)] at h4
      cases h4
      rfl
     ·rename_i hji
      rw [if_neg hji] at h4
      exact hkeys i e2 kv h3 h4
    ·intro i e2 kv h3 h4
     rw [← hk,lF hD f4] at h4
     rw [Array.getElem?_modify] at h3
     rw [List.getElem?_set] at h4
     split at h3
     ·rename_i hji
      subst hji
      rw [f2] at h3
      cases h3
      rw [if_pos rfl,if_pos (by omega)] at h4
      cases h4
      exact hrep
     ·rename_i hji
      rw [if_neg hji] at h4
      exact hvals i e2 kv h3 h4
  unfold Oper.wp
  rw [hrun]
  simp only [Oper.upon,hd,Act.put]
  obtain ⟨w',hw'⟩:∃ w':World,w'={ w with heap:=w.heap.setIfInBounds b (.map es' ck') }:=⟨_,rfl⟩
  rw [← hw']
  have hat:w'.heap[b]? = some (.map es' ck'):=by rw [hw']; exact (heap_set hb).1
  have hother:∀ b2,b2≠b→w'.heap[b2]? = w.heap[b2]?:=λ b2 h=>by rw [hw']; exact (heap_set hb).2 b2 h
  have hsz:w'.heap.size=w.heap.size:=by rw [hw']; simp
  have hev:Ev w g.st w' g.st:=by
   intro b2 o2 h
   refine ⟨h,?_⟩
   by_cases e:b2=b
   ·subst e; simp [World.cell?,hat,hb]
   ·simp only [World.cell?,hother b2 e]
  have hneq:∀ id b2,Nat.beq id tok=false→g.ow id=some b2→b2≠b:=λ id b2 hq h e=>by
   subst e
   have:=hs.inj id tok b2 h how
   subst this
   simp at hq
  have hs':=hs.evolve (g':=g) (w':=w') (Nat.beq · tok) (BC htl) hev (λ id b2 hq h=>⟨h,hother b2 (hneq id b2 hq h),λ o h=>h⟩) hs.inj (λ i b2 h=>by have:=hs.own i b2 h; rw [hsz]; exact this)
   (λ b2 o2 h=>by have:=hs.lt b2 o2 h; omega) (λ b2 h=>hother b2 (λ e=>(hs.own tok b how).2 (e ▸ h))) (by rw [hw']) (by rw [hw']) (by rw [hw']) (by omega) (λ b2 _ o2=>Iff.rfl) (λ i _=>rfl)
  refine ⟨g,⟨sl',ob'⟩,?_,hK⟩
  rw [AN h1,pr h2]
  refine { hs' with sl:=λ q=>?_ }
  have hq:=hs'.sl q
  have hq0:=hs.sl q
  simp only [AS.get,cb,gg] at hq hq0 ⊢
  cases hl:look sl q with
  | none=>simp only [Option.map_none,Option.getD_none]; exact .undef _
  | some z =>
   rw [hl] at hq hq0
   simp only [Option.map_some,Option.getD_some] at hq hq0 ⊢
   unfold upA
   split
   ·rename_i tk l
    cases hbt:Nat.beq tk tok
    ·simp only [AV.dem,hbt,cond_false] at hq ⊢; exact hq
    ·simp only [cond_true]
     have:=Nat.eq_of_beq_eq_true hbt
     subst this
     generalize a.tmps.getD q Go.undef=vq at hq0
     cases hq0 with
     | mp how2 _ _ _ _ _ =>
      rw [how] at how2; cases how2
      exact .mp how hat hN' (by rw [← hk]; exact tf hD) hkeys' (λ i e kv h3 h4=>(hvals' i e kv h3 h4).mono hev)
   ·exact hq
end
end Go.Ab
end
section
namespace Go.Ab
open Go.MapKept
/- As 'dem',for identities of any size; what is known of maps of rows is given up. -/
mutual
def AV.dm2 (D:Nat→Bool):AV→AV
 | .undef=>.undef
 | .p x=>.p x
 | .agg cs=>.agg (vQ D cs)
 | .vec tok sz ty es=>bif D tok then .p (.slice es) else .vec tok sz ty es
 | .arr id sz off n=>bif D id then .undef else .arr id sz off n
 | .ptr id off=>bif D id then .undef else .ptr id off
 | .bptr T sz id=>bif D id then .undef else .bptr T sz id
 | .rptr cs=>.rptr cs
 | .tuple cs=>.tuple (vQ D cs)
 | .func f cs=>.func f (vQ D cs)
 | .mp tok kvs=>bif D tok then .undef else .mp tok kvs
 | .mpr ..=>.undef
 | .stk tok sz es=>bif D tok then .undef else .stk tok sz es
 | .sem _=>.undef
 | .it ..=>.undef
 | .vecp ..=>.undef
 | .elp ..=>.undef
def vQ (D:Nat→Bool):List AV→List AV
 | []=>[]
 | x::r=>x.dm2 D::vQ D r
end
theorem lM (D:Nat→Bool):∀ l,vQ D l=l.map (AV.dm2 D)
 | []=>rfl
 | x::r=>by simp [vQ,lM D r]
theorem ARep.dm2 {D:Nat→Bool}{w w':World}{g g':Gh}(ev:Ev w g.st w' g'.st)(ow:∀ id b,D id=false→g.ow id=some b→g'.ow id=some b)
  (shape:∀ id b c e,D id=false→g.ow id=some b→w.heap[b]? = some (.cells c e (0,0))→∃ c':Array Value,w'.heap[b]? = some (.cells c' e (0,0))∧c'.size=c.size)
  (tip:∀ id b o,D id=false→g.ow id=some b→g'.st b o→g.st b o)
  (mp:∀ id b es k,D id=false→g.ow id=some b→w.heap[b]? = some (.map es k)→w'.heap[b]? = some (.map es k))
  (stab:∀ id b o,D id=false→g.ow id=some b→g.st b o→w'.heap[b]? = w.heap[b]?) {x:AV} {v:Value} (h:ARep w g x v):ARep w' g' (x.dm2 D) v:=by
 induction h with
 | undef v=>simp only [AV.dm2]; exact .undef _
 | p h=>simp only [AV.dm2]; exact .p (h.mono ev)
 | agg hl h ih =>
  simp only [AV.dm2,lM]
  refine .agg (by simpa using hl) λ i c v h1 h2=>?_
  simp only [List.getElem?_map,Option.map_eq_some_iff] at h1
  obtain ⟨c0,h1,rfl⟩:=h1
  exact ih i c0 v h1 h2
 | vecn tok sz ty =>
  simp only [AV.dm2]
  cases D tok
  ·exact .vecn _ _ _
  ·exact .p .nils
 | vece tok sz a =>
  simp only [AV.dm2]
  cases D tok
  ·exact .vece _ _ _
  ·exact .p (.nile a)
 | vec how hb hcs hsz hst hr hty =>
  simp only [AV.dm2]
  cases hD:D _
  ·obtain ⟨c',hb',hs'⟩:=shape _ _ _ _ hD how hb
   exact .vec (ow _ _ hD how) hb' (hs'.trans hcs) hsz (λ o=>⟨λ h=>(hst o).1 (tip _ _ o hD how h),λ h=>(ev _ _ ((hst o).2 h)).1⟩) (hr.mono ev) hty
  ·exact .p (hr.mono ev)
 | arr how hb hcs hn =>
  simp only [AV.dm2]
  cases hD:D _
  ·obtain ⟨c',hb',hs'⟩:=shape _ _ _ _ hD how hb
   exact .arr (ow _ _ hD how) hb' (hs'.trans hcs) hn
  ·exact .undef _
 | ptr how =>
  simp only [AV.dm2]
  cases hD:D _
  ·exact .ptr (ow _ _ hD how)
  ·exact .undef _
 | bptrn how hb hcs =>
  simp only [AV.dm2]
  cases hD:D _
  ·obtain ⟨c',hb',hs'⟩:=shape _ _ _ _ hD how hb
   exact .bptrn (ow _ _ hD how) hb' (hs'.trans hcs)
  ·exact .undef _
 | bptr how hb hcs =>
  simp only [AV.dm2]
  cases hD:D _
  ·obtain ⟨c',hb',hs'⟩:=shape _ _ _ _ hD how hb
   exact .bptr (ow _ _ hD how) hb' (hs'.trans hcs)
  ·exact .undef _
 | rptr cf hc hr =>
  simp only [AV.dm2]
  exact .rptr cf (λ j c h=>⟨(ev _ _ (hc j c h).1).1,(ev _ _ (hc j c h).1).2.trans (hc j c h).2⟩) (λ j c h=>(hr j c h).mono ev)
 | tuple hl h ih =>
  simp only [AV.dm2,lM]
  refine .tuple (by simpa using hl) λ i c v h1 h2=>?_
  simp only [List.getElem?_map,Option.map_eq_some_iff] at h1
  obtain ⟨c0,h1,rfl⟩:=h1
  exact ih i c0 v h1 h2
 | func hl h ih =>
  simp only [AV.dm2,lM]
  refine .func (by simpa using hl) λ i c v h1 h2=>?_
  simp only [List.getElem?_map,Option.map_eq_some_iff] at h1
  obtain ⟨c0,h1,rfl⟩:=h1
  exact ih i c0 v h1 h2
 | mp how hb hn hd hk hv =>
  simp only [AV.dm2]
  cases hD:D _
  ·exact .mp (ow _ _ hD how) (mp _ _ _ _ hD how hb) hn hd hk (λ i e kv h1 h2=>(hv i e kv h1 h2).mono ev)
  ·exact .undef _
 | mpr=>simp only [AV.dm2]; exact .undef _
 | stkn tok sz =>
  simp only [AV.dm2]
  cases D tok
  ·exact .stkn _ _
  ·exact .undef _
 | stke tok sz a =>
  simp only [AV.dm2]
  cases D tok
  ·exact .stke _ _ _
  ·exact .undef _
 | stk how hb hcs hlen hsz hone hst hr =>
  simp only [AV.dm2]
  cases hD:D _
  ·exact .stk (ow _ _ hD how) ((stab _ _ _ hD how ((hst _).2 rfl)).trans hb) hcs hlen hsz hone (λ o=>⟨λ h=>(hst o).1 (tip _ _ o hD how h),λ h=>(ev _ _ ((hst o).2 h)).1⟩) (λ i x j p h1 h2=>by obtain ⟨v,h3,h4⟩:=hr i x j p h1 h2; exact ⟨v,h3,h4.mono ev⟩)
  ·exact .undef _
 | sem=>simp only [AV.dm2]; exact .undef _
 | it=>simp only [AV.dm2]; exact .undef _
 | vecp=>simp only [AV.dm2]; exact .undef _
 | elp=>simp only [AV.dm2]; exact .undef _
def nr (e t:Nat)(i:Nat):Bool:=Nat.beq i e||Nat.beq i t||Nat.ble MZ i
def tkA (tok e:Nat)(y x:AV):AV:=match x with
 | .mpr t _ _ _ _=>bif Nat.beq t tok then y else .undef
 | x=>x.dm2 (nr e tok)
def tkS (tok e:Nat)(y:AV):List (Nat×AV)→Option (List (Nat×AV))
 | []=>some []
 | (i,x)::r=>(match frc (tkA tok e y x) with
  | some z=>(match tkS tok e y r with | some l=>some ((i,z)::l) | none=>none)
  | none=>none)
theorem xk {tok e:Nat}{y:AV}:∀ {l l':List (Nat×AV)},tkS tok e y l=some l'→l'=l.map λ p=>(p.1,tkA tok e y p.2)
 | [],l',h=>by cases h; rfl
 | (i,x)::r,l',h=>by
  unfold tkS at h
  split at h
  ·rename_i z hz
   split at h
   ·rename_i m hm; cases h; rw [sM hz,xk hm]; rfl
   ·cases h
  ·cases h
def tkC (e t:Nat):List AV→Option (List AV)
 | []=>some []
 | x::r=>(match frc (x.dm2 (nr e t)) with
  | some y=>(match tkC e t r with | some l=>some (y::l) | none=>none)
  | none=>none)
theorem Bt {e t:Nat}:∀ {l l':List AV},tkC e t l=some l'→l'=vQ (nr e t) l
 | [],l',h=>by cases h; rfl
 | x::r,l',h=>by
  unfold tkC at h
  split at h
  ·rename_i y hy
   split at h
   ·rename_i m hm; cases h; rw [sM hy,Bt hm]; rfl
   ·cases h
  ·cases h
def tkO (e t:Nat):List (Nat×List AV)→Option (List (Nat×List AV))
 | []=>some []
 | (i,cs)::r=>(match nr e t i with
  | true=>tkO e t r
  | false=>(match tkC e t cs with
   | some ds=>(match tkO e t r with | some l=>some ((i,ds)::l) | none=>none)
   | none=>none))
theorem pN {e t:Nat}:∀ {l l':List (Nat×List AV)},tkO e t l=some l'→∀ id cs,look l' id=some cs→nr e t id=false∧∃ ds,look l id=some ds∧cs=vQ (nr e t) ds
 | [],l',h,id,cs,hc=>by cases h; cases hc
 | (i,xs)::r,l',h,id,cs,hc=>by
  unfold tkO at h
  split at h
  ·rename_i hb
   obtain ⟨h1,ds,h2,h3⟩:=pN h id cs hc
   refine ⟨h1,ds,?_,h3⟩
   rw [aY,if_neg (λ e'=>by subst e'; rw [hb] at h1; cases h1)]
   exact h2
  ·rename_i hb
   split at h
   ·rename_i ds hds
    split at h
    ·rename_i m hm
     cases h
     rw [aY] at hc ⊢
     by_cases e1:i=id
     ·subst e1
      rw [if_pos rfl] at hc ⊢
      cases hc
      exact ⟨hb,xs,rfl,Bt hds⟩
     ·rw [if_neg e1] at hc ⊢
      exact pN hm id cs hc
    ·cases h
   ·cases h
theorem rp {α:Type}{es:Array MapEntry}{kvs:List (Bytes×α)}(hn:es.size=kvs.length)(hk:∀ (i:Nat) e kv,es[i]? = some e→kvs[i]? = some kv→e.key=.string ⟨kv.1.toArray⟩)(k:Bytes) :
  (∀ x∈es.toList,IsKey .string x.key) ∧
  ((Instr.findNow .string (.string ⟨k.toArray⟩) es.toList 0=some none∧(∀ x∈es.toList,x.key≠.string ⟨k.toArray⟩)∧∀ p∈kvs,p.1≠k) ∨
  ∃ j e v,Instr.findNow .string (.string ⟨k.toArray⟩) es.toList 0=some (some (j,e.val))∧es[j]? = some e∧e.key=.string ⟨k.toArray⟩∧kvs[j]? = some (k,v)):=by
 have hks:∀ x∈es.toList,IsKey .string x.key:=by
  intro x hx
  obtain ⟨i,hi⟩:=List.mem_iff_getElem?.1 hx
  rw [Array.getElem?_toList] at hi
  have hil:=(Array.getElem?_eq_some_iff.1 hi).1
  have:=hk i x kvs[i] hi (List.getElem?_eq_getElem (by omega))
  rw [this]; trivial
 refine ⟨hks,?_⟩
 rcases findNow_spec (k:=.string ⟨k.toArray⟩) (d:=.string) trivial es.toList 0 hks with ⟨h1,h2⟩ | ⟨j,e,h1,h2,h3⟩
 ·refine .inl ⟨h1,h2,λ p hp e=>?_⟩
  obtain ⟨i,hi⟩:=List.mem_iff_getElem?.1 hp
  have hil:=(List.getElem?_eq_some_iff.1 hi).1
  have hes:es[i]? = some es[i]:=Array.getElem?_eq_getElem (by omega)
  have:=hk i es[i] p hes hi
  exact h2 es[i] (Array.getElem_mem_toList (by omega)) (by rw [this,e])
 ·rw [Array.getElem?_toList] at h2
  have hil:=(Array.getElem?_eq_some_iff.1 h2).1
  have hkv:kvs[j]? = some kvs[j]:=List.getElem?_eq_getElem (by omega)
  have:=hk j e kvs[j] h2 hkv
  have he:kvs[j].1=k:=ym (this.symm.trans h3)
  refine .inr ⟨j,e,kvs[j].2,by rw [h1]; simp,h2,h3,?_⟩
  rw [hkv,← he]
theorem A2 {d t i:Nat}(h:d < MZ):t+MZ*(i+1)≠d:=by rw [Nat.mul_add,Nat.mul_one]; omega
theorem w5 {w:World}{g:Gh}{tok sz ty:Nat}{tk:Option Bytes}{i:Nat}{kv:Bytes×List PV}{v:Value}(h:ARep w g (ml tok sz ty tk i kv) v):PRep w g.st (.slice kv.2) v:=by
 unfold ml at h
 split at h
 ·cases h with
  | p h=>exact h
 ·have:=AV.sub_vec _ _ _ _ _ _ _ h
  cases this with
  | p h=>exact h
section
variable {C:Cx} {o:Oper} {K:AS→Prop} {sl:List (Nat×AV)} {ob:List (Nat×List AV)} {d:Nat}
theorem tY {t:TypeId}(sz ty:Nat){x:Operand}{n:Int}{i:TI}{kt et:Nat}{sl':List (Nat×AV)}{ob':List (Nat×List AV)}(ho:o.op=.makeMap t (some x))(hd:o.dst=some d)(hn:Nat.blt d C.n=true)
  (hi:look C.tt t=some i) (hik:i.k=.map kt et) (hx:evo sl x=some (.p (.val (.int .i64 n)))) (h1:dmS (Nat.beq · d) sl=some sl') (h2:dmO (Nat.beq · d) ob=some ob') (hK:K ⟨(d,.mpr d sz ty none [])::sl',ob'⟩):aP C o K ⟨sl,ob⟩:=by
 obtain ⟨u,hu1,hu2⟩:=aU C.good hi
 obtain rfl:=mr (hu2.trans hik)
 refine ru hd hn (λ g a w hs=>?_) (λ w g b h1 h2=>.mpr h1 h2 rfl (by simp) (by simp) (by simp)) h1 h2 hK
 have hv:=bA hs hx
 simp [execOp,ho,hv,Instr.makeMap,run_underlying hu1,asInt,asIntOf,newObj,Sem.run,Result.andThen]
theorem AJ {t kt et:TypeId}{x y:Operand}{i j:TI}{tok sz ty:Nat}{kvs:List (Bytes×List PV)}{k:Bytes}{r:List PV}{sl':List (Nat×AV)}{ob':List (Nat×List AV)}(ho:o.op=.lookup t x y false)(hd:o.dst=some d)(hn:Nat.blt d C.n=true)
  (hi:look C.tt t=some i) (hik:i.k=.map kt et) (hj:look C.tt kt=some j) (hjk:j.k=.string) (hz:(C.P.info? et).map (·.zero)=some (some (.slice none 0 0)))
  (hx:evo sl x=some (.mpr tok sz ty none kvs)) (hy:evo sl y=some (.p (.val (.string ⟨k.toArray⟩)))) (hr:(cJ kvs k).getD []=r) (htok:Nat.blt tok M1=true) (hdt:Nat.beq d tok=false)
  (h1:tkS tok d (.mpr tok sz ty (some k) kvs) sl=some sl') (h2:tkO d tok ob=some ob') (hK:K ⟨(d,.vec d sz ty r)::sl',ob'⟩):aP C o K ⟨sl,ob⟩:=by
 obtain ⟨u,hu1,hu2⟩:=aU C.good hi
 obtain rfl:=mr (hu2.trans hik)
 obtain ⟨u2,hu3,hu4⟩:=aU C.good hj
 obtain rfl:=dZ (hu4.trans hjk)
 have htl:tok < M1:=Nat.blt_eq ▸ htok
 have hdl:d < M1:=by have h1:=Nat.le_of_ble_eq_true C.nl; have h2:d < C.n:=Nat.blt_eq ▸ hn; omega
 have hM:M1≤MZ:=by decide
 have hne:d≠tok:=λ e=>by subst e; simp at hdt
 intro g a w hs
 have hm:=bf hs hx
 have hkv:=bA hs hy
 generalize hvx:a.eval x=vx at hm
 cases hm with
 | mpr how hb hN hD hkeys hvals =>
  rename_i b ck es
  obtain ⟨hks,hc⟩:=rp hN hkeys k
  have hz2:(zeroValue et).run C.P w=.ok (.slice none 0 0) w:=by
   obtain ⟨inf,hinf,hzz⟩:=Option.map_eq_some_iff.1 hz
   simp [zeroValue,typeInfo,hinf,hzz]
  -- the place of the row,and its value
  obtain ⟨jj,v,hrun,hjj,hrow⟩:∃ (jj:Nat) (v:Value),(execOp a.eval o).run C.P w=.ok (.value v) w∧(∀ i kv,kvs[i]? = some kv→kv.1≠k→i≠jj)∧(ARep w g (.vec (tok+MZ*(jj+1)) sz ty r) v):=by
   rcases hc with ⟨f1,f2,f3⟩ | ⟨jj,e,v',f1,f2,f3,f4⟩
   ·refine ⟨kvs.length,.slice none 0 0,?_,λ i kv hi _ e=>?_,?_⟩
    ·simp [execOp,ho,hvx,hkv,Instr.lookup,run_underlying hu1,Go.MapKept.run_getObj_map hb,run_checkKey (d:=.string) hu3 (k:=.string ⟨k.toArray⟩) trivial,run_findKey hu3 f1,hz2,Result.andThen]
    ·have:=(List.getElem?_eq_some_iff.1 hi).1; omega
    ·rw [← hr,pu f3]; exact .vecn _ _ _
   ·refine ⟨jj,e.val,?_,λ i kv hi hne e=>?_,?_⟩
    ·simp [execOp,ho,hvx,hkv,Instr.lookup,run_underlying hu1,Go.MapKept.run_getObj_map hb,run_checkKey (d:=.string) hu3 (k:=.string ⟨k.toArray⟩) trivial,run_findKey hu3 f1,Result.andThen]
    ·subst e; rw [f4] at hi; cases hi; exact hne rfl
    ·rw [← hr,tl hD f4]
     have:=hvals jj e _ f2 f4
     unfold ml at this
     rw [if_neg (by simp)] at this
     exact this
  unfold Oper.wp
  rw [hrun]
  obtain ⟨rid,hrid⟩:∃ rid,rid=tok+MZ*(jj+1):=⟨_,rfl⟩
  have hridZ:MZ≤rid:=by rw [hrid,Nat.mul_add,Nat.mul_one]; omega
  obtain ⟨g',hg'⟩:∃ g':Gh,g'=⟨g.st,λ i=>if i=d then g.ow rid else if i=rid then none else g.ow i⟩:=⟨_,rfl⟩
  have gst:g'.st=g.st:=by rw [hg']
  have god:g'.ow d=g.ow rid:=by rw [hg']; simp
  have goo:∀ i,i≠d→i≠rid→g'.ow i=g.ow i:=λ i h1 h2=>by rw [hg']; simp only [if_neg h1,if_neg h2]
  have gor:rid≠d→g'.ow rid=none:=λ h=>by rw [hg']; simp only [if_neg h,if_true]
  have hrd:rid≠d:=by omega
  have hbig:∀ id,nr d tok id=false→id≠d∧id≠tok∧id < MZ:=λ id h=>by
   unfold nr at h
   simp only [Bool.or_eq_false_iff] at h
   refine ⟨λ e=>by subst e; simp at h,λ e=>by subst e; simp at h,Nat.lt_of_not_le λ hle=>?_⟩
   rw [Nat.ble_eq_true_of_le hle] at h; exact absurd h.2 (by decide)
  have hdm:∀ {z:AV} {u:Value},ARep w g z u→ARep w g' (z.dm2 (nr d tok)) u:=λ h=>ARep.dm2 (by rw [gst]; exact Ev.refl _ _)
   (λ id b hq h=>by obtain ⟨q1,_,q2⟩:=hbig id hq; rw [goo id q1 (by omega)]; exact h) (λ id b c e _ _ h=>⟨c,h,rfl⟩) (λ id b o _ _ h=>by rwa [gst] at h) (λ id b es k _ _ h=>h) (λ _ _ _ _ _ _=>rfl) h
  have vecmove:∀ {q q':Nat} {es:List PV} {u:Value},g'.ow q'=g.ow q→ARep w g (.vec q sz ty es) u→ARep w g' (.vec q' sz ty es) u:=by
   intro q q' es u hq h
   cases h with
   | vecn=>exact .vecn _ _ _
   | vece=>exact .vece _ _ _
   | vec h1 h2 h3 h4 h5 h6 h7=>exact .vec (hq.trans h1) h2 h3 h4 (by rw [gst]; exact h5) (by rw [gst]; exact h6) h7
  have htk:∀ {z:AV} {u:Value},ARep w g z u→ARep w g' (tkA tok d (.mpr tok sz ty (some k) kvs) z) u∨∃ t s y q l,z=.mpr t s y q l:=by
   intro z u h
   unfold tkA
   split
   ·exact .inr ⟨_,_,_,_,_,rfl⟩
   ·exact .inl (hdm h)
  have hs0:St C.n C.w0 C.F g' ⟨sl',ob'⟩ a w:=by
   refine ⟨hs.nd,hs.sz,λ q=>?_,λ id cs hcs=>?_,λ i j b h1 h2=>?_,λ i b h=>?_,by rw [gst]; exact hs.lt,hs.fl,hs.fr,hs.os,hs.out,hs.tape,hs.size,by rw [gst]; exact hs.stf,λ i h1 h2=>?_,hs.shf,by rw [gst]; exact hs.nst,by rw [gst]; exact hs.ev0⟩
   ·rw [xk h1]
    have hq:=hs.sl q
    simp only [AS.get,gg] at hq ⊢
    cases hl:look sl q with
    | none=>simp only [Option.map_none,Option.getD_none]; exact .undef _
    | some z =>
     rw [hl] at hq
     simp only [Option.map_some,Option.getD_some] at hq ⊢
     rcases htk hq with h | ⟨t,s,y,q',l,rfl⟩
     ·exact h
     ·simp only [tkA]
      cases hbt:Nat.beq t tok
      ·simp only [cond_false]; exact .undef _
      ·simp only [cond_true]
       have:=Nat.eq_of_beq_eq_true hbt
       subst this
       generalize a.tmps.getD q Go.undef=vq at hq
       cases hq with
       | mpr how2 hb2 hN2 hD2 hk2 hv2 =>
        rw [how] at how2; cases how2
        refine .mpr (b:=b) (k:=ck) (es:=es) (by rw [goo t (λ e=>hne e.symm) (by omega)]; exact how) hb hN hD hkeys λ i e kv h3 h4=>?_
        have hrep:=hvals i e kv h3 h4
        unfold ml
        by_cases hkk:some k=some kv.1
        ·rw [if_pos hkk]
         have:=w5 hrep
         exact .p (by rw [gst]; exact this)
        ·rw [if_neg hkk]
         unfold ml at hrep
         rw [if_neg (by simp)] at hrep
         have hij:i≠jj:=hjj i kv h4 (λ e=>hkk (by rw [e]))
         refine vecmove (goo _ (A2 (by omega)) ?_) hrep
         rw [hrid]
         intro e2
         have:MZ*(i+1)=MZ*(jj+1):=by omega
         have:=Nat.eq_of_mul_eq_mul_left (by decide:0 < MZ) this
         omega
   ·obtain ⟨hq,ds,hds,rfl⟩:=pN h2 id cs hcs
    obtain ⟨q1,_,q2⟩:=hbig id hq
    obtain ⟨b2,c2,e2,m1,m2,m3,m4,m5⟩:=hs.ob id ds hds
    refine ⟨b2,c2,e2,by rw [goo id q1 (by omega)]; exact m1,m2,by rw [lM,List.length_map]; exact m3,by rw [gst]; exact m4,λ i x hx=>?_⟩
    rw [lM,List.getElem?_map] at hx
    obtain ⟨z,hz,rfl⟩:=Option.map_eq_some_iff.1 hx
    obtain ⟨u,hu,hr⟩:=m5 i z hz
    exact ⟨u,hu,hdm hr⟩
   ·have key:∀ i,g'.ow i=some b→∃ i',g.ow i'=some b∧((i=d∧i'=rid)∨(i≠d∧i≠rid∧i'=i)):=by
     intro i hi
     by_cases e1:i=d
     ·subst e1; rw [god] at hi; exact ⟨rid,hi,.inl ⟨rfl,rfl⟩⟩
     ·by_cases e2:i=rid
      ·subst e2; rw [gor hrd] at hi; cases hi
      ·rw [goo i e1 e2] at hi; exact ⟨i,hi,.inr ⟨e1,e2,rfl⟩⟩
    obtain ⟨i',hi',q1⟩:=key i h1
    obtain ⟨j',hj',q2⟩:=key j h2
    have:=hs.inj i' j' b hi' hj'
    rcases q1 with ⟨q1,q3⟩ | ⟨q1,q3,q5⟩ <;> rcases q2 with ⟨q2,q4⟩ | ⟨q2,q4,q6⟩ <;> omega
   ·by_cases e1:i=d
    ·subst e1; rw [god] at h; exact hs.own rid b h
    ·by_cases e2:i=rid
     ·subst e2; rw [gor hrd] at h; cases h
     ·rw [goo i e1 e2] at h; exact hs.own i b h
   ·rw [goo i (by omega) (by omega)]; exact hs.owf i h1 h2
  refine ⟨g',⟨(d,.vec d sz ty r)::sl',ob'⟩,?_,hK⟩
  have hp:=hs0.put (d:=o.dst) (λ t ht=>by rw [hd] at ht; cases ht; exact Nat.blt_eq ▸ hn) (x:=.vec d sz ty r) (v:=v) (vecmove (by rw [god,hrid]) hrow)
  rw [hd] at hp ⊢
  exact hp
theorem CK {t kt et:TypeId}{x y v:Operand}{i j:TI}{tok sz ty e:Nat}{kvs kvs':List (Bytes×List PV)}{k:Bytes}{r:List PV}{sl':List (Nat×AV)}{ob':List (Nat×List AV)}(ho:o.op=.mapUpdate t x y v)(hd:o.dst=none)
  (hi:look C.tt t=some i) (hik:i.k=.map kt et) (hj:look C.tt kt=some j) (hjk:j.k=.string)
  (hx:evo sl x=some (.mpr tok sz ty (some k) kvs)) (hy:evo sl y=some (.p (.val (.string ⟨k.toArray⟩)))) (hv:evo sl v=some (.vec e sz ty r)) (htok:Nat.blt tok M1=true) (hel:Nat.blt e M1=true) (het:Nat.beq e tok=false)
  (hk:kK kvs k r=kvs') (h1:tkS tok e (.mpr tok sz ty none kvs') sl=some sl') (h2:tkO e tok ob=some ob') (hK:K ⟨sl',ob'⟩):aP C o K ⟨sl,ob⟩:=by
 obtain ⟨u,hu1,hu2⟩:=aU C.good hi
 obtain rfl:=mr (hu2.trans hik)
 obtain ⟨u2,hu3,hu4⟩:=aU C.good hj
 obtain rfl:=dZ (hu4.trans hjk)
 have htl:tok < M1:=Nat.blt_eq ▸ htok
 have hdl:e < M1:=Nat.blt_eq ▸ hel
 have hM:M1≤MZ:=by decide
 have hne:e≠tok:=λ h=>by subst h; simp at het
 intro g a w hs
 have hm:=bf hs hx
 have hkv:=bA hs hy
 have hrep:=bf hs hv
 generalize hvx:a.eval x=vx at hm
 generalize hvv:a.eval v=vv at hrep
 cases hm with
 | mpr how hb hN hD hkeys hvals =>
  rename_i b ck es
  obtain ⟨hks,hc⟩:=rp hN hkeys k
  have hbl:b < w.heap.size:=(hs.own tok b how).1
  obtain ⟨jj,es',ck',hrun,hN',hkeys',hrows⟩:∃ (jj:Nat) (es':Array MapEntry) (ck':Nat),(execOp a.eval o).run C.P w=.ok .skip { w with heap:=w.heap.setIfInBounds b (.map es' ck') }∧es'.size=kvs'.length ∧
    (∀ (i:Nat) e kv,es'[i]? = some e→kvs'[i]? = some kv→e.key=.string ⟨kv.1.toArray⟩) ∧
    (∀ (i:Nat) e kv,es'[i]? = some e→kvs'[i]? = some kv→(i=jj∧kv.2=r∧e.val=vv)∨(i≠jj∧kv.1≠k∧es[i]? = some e∧kvs[i]? = some kv)):=by
   rcases hc with ⟨f1,f2,f3⟩ | ⟨jj,e0,v',f1,f2,f3,f4⟩
   ·refine ⟨kvs.length,es.push { key:=.string ⟨k.toArray⟩,val:=vv,born:=ck },ck+1,?_,?_,?_,?_⟩
    ·simp [execOp,ho,hvx,hkv,hvv,Instr.mapUpdate,run_underlying hu1,Go.MapKept.run_getObj_map hb,run_checkKey (d:=.string) hu3 (k:=.string ⟨k.toArray⟩) trivial,run_findKey hu3 f1,run_setObj_map _ hb,Result.andThen]
    ·rw [← hk,kk f3]; simp [hN]
    ·intro i e kv h3 h4
     rw [← hk,kk f3] at h4
     rw [Array.getElem?_push] at h3
     split at h3
     ·rename_i hi2
      cases h3
      rw [hi2,List.getElem?_append_right (by omega),hN] at h4
      simp at h4
      rw [← h4]
     ·have hil:i < es.size:=(Array.getElem?_eq_some_iff.1 h3).1
      rw [List.getElem?_append_left (by omega)] at h4
      exact hkeys i e kv h3 h4
    ·intro i e kv h3 h4
     rw [← hk,kk f3] at h4
     rw [Array.getElem?_push] at h3
     split at h3
     ·rename_i hi2
      cases h3
      rw [hi2,List.getElem?_append_right (by omega),hN] at h4
      simp at h4
      exact .inl ⟨by omega,by rw [← h4],rfl⟩
     ·have hil:i < es.size:=(Array.getElem?_eq_some_iff.1 h3).1
      rw [List.getElem?_append_left (by omega)] at h4
      exact .inr ⟨by omega,f3 kv (List.mem_of_getElem? h4),h3,h4⟩
   ·have hjl:jj < es.size:=(Array.getElem?_eq_some_iff.1 f2).1
    refine ⟨jj,es.modify jj λ e=>{ e with key:=.string ⟨k.toArray⟩,val:=vv },ck,?_,?_,?_,?_⟩
    ·have hkey:=run_keyThatStays (P:=C.P) (w:=w) (d:=.string) (k:=.string ⟨k.toArray⟩) trivial
     simp [execOp,ho,hvx,hkv,hvv,Instr.mapUpdate,run_underlying hu1,Go.MapKept.run_getObj_map hb,run_checkKey (d:=.string) hu3 (k:=.string ⟨k.toArray⟩) trivial,run_findKey hu3 f1,f2,f3,hkey,run_setObj_map _ hb,Result.andThen]
    ·rw [← hk,lF hD f4]; simp [hN]
    ·intro i e2 kv h3 h4
     rw [← hk,lF hD f4] at h4
     rw [Array.getElem?_modify] at h3
     rw [List.getElem?_set] at h4
     split at h3
     ·rename_i hji
      subst hji
      rw [f2] at h3
      cases h3
      rw [if_pos rfl,if_pos (by omega)] at h4
      cases h4
      rfl
     ·rename_i hji
      rw [if_neg hji] at h4
      exact hkeys i e2 kv h3 h4
    ·intro i e2 kv h3 h4
     rw [← hk,lF hD f4] at h4
     rw [Array.getElem?_modify] at h3
     rw [List.getElem?_set] at h4
     split at h3
     ·rename_i hji
      subst hji
      rw [f2] at h3
      cases h3
      rw [if_pos rfl,if_pos (by omega)] at h4
      cases h4
      exact .inl ⟨rfl,rfl,rfl⟩
     ·rename_i hji
      rw [if_neg hji] at h4
      refine .inr ⟨λ h=>hji h.symm,λ h=>?_,h3,h4⟩
      -- one key,one place
      have e1:(kvs.map Prod.fst)[i]? = some k:=by rw [List.getElem?_map,h4]; exact congrArg some h
      have e2:(kvs.map Prod.fst)[jj]? = some k:=by rw [List.getElem?_map,f4]; rfl
      have hil:i < (kvs.map Prod.fst).length:=(List.getElem?_eq_some_iff.1 e1).1
      exact hji ((List.getElem?_inj hil hD).1 (e1.trans e2.symm)).symm
  unfold Oper.wp
  rw [hrun]
  simp only [Oper.upon,hd,Act.put]
  obtain ⟨w',hw'⟩:∃ w':World,w'={ w with heap:=w.heap.setIfInBounds b (.map es' ck') }:=⟨_,rfl⟩
  rw [← hw']
  have hat:w'.heap[b]? = some (.map es' ck'):=by rw [hw']; exact (heap_set hb).1
  have hother:∀ b2,b2≠b→w'.heap[b2]? = w.heap[b2]?:=λ b2 h=>by rw [hw']; exact (heap_set hb).2 b2 h
  have hsz:w'.heap.size=w.heap.size:=by rw [hw']; simp
  obtain ⟨rid,hrid⟩:∃ rid,rid=tok+MZ*(jj+1):=⟨_,rfl⟩
  have hridZ:MZ≤rid:=by rw [hrid,Nat.mul_add,Nat.mul_one]; omega
  obtain ⟨g',hg'⟩:∃ g':Gh,g'=⟨g.st,λ i=>if i=rid then g.ow e else if i=e then none else g.ow i⟩:=⟨_,rfl⟩
  have gst:g'.st=g.st:=by rw [hg']
  have gor:g'.ow rid=g.ow e:=by rw [hg']; simp
  have goo:∀ i,i≠e→i≠rid→g'.ow i=g.ow i:=λ i h1 h2=>by rw [hg']; simp only [if_neg h1,if_neg h2]
  have hre:rid≠e:=by omega
  have goe:g'.ow e=none:=by rw [hg']; simp only [if_neg (λ h:e=rid=>hre h.symm),if_true]
  have hev:Ev w g.st w' g'.st:=by
   rw [gst]
   intro b2 o2 h
   refine ⟨h,?_⟩
   by_cases e1:b2=b
   ·subst e1; simp [World.cell?,hat,hb]
   ·simp only [World.cell?,hother b2 e1]
  have hcell:∀ {b2:Nat} {c:Array Value} {t:TypeId} {f:Nat×Nat},w.heap[b2]? = some (.cells c t f)→w'.heap[b2]? = some (.cells c t f):=λ {b2 c t f} h=>by
   rw [hother b2 (λ e1=>by subst e1; rw [hb] at h; cases h)]; exact h
  have hbig:∀ id,nr e tok id=false→id≠e∧id≠tok∧id < MZ:=λ id h=>by
   unfold nr at h
   simp only [Bool.or_eq_false_iff] at h
   refine ⟨λ e1=>by subst e1; simp at h,λ e1=>by subst e1; simp at h,Nat.lt_of_not_le λ hle=>?_⟩
   rw [Nat.ble_eq_true_of_le hle] at h; exact absurd h.2 (by decide)
  have hdm:∀ {z:AV} {u:Value},ARep w g z u→ARep w' g' (z.dm2 (nr e tok)) u:=λ h=>ARep.dm2 hev
   (λ id b hq h=>by obtain ⟨q1,_,q2⟩:=hbig id hq; rw [goo id q1 (by omega)]; exact h) (λ id b c e _ _ h=>⟨c,hcell h,rfl⟩) (λ id b o _ _ h=>by rwa [gst] at h)
   (λ id b2 es2 k2 hq h0 h=>by
    obtain ⟨_,q3,_⟩:=hbig id hq
    rw [hother b2 (λ e1=>by subst e1; exact q3 (hs.inj id tok b2 h0 how))]; exact h)
   (λ id b2 o hq h0 _=>by obtain ⟨_,q3,_⟩:=hbig id hq; exact hother b2 (λ e1=>by subst e1; exact q3 (hs.inj id tok b2 h0 how))) h
  have vecmove:∀ {q q':Nat} {es:List PV} {u:Value},g'.ow q'=g.ow q→ARep w g (.vec q sz ty es) u→ARep w' g' (.vec q' sz ty es) u:=by
   intro q q' es u hq h
   cases h with
   | vecn=>exact .vecn _ _ _
   | vece=>exact .vece _ _ _
   | vec h1 h2 h3 h4 h5 h6 h7=>exact .vec (hq.trans h1) (hcell h2) h3 h4 (by rw [gst]; exact h5) (h6.mono hev) h7
  have hnew:ARep w' g' (.mpr tok sz ty none kvs') (.map (some b)):=by
   refine .mpr (b:=b) (k:=ck') (es:=es') (by rw [goo tok (λ h=>hne h.symm) (by omega)]; exact how) hat hN' (by rw [← hk]; exact tf hD) hkeys' λ i e2 kv h3 h4=>?_
   unfold ml
   rw [if_neg (by simp)]
   rcases hrows i e2 kv h3 h4 with ⟨rfl,h5,h6⟩ | ⟨h5,h6,h7,h8⟩
   ·rw [h5,h6,← hrid]
    exact vecmove gor hrep
   ·have hr:=hvals i e2 kv h7 h8
    unfold ml at hr
    rw [if_neg (λ q=>h6 (Option.some.inj q).symm)] at hr
    refine vecmove (goo _ (A2 (by omega)) ?_) hr
    rw [hrid]
    intro e2
    have:MZ*(i+1)=MZ*(jj+1):=by omega
    have:=Nat.eq_of_mul_eq_mul_left (by decide:0 < MZ) this
    omega
  refine ⟨g',⟨sl',ob'⟩,?_,hK⟩
  refine ⟨hs.nd,hs.sz,λ q=>?_,λ id cs hcs=>?_,λ i j b h1 h2=>?_,λ i b2 h=>?_,λ b2 o2 h=>by rw [gst] at h; rw [hsz]; exact hs.lt b2 o2 h,hs.fl,λ b2 h=>?_,by rw [hw']; exact hs.os,by rw [hw']; exact hs.out,by rw [hw']; exact hs.tape,by rw [hsz]; exact hs.size,by rw [gst]; exact hs.stf,λ i h1 h2=>?_,hs.shf.next (λ i b2 c t _ _ h=>⟨c,hcell h,rfl⟩),by rw [gst]; exact hs.nst,hs.ev0.trans hev⟩
  ·rw [xk h1]
   have hq:=hs.sl q
   simp only [AS.get,gg] at hq ⊢
   cases hl:look sl q with
   | none=>simp only [Option.map_none,Option.getD_none]; exact .undef _
   | some z =>
    rw [hl] at hq
    simp only [Option.map_some,Option.getD_some] at hq ⊢
    unfold tkA
    split
    ·rename_i t s y q' l
     cases hbt:Nat.beq t tok
     ·simp only [cond_false]; exact .undef _
     ·simp only [cond_true]
      have:=Nat.eq_of_beq_eq_true hbt
      subst this
      generalize a.tmps.getD q Go.undef=vq at hq
      cases hq with
      | mpr how2 hb2 hN2 hD2 hk2 hv2=>rw [how] at how2; cases how2; exact hnew
    ·exact hdm hq
  ·obtain ⟨hq,ds,hds,rfl⟩:=pN h2 id cs hcs
   obtain ⟨q1,_,q2⟩:=hbig id hq
   obtain ⟨b2,c2,e2,m1,m2,m3,m4,m5⟩:=hs.ob id ds hds
   refine ⟨b2,c2,e2,by rw [goo id q1 (by omega)]; exact m1,hcell m2,by rw [lM,List.length_map]; exact m3,by rw [gst]; exact m4,λ i x hx=>?_⟩
   rw [lM,List.getElem?_map] at hx
   obtain ⟨z,hz,rfl⟩:=Option.map_eq_some_iff.1 hx
   obtain ⟨u,hu,hr⟩:=m5 i z hz
   exact ⟨u,hu,hdm hr⟩
  ·have key:∀ i,g'.ow i=some b→∃ i',g.ow i'=some b∧((i=rid∧i'=e)∨(i≠e∧i≠rid∧i'=i)):=by
    intro i hi
    by_cases e1:i=rid
    ·subst e1; rw [gor] at hi; exact ⟨e,hi,.inl ⟨rfl,rfl⟩⟩
    ·by_cases e2:i=e
     ·subst e2; rw [goe] at hi; cases hi
     ·rw [goo i e2 e1] at hi; exact ⟨i,hi,.inr ⟨e2,e1,rfl⟩⟩
   obtain ⟨i',hi',q1⟩:=key i h1
   obtain ⟨j',hj',q2⟩:=key j h2
   have:=hs.inj i' j' b hi' hj'
   rcases q1 with ⟨q1,q3⟩ | ⟨q1,q3,q5⟩ <;> rcases q2 with ⟨q2,q4⟩ | ⟨q2,q4,q6⟩ <;> omega
  ·rw [hsz]
   by_cases e1:i=rid
   ·subst e1; rw [gor] at h; exact hs.own e b2 h
   ·by_cases e2:i=e
    ·subst e2; rw [goe] at h; cases h
    ·rw [goo i e2 e1] at h; exact hs.own i b2 h
  ·have hne2:b2≠b:=λ e1=>(hs.own tok b how).2 (e1 ▸ h)
   rw [hother b2 hne2]; exact hs.fr b2 h
  ·rw [goo i (by omega) (by omega)]; exact hs.owf i h1 h2
end
end Go.Ab
end
