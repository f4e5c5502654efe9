/- Texts of the proof, one behind the other. No statement is proved here. -/
import Derived.Laws.IdiomStrings
import Derived.WalkKit
import Derived.Lib.Builder
import Derived.Lib.UnsafeStr
import Derived.Laws.Externs
import Derived.Shelf.RegionOpenPlain
import Derived.Below
import Derived.Lib.LaidTab
import Derived.Shelf.Lays
import Derived.Shelf.Small.Utf8
import Derived.Shelf.Small.Strs
import Derived.Shelf.Strings.Prefix
import Derived.Shelf.LaysM
import Derived.Shelf.Strconv.Itoa3
import Derived.Shelf.LaysC
import Derived.Shelf.Strconv.ParseIntPublic10
import Derived.Shelf.Unicode.DecodeAny
import Derived.Shelf.Unicode.ValidAny
import Derived.Shelf.Strings.Search3
import Derived.Test.YtaiecfcflcphmaaGreatDoorProg
import Derived.Lib.AppendIntMem
import Derived.Deep.LoopGhost
import Derived.Laws.Runes
import Derived.Scope
import Derived.Deep.QuietTactic
import Derived.BigQuiet
import Derived.Laws.RangeString
import Derived.Lib.IndexAny
import Derived.Lib.TrimU
import Derived.MapKept
import Derived.Lib.AppendZeros
import Derived.Lib.OthersKept
import Derived.Defers
import Derived.Test.YtaiecfcflcphmaaGreatDoorZ15Aa
import Derived.Test.YtaiecfcflcphmaaGreatDoorZ15Ab
set_option maxHeartbeats 4000000
section
namespace Go.Ab
class UW (p:Prop) (q:outParam Prop):Prop where
 go:q->p
class UO (p:Prop) (b:outParam Bool) (q:outParam Prop):Prop where
 go:b=false->q->p
section
variable {K P:AS->Prop} {Q:Exit->AS->Prop} {s:AS} {id id':Nat}
instance:UW (qF K Q .ret s) (Q .ret s):=⟨bH⟩
instance:UW (qF K Q (.exit id) s) (Q (.exit id) s):=⟨bq⟩
instance:UW (kQ id Q .ret s) (Q .ret s):=⟨bp⟩
instance:UW (kQ id Q .normal s) (Q .normal s):=⟨aT⟩
instance:UW (kQ id Q (.exit id) s) (Q .normal s):=⟨a8⟩
instance:UO (kQ id Q (.exit id') s) (Nat.beq id' id) (Q (.exit id') s):=⟨aW⟩
instance:UW (noGoto Q .ret s) (Q .ret s):=⟨noGoto_ret⟩
instance:UW (noGoto Q (.exit id) s) (Q (.exit id) s):=⟨noGoto_exit⟩
instance:UW (noGoto Q .normal s) (Q .normal s):=⟨noGoto_normal⟩
instance:UW (exQ id P Q (.exit id) s) (P s):=⟨cr⟩
instance:UO (exQ id P Q (.exit id') s) (Nat.beq id' id) (Q (.exit id') s):=⟨bE⟩
instance:UW (exQ id P Q .ret s) (Q .ret s):=⟨cn⟩
instance:UW (exQ id P Q .normal s) (Q .normal s):=⟨bj⟩
end
theorem oi {α:Type}{a b:α}(h:some a=some b):a=b:=Option.some.inj h
theorem dt {p:Prop} [Decidable p] (h:p):decide p=true:=decide_eq_true h
theorem df {p:Prop} [Decidable p] (h:¬p):decide p=false:=decide_eq_false h
theorem sr {x:AV}:x.sub x:=AV.sub_refl x
theorem er {s:List (Nat×AV)}{j:Nat}{x:AV}(h:look s j=some x):∃ y,look s j=some y/\y.sub x:=⟨x,h,sr⟩
end Go.Ab
namespace Go.Ab
def Le {α:Type}(o o':Option α):Prop:=∀ r,o=some r->o'=some r
section
variable {α β:Type}
theorem bG (o:Option α):Le o o:=λ _ h=>h
end
end Go.Ab
namespace Go.Ab
open Go.RowKit
end Go.Ab
namespace Go.Ab
/- The steps that occur most,their closed facts by themselves. -/
end Go.Ab
namespace Go.Ab
section
variable {C:Cx} {ops:Array Oper} {K:AS->Prop} {sl base:List (Nat×AV)} {ob:List (Nat×List AV)} {r:List Oper} {o:Oper} {d k:Nat} {rev:Rev}
def mvX:Op->Option Operand|.move x=>some x|.assign x=>some x|_=>none
def mvF (n:Nat)(o:Oper)(sl:List (Nat×AV)):Option (Nat×AV) :=
 match mvX o.op with
 | some x=>(match o.dst with
  | some d=>bif Nat.blt d n then (match evo sl x with|some y=>some (d,y)|none=>none) else none
  | none=>none)
 | none=>none
def gdF (ops:Array Oper)(o:Oper)(sl:List (Nat×AV)):Option (Bool×AV) :=
 match o.guard with
 | some (j,w)=>(match (ops.toList[j]?).bind (·.dst) with
  | some t=>(match look sl t with|some x=>some (w,x)|none=>none)
  | none=>none)
 | none=>none
theorem ru {w:Bool}{x:AV}(h:gdF ops o sl=some (w,x)):∃ j t,o.guard=some (j,w)/\(ops.toList[j]?).bind (·.dst)=some t/\look sl t=some x:=by
 unfold gdF at h
 cases hg:o.guard with
 | none=>rw [hg] at h; cases h
 | some p=>
  obtain ⟨j,w'⟩:=p;rw [hg] at h;simp only at h
  cases ht:(ops.toList[j]?).bind (·.dst) with
  | none=>rw [ht] at h; cases h
  | some t=>
   rw [ht] at h;simp only at h
   cases hl:look sl t with
   | none=>rw [hl] at h; cases h
   | some z=>rw [hl] at h; cases h; exact ⟨j,t,rfl,ht,hl⟩
theorem gy {w b:Bool}(hb:b=w)(h:gdF ops o sl=some (w,.p (.val (.bool b))))(h1:ba C o (gg C ops r K) ⟨sl,ob⟩):gg C ops (o::r) K ⟨sl,ob⟩:=by
 obtain ⟨j,t,hg,hj,hv⟩:=ru h;exact ua hg hj hv hb h1
def dsF (n:Nat)(o:Oper):Option Nat:=match o.dst with
 | some d=>bif Nat.blt d n then some d else none
 | none=>none
theorem kH {n:Nat}(h:dsF n o=some d):o.dst=some d/\Nat.blt d n=true:=by
 unfold dsF at h
 cases hd:o.dst with
 | none=>rw [hd] at h; cases h
 | some e=>
  rw [hd] at h
  cases hn:Nat.blt e n with
  | false=>simp only [hn,cond_false] at h; cases h
  | true=>simp only [hn,cond_true] at h; cases h; exact ⟨rfl,hn⟩
def knK:Rev->Nat->Option Nat|[],_=>none|(k,i,_)::r,j=>bif Nat.beq i j then some k else knK r j
def knX (base:List (Nat×AV))(o:Oper)(rev:Rev)(i:Nat):Option AV :=
 match look base i with
 | some x=>some x
 | none=>(match knK rev i with
  | some k=>bif (o.after.toList.any λ e=>Nat.beq e.on k&&Region.binds .any e) then (match se rev k with
    | some (j,x)=>bif Nat.beq j i then some x else none
    | none=>none) else none
  | none=>none)
def Bz (base:List (Nat×AV))(o:Oper)(rev:Rev):List Nat->Option (List (Nat×AV))
 | []=>some []
 | i::r=>match knX base o rev i with
  | some x=>(match Bz base o rev r with|some l=>some ((i,x)::l)|none=>none)
  | none=>none
theorem BK {i:Nat}{x:AV}(h:knX base o rev i=some x):look base i=some x\/∃ k,(o.after.toList.any λ e=>Nat.beq e.on k&&Region.binds .any e)=true/\se rev k=some (i,x):=by
 unfold knX at h
 cases hb:look base i with
 | some y=>rw [hb] at h; exact .inl h
 | none=>
  rw [hb] at h;simp only at h
  cases hk:knK rev i with
  | none=>rw [hk] at h; cases h
  | some k=>
   rw [hk] at h;simp only at h
   cases ha:(o.after.toList.any λ e=>Nat.beq e.on k&&Region.binds .any e) with
   | false=>rw [ha] at h; cases h
   | true=>
    rw [ha] at h;simp only [cond_true] at h
    cases hl:se rev k with
    | none=>rw [hl] at h; cases h
    | some p=>
     obtain ⟨j,y⟩:=p;rw [hl] at h;simp only at h
     cases hj:Nat.beq j i with
     | false=>rw [hj] at h; cases h
     | true=>rw [hj] at h; cases h; exact .inr ⟨k,ha,by rw [hl,cl hj]⟩
theorem y3:∀ {l:List Nat} {kn:List (Nat×AV)},Bz base o rev l=some kn->zP base o rev kn
 | [],kn,h=>by cases h; trivial
 | i::l,kn,h=>by
  unfold Bz at h
  cases hx:knX base o rev i with
  | none=>rw [hx] at h; cases h
  | some x=>
   rw [hx] at h;simp only at h
   cases hr:Bz base o rev l with
   | none=>rw [hr] at h; cases h
   | some m=>rw [hr] at h; cases h; exact ⟨BK hx,y3 hr⟩
def nwF (base:List (Nat×AV))(rev:Rev)(o:Oper):Option Nat:=match o.dst with
 | some d=>bif (rev.all λ p=>!(Nat.beq p.2.1 d)) then (match look base d with|none=>some d|some _=>none) else none
 | none=>none
theorem qq (h:nwF base rev o=some d):o.dst=some d/\(rev.all λ p=>!(Nat.beq p.2.1 d))=true/\look base d=none:=by
 unfold nwF at h
 cases hd:o.dst with
 | none=>rw [hd] at h; cases h
 | some e=>
  rw [hd] at h;simp only at h
  cases ha:(rev.all λ p=>!(Nat.beq p.2.1 e)) with
  | false=>rw [ha] at h; cases h
  | true=>
   rw [ha] at h;simp only [cond_true] at h
   cases hl:look base e with
   | some _=>rw [hl] at h; cases h
   | none=>rw [hl] at h; cases h; exact ⟨rfl,ha,hl⟩
theorem dq {rest:List Oper}{kn:List (Nat×AV)}(x:AV)(l:List Nat)(hk:Bz base o rev l=some kn)(hs:sf C ops ob o kn d x)(hn:nwF base rev o=some d)(h:DQ C ops base ob K rest (k+1) ((k,d,x)::rev)):DQ C ops base ob K (o::rest) k rev :=
 yJ x kn (y3 hk) hs (qq hn).1 (qq hn).2.1 (qq hn).2.2 h
theorem jJ {kn:List (Nat×AV)}(hs:∀ i x,look kn i=some x->look sl i=some x){x:Operand}{y:AV}(h:evo kn x=some y):evo sl x=some y:=by
 cases x with
 | tmp t=>exact hs _ _ h
 | const v=>exact h
 | func f=>exact h
 | global g=>exact h
end
abbrev fa:=@aC
abbrev l1:=@bn
abbrev st:=@em
abbrev cs:=@jv
abbrev cc:=@ri
abbrev sq:=@dl
abbrev sk:=@lJ
abbrev gl:=@cb
abbrev lb:=@Nat.le_of_ble_eq_true
end Go.Ab
namespace Go.Ab
inductive Fr where
 | sq (y:Code)
 | bk (id:Nat)
 | ng
 | jo (P:AS->Prop)
 | je (id:Nat) (P:AS->Prop)
inductive Ct where
 | cd (c:Code)
 | op (ops:Array Oper) (r:List Oper)
 | ex (e:Exit)
structure Cf where
 c:Ct
 k:List Fr
 s:AS
def dn (C:Cx)(Q:Exit->AS->Prop):List Fr->Exit->AS->Prop|[]=>λ e s=>∃ t,cB C s t/\Q e t|.sq y::k=>qF (awp C y (dn C Q k)) (dn C Q k)|.bk id::k=>kQ id (dn C Q k)|.ng::k=>noGoto (dn C Q k)|.jo P::k=>qF (λ s=>∃ t,cB C s t/\P t) (dn C Q k)|.je id P::k=>exQ id (λ s=>∃ t,cB C s t/\P t) (dn C Q k)
def M (C:Cx)(Q:Exit->AS->Prop):Cf->Prop|⟨.cd c,k,s⟩=>awp C c (dn C Q k) s|⟨.op ops r,k,s⟩=>gg C ops r (dn C Q k .normal) s|⟨.ex e,k,s⟩=>dn C Q k e s
def pop:List Fr->Exit->AS->Option Cf
 | [],e,s=>some ⟨.ex e,[],s⟩
 | .sq y::k,.normal,s=>some ⟨.cd y,k,s⟩
 | .sq _::k,.exit i,s=>pop k (.exit i) s
 | .sq _::k,.ret,s=>pop k .ret s
 | .bk _::k,.normal,s=>pop k .normal s
 | .bk id::k,.exit i,s=>(match Nat.beq i id with|true=>pop k .normal s|false=>pop k (.exit i) s)
 | .bk _::k,.ret,s=>pop k .ret s
 | .ng::k,.normal,s=>pop k .normal s
 | .ng::k,.exit i,s=>pop k (.exit i) s
 | .ng::k,.ret,s=>pop k .ret s
 | .jo P::k,.normal,s=>some ⟨.ex .normal,.jo P::k,s⟩
 | .jo _::k,.exit i,s=>pop k (.exit i) s
 | .jo _::k,.ret,s=>pop k .ret s
 | .je _ _::k,.normal,s=>pop k .normal s
 | .je id P::k,.exit i,s=>(match Nat.beq i id with|true=>some ⟨.ex (.exit i),.je id P::k,s⟩|false=>pop k (.exit i) s)
 | .je _ _::k,.ret,s=>pop k .ret s
 | _,_,_=>none
section
variable {C:Cx} {Q:Exit->AS->Prop} {ops:Array Oper} {K:AS->Prop} {sl:List (Nat×AV)} {ob:List (Nat×List AV)} {r:List Oper} {o:Oper} {d:Nat} {s s':AS} {k:List Fr}
theorem il:∀ {k:List Fr} {e:Exit} {c:Cf},pop k e s=some c->M C Q c->dn C Q k e s
 | [],e,c,h,hM=>by simp only [pop,bt] at h; subst h; exact hM
 | .sq y::k,e,c,h,hM=>by
  cases e <;> simp only [pop,bt,reduceCtorEq] at h
  ·subst h; exact hM
  ·exact il (k:=k) h hM
  ·exact il (k:=k) h hM
 | .bk id::k,e,c,h,hM=>by
  cases e <;> simp only [pop,reduceCtorEq] at h
  ·exact il (k:=k) h hM
  ·rename_i i;split at h
   ·rename_i hb;rw [cl hb];exact a8 (il (k:=k) h hM)
   ·rename_i hb; exact aW hb (il (k:=k) h hM)
  ·exact il (k:=k) h hM
 | .ng::k,e,c,h,hM=>by
  cases e <;> simp only [pop,reduceCtorEq] at h
  ·exact il (k:=k) h hM
  ·exact il (k:=k) h hM
  ·exact il (k:=k) h hM
 | .jo P::k,e,c,h,hM=>by
  cases e <;> simp only [pop,bt,reduceCtorEq] at h
  ·subst h; exact hM
  ·exact il (k:=k) h hM
  ·exact il (k:=k) h hM
 | .je id P::k,e,c,h,hM=>by
  cases e <;> simp only [pop,reduceCtorEq] at h
  ·exact bj (il (k:=k) h hM)
  ·rename_i i;split at h
   ·rename_i hb
    cases h; exact hM
   ·rename_i hb; exact bE hb (il (k:=k) h hM)
  ·exact cn (il (k:=k) h hM)
def xf (C:Cx)(o:Oper):AS->AV->Option AS
 | ⟨sl,ob⟩,y=>match o.dst with
  | some d=>(match Nat.blt d C.n with|true=>some ⟨(d,y)::sl,ob⟩|false=>none)
  | none=>none
theorem oD {y:AV}(h:xf C o ⟨sl,ob⟩ y=some s'):∃ d,o.dst=some d/\Nat.blt d C.n=true/\s'=⟨(d,y)::sl,ob⟩:=by
 simp only [xf] at h;split at h
 ·rename_i d hd;split at h
  ·rename_i hn; cases h; exact ⟨d,hd,hn,rfl⟩
  ·cases h
 ·cases h
def ikE (a b:IntKind):Bool:=Nat.beq a.ctorIdx b.ctorIdx
theorem A6 {a b:IntKind}(h:ikE a b=true):a=b:=by cases a <;> cases b <;> first|rfl|cases h
def pkP (sl:List (Nat×AV))(x y:Operand):Option AV->Option AV|some (.p (.val (.bool true)))=>evo sl x|some (.p (.val (.bool false)))=>evo sl y|_=>none
def bnP (C:Cx)(op:BinOp)(t:TypeId):Option AV->Option AV->Option AV
 | some (.p (.val (.int k a))),some (.p (.val (.int k' b)))=>(match ikE k' k with
  | true=>(match BS op a b with
   | some c=>some (.p (.val (.bool c)))
   | none=>(match BQ k op a b with
    | some c=>some (.p (.val (.int k c)))
    | none=>(match ikE k .i64 with
     | true=>none
     | false=>(match arI op a b with
      | some c=>some (.p (.val (.int k (k.wrap c))))
      | none=>none))))
  | false=>none)
 | some (.p (.val (.bool a))),some (.p (.val (.bool b)))=>(match look C.tt t with
  | some i=>(match i.k with
   | .bool=>(match Dw op a b with|some c=>some (.p (.val (.bool c)))|none=>none)
   | _=>none)
  | none=>none)
 | _,_=>none
def faP (C:Cx)(t f:Nat)(X:Option AV):Option AV:=match look C.tt t with
 | some i=>(match i.k with
  | .struct fs=>(match fs[f]? with
   | some (off,ft)=>(match look C.tt ft with
    | some j=>(match Nat.beq j.size 0 with
     | false=>(match X with
      | some (.ptr id k)=>some (.ptr id (k+off))
      | some (.rptr cs)=>some (.rptr (cs.drop off))
      | _=>none)
     | true=>none)
    | none=>none)
   | none=>none)
  | _=>none)
 | none=>none
def ldP (C:Cx)(ob:List (Nat×List AV))(t:Nat)(X:Option AV):Option AV:=match look C.tt t with
 | some i=>(match X with
  | some (.ptr id k)=>(match look ob id with
   | some cs=>(match i.k.isAgg with
    | false=>cs[k]?
    | true=>(match Nat.ble (k+i.size) cs.length with
     | true=>(match lM ((cs.drop k).take i.size) with
      | .p y=>some (.p y)
      | .agg l=>some (.agg l)
      | _=>none)
     | false=>none))
   | none=>none)
  | some (.rptr cs)=>(match i.k.isAgg with
   | false=>(match cs.head? with|some y=>some (.p y)|none=>none)
   | true=>(match Nat.ble i.size cs.length with
    | true=>some (.p (.agg (cs.take i.size)))
    | false=>none))
  | _=>none)
 | none=>none
def nrm {α:Type}:List α->Option (List α)
 | []=>some []
 | x::r=>(match nrm r with|some l=>some (x::l)|none=>none)
theorem rG {α:Type}:∀ {l l':List α},nrm l=some l'->l'=l
 | [],l',h=>by cases h; rfl
 | x::r,l',h=>by
  unfold nrm at h;split at h
  ·rename_i m hm; cases h; rw [rG hm]
  ·cases h
def stP (C:Cx)(o:Oper)(sl:List (Nat×AV))(ob:List (Nat×List AV))(t:Nat)(x v:Operand):Option AS:=match o.dst with
 | none=>(match look C.tt t with
  | some i=>(match evo sl x with
   | some (.ptr id k)=>(match evo sl v with
    | some y=>(match y.cellsA with
     | some xs=>(match Nat.beq xs.length i.size with
      | true=>(match look ob id with
       | some cs=>(match Nat.ble (k+xs.length) cs.length with
        | true=>(match nrm (na cs k xs) with
         | some ds=>some ⟨sl,(id,ds)::ob⟩
         | none=>none)
        | false=>none)
       | none=>none)
      | false=>none)
     | none=>none)
    | none=>none)
   | _=>none)
  | none=>none)
 | some _=>none
def frc:AV->Option AV|.undef=>some .undef|.p x=>some (.p x)|.agg cs=>some (.agg cs)|.vec a b c e=>some (.vec a b c e)|.arr a b c e=>some (.arr a b c e)|.ptr a b=>some (.ptr a b)|.bptr a b c=>some (.bptr a b c)|.rptr cs=>some (.rptr cs)|.tuple vs=>some (.tuple vs)|.func f cs=>some (.func f cs)|.mp a b=>some (.mp a b)|.mpr a b c d e=>some (.mpr a b c d e)|.stk a b c=>some (.stk a b c)|.sem ts R=>some (.sem ts R)|.it a b c=>some (.it a b c)|.vecp a b c e=>some (.vecp a b c e)|.elp a b=>some (.elp a b)
theorem qt {x y:AV}(h:frc x=some y):y=x:=by cases x <;> (cases h; rfl)
def dmS (D:Nat->Bool):List (Nat×AV)->Option (List (Nat×AV))
 | []=>some []
 | (i,x)::r=>(match frc (x.dem D) with
  | some y=>(match dmS D r with|some l=>some ((i,y)::l)|none=>none)
  | none=>none)
theorem nA {D:Nat->Bool}:∀ {l l':List (Nat×AV)},dmS D l=some l'->l'=l.map λ p=>(p.1,p.2.dem D)
 | [],l',h=>by cases h; rfl
 | (i,x)::r,l',h=>by
  unfold dmS at h;split at h
  ·rename_i y hy;split at h
   ·rename_i m hm; cases h; rw [qt hy,nA hm]; rfl
   ·cases h
  ·cases h
def dmC (D:Nat->Bool):List AV->Option (List AV)
 | []=>some []
 | x::r=>(match frc (x.dem D) with
  | some y=>(match dmC D r with|some l=>some (y::l)|none=>none)
  | none=>none)
theorem x9 {D:Nat->Bool}:∀ {l l':List AV},dmC D l=some l'->l'=jW D l
 | [],l',h=>by cases h; rfl
 | x::r,l',h=>by
  unfold dmC at h;split at h
  ·rename_i y hy;split at h
   ·rename_i m hm; cases h; rw [qt hy,x9 hm]; rfl
   ·cases h
  ·cases h
def dmO (D:Nat->Bool):List (Nat×List AV)->Option (List (Nat×List AV))
 | []=>some []
 | (i,cs)::r=>(match D i with
  | true=>dmO D r
  | false=>(match dmC D cs with
   | some ds=>(match dmO D r with|some l=>some ((i,ds)::l)|none=>none)
   | none=>none))
theorem mI {D:Nat->Bool}:∀ {l l':List (Nat×List AV)},dmO D l=some l'->l'=(l.filter λ p=>!D p.1).map λ p=>(p.1,jW D p.2)
 | [],l',h=>by cases h; rfl
 | (i,cs)::r,l',h=>by
  unfold dmO at h;split at h
  ·rename_i hD; rw [mI h]; simp [hD]
  ·rename_i hD;split at h
   ·rename_i ds hds;split at h
    ·rename_i m hm; cases h; rw [x9 hds,mI hm]; simp [hD]
    ·cases h
   ·cases h
def nwP (C:Cx)(o:Oper)(sl0:List (Nat×AV))(ob0:List (Nat×List AV))(cs:List AV):Option AS:=match o.dst with
 | some d=>(match Nat.blt d C.n with
  | true=>(match dmS (λ i=>Nat.beq i d) sl0 with
   | some sl=>(match dmC (λ i=>Nat.beq i d) cs with
    | some ds=>(match dmO (λ i=>Nat.beq i d) ob0 with
     | some ob=>some ⟨(d,.ptr d 0)::sl,(d,ds)::ob⟩
     | none=>none)
    | none=>none)
   | none=>none)
  | false=>none)
 | none=>none
theorem BL {cs:List AV}(h:nwP C o sl ob cs=some s'):∃ d,o.dst=some d/\Nat.blt d C.n=true/\s'=⟨(d,.ptr d 0)::(co (λ i=>Nat.beq i d) ⟨sl,ob⟩).sl,(d,jW (λ i=>Nat.beq i d) cs)::(co (λ i=>Nat.beq i d) ⟨sl,ob⟩).ob⟩:=by
 unfold nwP at h;split at h
 ·rename_i d hd;split at h
  ·rename_i hn;split at h
   ·rename_i a ha;split at h
    ·rename_i b hb;split at h
     ·rename_i c hc
      cases h
      exact ⟨d,hd,hn,by rw [nA ha,x9 hb,mI hc]; rfl⟩
     ·cases h
    ·cases h
   ·cases h
  ·cases h
 ·cases h
def ncP:Option AV->Option AV|some (.ptr id k)=>some (.ptr id k)|_=>none
def xtP (k:Nat):Option AV->Option AV|some (.tuple l)=>l[k]?|_=>none
def ntP:Option AV->Option AV|some (.p (.val (.bool b)))=>some (.p (.val (.bool (!b))))|_=>none
def flP (C:Cx)(t f:Nat)(X:Option AV):Option AV:=match look C.tt t with
 | some i=>(match i.k with
  | .struct fs=>(match fs[f]? with
   | some (off,ft)=>(match look C.tt ft with
    | some j=>(match X with
     | some (.p (.agg cs))=>(match j.k.isAgg with
      | false=>(match cs[off]? with|some c=>some (.p c)|none=>none)
      | true=>(match Nat.ble (off+j.size) cs.length with
       | true=>(match nrm ((cs.drop off).take j.size) with
        | some ds=>some (.p (.agg ds))
        | none=>none)
       | false=>none))
     | _=>none)
    | none=>none)
   | none=>none)
  | _=>none)
 | none=>none
def cvP (C:Cx)(st dt:Nat)(X:Option AV):Option AV:=match look C.tt st with
 | some i=>(match i.k with
  | .int k'=>(match look C.tt dt with
   | some j=>(match j.k with
    | .int k=>(match X with
     | some (.p (.val (.int k2 a)))=>(match ikE k2 k' with
      | true=>(match ikE k .i64 with
       | true=>none
       | false=>some (.p (.val (.int k (k.wrap a)))))
      | false=>none)
     | _=>none)
    | _=>none)
   | none=>none)
  | _=>none)
 | none=>none
def agP (cs:List AV):Option AV:=match nrm cs with
 | some ds=>(match lM ds with
  | .p y=>some (.p y)
  | .agg l=>some (.agg l)
  | _=>none)
 | none=>none
def buP (C:Cx)(t:Nat)(X:Option (List (Nat×AV))):Option AV:=match look C.tt t with
 | some i=>(match i.k with
  | .struct fs=>(match pT C.tt fs with
   | some pl=>(match X with
    | some ps=>(match sb (λ (i:Nat)=>pl[i]?) (fj i) ps with
     | some cs=>agP cs
     | none=>none)
    | none=>none)
   | none=>none)
  | .array _ e=>(match look C.tt e with
   | some ie=>(match X with
    | some ps=>(match sb (λ (k:Nat)=>some (k*ie.size,ie.size)) (fj i) ps with
     | some cs=>agP cs
     | none=>none)
    | none=>none)
   | none=>none)
  | _=>none)
 | none=>none
def laP (C:Cx)(c:Call)(sl:List (Nat×AV)):Option AV:=match c with
 | ⟨.builtin .len,⟨[x]⟩,⟨[t]⟩⟩=>(match look C.tt t with
  | some i=>(match i.k with
   | .slice _=>(match evo sl x with
    | some (.arr _ _ _ m)=>some (.p (.val (.int .i64 (m:Int))))
    | _=>none)
   | _=>none)
  | none=>none)
 | _=>none
def alP (C:Cx)(o:Oper)(sl:List (Nat×AV))(ob:List (Nat×List AV))(t:Nat):Option AS:=match look C.tt t with
 | some i=>(match AV.cellsA (.agg (fj i)) with
  | some cs=>(match nrm cs with|some ds=>nwP C o sl ob ds|none=>none)
  | none=>none)
 | none=>none
def bxP (C:Cx)(o:Oper)(sl:List (Nat×AV))(ob:List (Nat×List AV))(v:Operand):Option AS:=match evo sl v with
 | some x=>(match x.cellsA with
  | some cs=>(match nrm cs with|some ds=>nwP C o sl ob ds|none=>none)
  | none=>none)
 | none=>none
def opV (C:Cx)(o:Oper)(sl:List (Nat×AV))(ob:List (Nat×List AV)):Option AV:=match o.op with
 | .move x=>evo sl x
 | .assign x=>evo sl x
 | .pick c x y=>pkP sl x y (evo sl c)
 | .binOp op t x y _=>bnP C op t (evo sl x) (evo sl y)
 | .unOp .not _ x=>ntP (evo sl x)
 | .fieldAddr t x f=>faP C t f (evo sl x)
 | .load t x=>ldP C ob t (evo sl x)
 | .nilCheck x=>ncP (evo sl x)
 | .extract x k=>xtP k (evo sl x)
 | .field t x f=>flP C t f (evo sl x)
 | .convert st dt x=>cvP C st dt (evo sl x)
 | .build t parts=>buP C t (fZ sl parts.toList)
 | .call c=>laP C c sl
 | _=>none
def opF (C:Cx)(o:Oper):AS->Option AS
 | ⟨sl,ob⟩=>match o.op with
 | .store t x v=>stP C o sl ob t x v
 | .box _ v=>bxP C o sl ob v
 | .alloc t=>alP C o sl ob t
 | .move x=>(match evo sl x with
  | some y=>xf C o ⟨sl,ob⟩ y
  | none=>xf C o ⟨sl,ob⟩ .undef)
 | .assign x=>(match evo sl x with
  | some y=>xf C o ⟨sl,ob⟩ y
  | none=>xf C o ⟨sl,ob⟩ .undef)
 | _=>(match opV C o sl ob with
  | some y=>xf C o ⟨sl,ob⟩ y
  | none=>none)
theorem Dn {c x y:Operand}{z:AV}(ho:o.op=.pick c x y)(h:pkP sl x y (evo sl c)=some z)(hd:o.dst=some d)(hn:Nat.blt d C.n=true)(hK:K ⟨(d,z)::sl,ob⟩):ba C o K ⟨sl,ob⟩:=by
 generalize hc:evo sl c=v at h;unfold pkP at h;split at h
 ·exact lW ho hd hn hc Z h hK
 ·exact nE ho hd hn hc Z h hK
 ·cases h
theorem Dz {op:BinOp}{t t':TypeId}{x y:Operand}{z:AV}(ho:o.op=.binOp op t x y t')(h:bnP C op t (evo sl x) (evo sl y)=some z)(h1:o.dst=some d)(h2:Nat.blt d C.n=true)(hK:K ⟨(d,z)::sl,ob⟩):ba C o K ⟨sl,ob⟩:=by
 generalize hx:evo sl x=X at h;generalize hy:evo sl y=Y0z at h;unfold bnP at h;split at h
 ·rename_i k a k' b;split at h
  ·rename_i hk;have:=A6 hk; subst this;split at h
   ·rename_i c hc
    cases h; exact Dd ho h1 h2 hx hy hc hK
   ·split at h
    ·rename_i c hc
     cases h; exact Da ho h1 h2 hx hy hc hK
    ·split at h
     ·cases h
     ·split at h
      ·rename_i c hc
       cases h; exact Bj ho h1 h2 hx hy hc hK
      ·cases h
  ·cases h
 ·split at h
  ·rename_i i hi;split at h
   ·rename_i hk;split at h
    ·rename_i c hc
     cases h; exact BX ho h1 h2 hi hk hx hy hc hK
    ·cases h
   ·cases h
  ·cases h
 ·cases h
theorem Dy {t f:Nat}{x:Operand}{z:AV}(ho:o.op=.fieldAddr t x f)(h:faP C t f (evo sl x)=some z)(h1:o.dst=some d)(h2:Nat.blt d C.n=true)(hK:K ⟨(d,z)::sl,ob⟩):ba C o K ⟨sl,ob⟩:=by
 generalize hx:evo sl x=X at h;unfold faP at h;split at h
 ·rename_i i hi;split at h
  ·rename_i fs hk;split at h
   ·rename_i off ft hf;split at h
    ·rename_i j hj;split at h
     ·rename_i hs;split at h
      ·cases h; exact aC ho h1 h2 hi hk hf hj hs hx hK
      ·cases h; exact ew ho h1 h2 hi hk hf hj hs hx hK
      ·cases h
     ·cases h
    ·cases h
   ·cases h
  ·cases h
 ·cases h
theorem D2 {t:Nat}{x:Operand}{z:AV}(ho:o.op=.load t x)(h:ldP C ob t (evo sl x)=some z)(h1:o.dst=some d)(h2:Nat.blt d C.n=true)(hK:K ⟨(d,z)::sl,ob⟩):ba C o K ⟨sl,ob⟩:=by
 generalize hx:evo sl x=X at h;unfold ldP at h;split at h
 ·rename_i i hi;split at h
  ·rename_i id k;split at h
   ·rename_i cs hob;split at h
    ·rename_i ha;exact bn ho h1 h2 hi ha hx hob h hK
    ·rename_i ha;split at h
     ·rename_i hl;split at h
      ·rename_i y hy
       cases h; exact d5 ho h1 h2 hi ha hx hob hl (congrArg some hy) hK
      ·rename_i y hy
       cases h; exact d5 ho h1 h2 hi ha hx hob hl (congrArg some hy) hK
      ·cases h
     ·cases h
   ·cases h
  ·rename_i cs;split at h
   ·rename_i ha;split at h
    ·rename_i y hy
     cases h; exact jw ho h1 h2 hi ha hx hy hK
    ·cases h
   ·rename_i ha;split at h
    ·rename_i hl
     cases h; exact lk ho h1 h2 hi ha hx hl hK
    ·cases h
  ·cases h
 ·cases h
theorem Dc {t:Nat}{x v:Operand}(ho:o.op=.store t x v)(h:stP C o sl ob t x v=some s')(hK:K s'):ba C o K ⟨sl,ob⟩:=by
 unfold stP at h;split at h
 ·rename_i hd;split at h
  ·rename_i i hi;split at h
   ·rename_i id k hx;split at h
    ·rename_i y hv;split at h
     ·rename_i xs hc;split at h
      ·rename_i EH;split at h
       ·rename_i cs hob;split at h
        ·rename_i hl;split at h
         ·rename_i ds hds
          cases h
          rw [rG hds] at hK;exact em ho hd hi hx hv hc (cl EH) hob (n6 hl) hK
         ·cases h
        ·cases h
       ·cases h
      ·cases h
     ·cases h
    ·cases h
   ·cases h
  ·cases h
 ·cases h
theorem DG {t:Nat}{v:Operand}(ho:o.op=.box t v)(h:bxP C o sl ob v=some s')(hK:K s'):ba C o K ⟨sl,ob⟩:=by
 unfold bxP at h;split at h
 ·rename_i x hx;split at h
  ·rename_i cs hc;split at h
   ·rename_i ds hds;obtain ⟨d,h1,h2,rfl⟩:=BL h;rw [rG hds] at hK;exact yA ho h1 h2 hx hc hK
   ·cases h
  ·cases h
 ·cases h
theorem Db {t:Nat}(ho:o.op=.alloc t)(h:alP C o sl ob t=some s')(hK:K s'):ba C o K ⟨sl,ob⟩:=by
 unfold alP at h;split at h
 ·rename_i i hi;split at h
  ·rename_i cs hc;split at h
   ·rename_i ds hds;obtain ⟨d,h1,h2,rfl⟩:=BL h;rw [rG hds] at hK
    have e:cs=fj i:=by
     simp only [AV.cellsA] at hc
     cases hb:AV.onesB (fj i) <;> rw [hb] at hc <;> cases hc
     rfl
    subst e;exact fW ho h1 h2 hi hc hK
   ·cases h
  ·cases h
 ·cases h
theorem Dg {x:Operand}{z:AV}(ho:o.op=.nilCheck x)(h:ncP (evo sl x)=some z)(h1:o.dst=some d)(h2:Nat.blt d C.n=true)(hK:K ⟨(d,z)::sl,ob⟩):ba C o K ⟨sl,ob⟩:=by
 generalize hx:evo sl x=X at h;unfold ncP at h;split at h
 ·cases h; exact bK ho h1 h2 hx hK
 ·cases h
theorem DZ {x:Operand}{n:Nat}{z:AV}(ho:o.op=.extract x n)(h:xtP n (evo sl x)=some z)(h1:o.dst=some d)(h2:Nat.blt d C.n=true)(hK:K ⟨(d,z)::sl,ob⟩):ba C o K ⟨sl,ob⟩:=by
 generalize hx:evo sl x=X at h;unfold xtP at h;split at h
 ·exact yr ho h1 h2 hx h hK
 ·cases h
theorem Dl {t:TypeId}{x:Operand}{z:AV}(ho:o.op=.unOp .not t x)(h:ntP (evo sl x)=some z)(h1:o.dst=some d)(h2:Nat.blt d C.n=true)(hK:K ⟨(d,z)::sl,ob⟩):ba C o K ⟨sl,ob⟩:=by
 generalize hx:evo sl x=X at h;unfold ntP at h;split at h
 ·cases h; exact DF ho h1 h2 hx hK
 ·cases h
theorem De {t f:Nat}{x:Operand}{z:AV}(ho:o.op=.field t x f)(h:flP C t f (evo sl x)=some z)(h1:o.dst=some d)(h2:Nat.blt d C.n=true)(hK:K ⟨(d,z)::sl,ob⟩):ba C o K ⟨sl,ob⟩:=by
 generalize hx:evo sl x=X at h;unfold flP at h;split at h
 ·rename_i i hi;split at h
  ·rename_i fs hk;split at h
   ·rename_i off ft hf;split at h
    ·rename_i j hj;split at h
     ·rename_i cs;split at h
      ·rename_i ha;split at h
       ·rename_i c hc
        cases h; exact zD ho h1 h2 hi hk hf hj ha hx hc hK
       ·cases h
      ·rename_i ha;split at h
       ·rename_i hl;split at h
        ·rename_i ds hds;rw [rG hds] at h
         cases h; exact zU ho h1 h2 hi hk hf hj ha hx hl hK
        ·cases h
       ·cases h
     ·cases h
    ·cases h
   ·cases h
  ·cases h
 ·cases h
theorem Dj {st dt:Nat}{x:Operand}{z:AV}(ho:o.op=.convert st dt x)(h:cvP C st dt (evo sl x)=some z)(h1:o.dst=some d)(h2:Nat.blt d C.n=true)(hK:K ⟨(d,z)::sl,ob⟩):ba C o K ⟨sl,ob⟩:=by
 generalize hx:evo sl x=X at h;unfold cvP at h;split at h
 ·rename_i i hi;split at h
  ·rename_i k' hk';split at h
   ·rename_i j hj;split at h
    ·rename_i k hk;split at h
     ·rename_i k2 a;split at h
      ·rename_i hb;have:=A6 hb; subst this;split at h
       ·cases h
       ·cases h; exact A5 ho h1 h2 hi hk' hj hk hx hK
      ·cases h
     ·cases h
    ·cases h
   ·cases h
  ·cases h
 ·cases h
theorem Be {cs:List AV}{z:AV}(h:agP cs=some z):some (lM cs)=some z:=by
 unfold agP at h;split at h
 ·rename_i ds hds;have e:=rG hds;subst e;split at h
  ·rename_i y hy; cases h; exact congrArg some hy
  ·rename_i y hy; cases h; exact congrArg some hy
  ·cases h
 ·cases h
theorem DW {t:Nat}{parts:Array (Nat×Operand)}{z:AV}(ho:o.op=.build t parts)(h:buP C t (fZ sl parts.toList)=some z)(h1:o.dst=some d)(h2:Nat.blt d C.n=true)(hK:K ⟨(d,z)::sl,ob⟩):ba C o K ⟨sl,ob⟩:=by
 generalize hps:fZ sl parts.toList=X at h;unfold buP at h;split at h
 ·rename_i i hi;split at h
  ·rename_i fs hk;split at h
   ·rename_i pl hpl;split at h
    ·rename_i ps;split at h
     ·rename_i cs ER;exact gH ho h1 h2 hi hk hpl hps ER (Be h) hK
     ·cases h
    ·cases h
   ·cases h
  ·rename_i m e hk;split at h
   ·rename_i ie hie;split at h
    ·rename_i ps;split at h
     ·rename_i cs ER;exact xc ho h1 h2 hi hk hie hps ER (Be h) hK
     ·cases h
    ·cases h
   ·cases h
  ·cases h
 ·cases h
theorem DD {c:Call}{z:AV}(ho:o.op=.call c)(h:laP C c sl=some z)(h1:o.dst=some d)(h2:Nat.blt d C.n=true)(hK:K ⟨(d,z)::sl,ob⟩):ba C o K ⟨sl,ob⟩:=by
 unfold laP at h;split at h
 ·split at h
  ·rename_i i hi;split at h
   ·rename_i e hk;split at h
    ·rename_i hx
     cases h; exact CP ho h1 h2 hi hk hx hK
    ·cases h
   ·cases h
  ·cases h
 ·cases h
theorem tS {y:AV}(h:opV C o sl ob=some y)(h1:o.dst=some d)(h2:Nat.blt d C.n=true)(hK:K ⟨(d,y)::sl,ob⟩):ba C o K ⟨sl,ob⟩:=by
 unfold opV at h;split at h
 ·rename_i ho; exact bM ho h1 h2 h hK
 ·rename_i ho; exact dF ho h1 h2 h hK
 ·rename_i ho; exact Dn ho h h1 h2 hK
 ·rename_i ho; exact Dz ho h h1 h2 hK
 ·rename_i ho; exact Dl ho h h1 h2 hK
 ·rename_i ho; exact Dy ho h h1 h2 hK
 ·rename_i ho; exact D2 ho h h1 h2 hK
 ·rename_i ho; exact Dg ho h h1 h2 hK
 ·rename_i ho; exact DZ ho h h1 h2 hK
 ·rename_i ho; exact De ho h h1 h2 hK
 ·rename_i ho; exact Dj ho h h1 h2 hK
 ·rename_i ho; exact DW ho h h1 h2 hK
 ·rename_i ho; exact DD ho h h1 h2 hK
 ·cases h
theorem xL (h:opF C o ⟨sl,ob⟩=some s')(hK:K s'):ba C o K ⟨sl,ob⟩:=by
 unfold opF at h;dsimp only at h;split at h
 ·rename_i ho; exact Dc ho h hK
 ·rename_i ho; exact DG ho h hK
 ·rename_i ho; exact Db ho h hK
 ·rename_i ho;split at h
  ·rename_i y hy; obtain ⟨d,h1,h2,rfl⟩:=oD h; exact bM ho h1 h2 hy hK
  ·obtain ⟨d,h1,h2,rfl⟩:=oD h; exact wL ho h1 h2 hK
 ·rename_i ho;split at h
  ·rename_i y hy; obtain ⟨d,h1,h2,rfl⟩:=oD h; exact dF ho h1 h2 hy hK
  ·obtain ⟨d,h1,h2,rfl⟩:=oD h; exact uw ho h1 h2 hK
 ·split at h
  ·rename_i y hy; obtain ⟨d,h1,h2,rfl⟩:=oD h; exact tS hy h1 h2 hK
  ·cases h
def isU:Value->Bool|.tuple a=>Nat.beq a.size 0|_=>false
theorem AM {v:Value}(h:isU v=true):v=Go.undef:=by
 unfold isU at h;split at h
 ·rename_i a;have:=cl h;have:=Array.eq_empty_of_size_eq_zero this;subst this; rfl
 ·cases h
def yK (C:Cx)(o:Oper)(s:AS):Option AS:=xf C o s (.p (.val Go.undef))
def guF (C:Cx)(o:Oper)(s:AS):Option (Bool×AV)->Option AS
 | some (true,.p (.val (.bool true)))=>opF C o s
 | some (true,.p (.val (.bool false)))=>yK C o s
 | some (false,.p (.val (.bool true)))=>yK C o s
 | some (false,.p (.val (.bool false)))=>opF C o s
 | some (_,.p (.val v))=>(match isU v with|true=>yK C o s|false=>none)
 | _=>none
def oF (C:Cx)(ops:Array Oper)(o:Oper):AS->Option AS
 | ⟨sl,ob⟩=>match o.guard with
  | none=>opF C o ⟨sl,ob⟩
  | some _=>guF C o ⟨sl,ob⟩ (gdF ops o sl)
theorem D7 (h:oF C ops o ⟨sl,ob⟩=some s')(hK:gg C ops r K s'):gg C ops (o::r) K ⟨sl,ob⟩:=by
 unfold oF at h;dsimp only at h;split at h
 ·rename_i hg; exact bV hg (xL h hK)
 ·rename_i p hg
  have pass:∀ {w:Bool} {b:Bool},gdF ops o sl=some (w,.p (.val (.bool b)))->b=(!w)->yK C o ⟨sl,ob⟩=some s'->gg C ops (o::r) K ⟨sl,ob⟩:=by
   intro w b hgd hb hp;obtain ⟨d,h1,h2,rfl⟩:=oD hp;obtain ⟨j,t,hg,hj,hv⟩:=ru hgd;exact uv hg hj hv hb h1 h2 hK
  generalize hgd:gdF ops o sl=G0z at h;unfold guF at h;split at h
  ·exact gy Z hgd (xL h hK)
  ·exact pass hgd Z h
  ·exact pass hgd Z h
  ·exact gy Z hgd (xL h hK)
  ·rename_i v hno1 hno2 hno3 hno4;split at h
   ·rename_i hu;have:=AM hu; subst this;obtain ⟨d,h1,h2,rfl⟩:=oD h;obtain ⟨j,t,hg,hj,hv⟩:=ru hgd;exact sQ hg hj hv h1 h2 hK
   ·cases h
  ·cases h
def cdE (s:AS)(x:Operand):Option AV:=match s with|⟨sl,_⟩=>evo sl x
def cdF (_C:Cx)(k:List Fr)(s:AS):Code->Option Cf
 | .seq x y=>some ⟨.cd x,.sq y::k,s⟩
 | .block id x=>some ⟨.cd x,.bk id::k,s⟩
 | .scope x=>some ⟨.cd x,.ng::k,s⟩
 | .skip=>pop k .normal s
 | .label _=>pop k .normal s
 | .exit id=>pop k (.exit id) s
 | .ret=>pop k .ret s
 | .region _ ops draw=>(match draw with|false=>some ⟨.op ops ops.toList,k,s⟩|true=>none)
 | .cond c x y=>(match cdE s c with
  | some (.p (.val (.bool true)))=>some ⟨.cd x,k,s⟩
  | some (.p (.val (.bool false)))=>some ⟨.cd y,k,s⟩
  | _=>none)
 | _=>none
def stp (C:Cx):Cf->Option Cf
 | ⟨.ex e,k,s⟩=>pop k e s
 | ⟨.op _ [],k,s⟩=>pop k .normal s
 | ⟨.op ops (o::r),k,s⟩=>(match oF C ops o s with|some s'=>some ⟨.op ops r,k,s'⟩|none=>none)
 | ⟨.cd c,k,s⟩=>cdF C k s c
theorem Du {c:Code}{c':Cf}(h:cdF C k s c=some c')(hM:M C Q c'):awp C c (dn C Q k) s:=by
 unfold cdF at h;split at h
 ·cases h; exact dl hM
 ·cases h; exact zV hM
 ·cases h; exact zr hM
 ·exact lJ (il h hM)
 ·exact zJ (il h hM)
 ·exact Bf (il h hM)
 ·exact kR (il h hM)
 ·split at h
  ·cases h; exact eF hM
  ·cases h
 ·have hs:∀ c,cdE s c=evo s.sl c:=λ c=>by cases s; rfl
  split at h
  ·rename_i hc; cases h; exact Bg (xN ((hs _).symm.trans hc)) rfl hM
  ·rename_i hc; cases h; exact z6 (xN ((hs _).symm.trans hc)) rfl hM
  ·cases h
 ·cases h
theorem DT {c c':Cf}(h:stp C c=some c')(hM:M C Q c'):M C Q c:=by
 unfold stp at h;split at h
 ·exact il h hM
 ·exact dT (il h hM)
 ·split at h
  ·rename_i s0 hs; cases h; exact D7 hs hM
  ·cases h
 ·exact Du h hM
def run (C:Cx):Nat->Cf->Option Cf
 | 0,c=>some c
 | n+1,c=>(match stp C c with|some c'=>run C n c'|none=>none)
theorem nx:∀ (n:Nat) {c c':Cf},run C n c=some c'->M C Q c'->M C Q c
 | 0,c,c',h,hM=>by cases h; exact hM
 | n+1,c,c',h,hM=>by
  unfold run at h;split at h
  ·rename_i c1 h1; exact DT h1 (nx n h hM)
  ·cases h
theorem po:∀ {k:List Fr} {e:Exit} {s t:AS},cB C s t->dn C Q k e t->dn C Q k e s
 | [],e,s,t,hg,⟨u,h1,h2⟩=>⟨u,aK hg h1,h2⟩
 | .sq y::k,e,s,t,hg,h=>by
  cases e with
  | normal=>exact rn hg h
  | _=>exact po (k:=k) hg h
 | .bk id::k,e,s,t,hg,h=>by
  cases e with
  | exit i=>
   simp only [dn,kQ] at h ⊢;split
   ·rename_i e; rw [if_pos e] at h; exact po (k:=k) hg h
   ·rename_i e; rw [if_neg e] at h; exact po (k:=k) hg h
  | _=>exact po (k:=k) hg h
 | .ng::k,e,s,t,hg,h=>by
  cases e with
  | goto l=>exact h
  | _=>exact po (k:=k) hg h
 | .jo P::k,e,s,t,hg,h=>by
  cases e with
  | normal=>obtain ⟨u,h1,h2⟩:=h; exact ⟨u,aK hg h1,h2⟩
  | _=>exact po (k:=k) hg h
 | .je id P::k,e,s,t,hg,h=>by
  cases e with
  | exit i=>
   simp only [dn,exQ] at h ⊢;split
   ·rename_i e; rw [if_pos e] at h; obtain ⟨u,h1,h2⟩:=h; exact ⟨u,aK hg h1,h2⟩
   ·rename_i e; rw [if_neg e] at h; exact po (k:=k) hg h
  | _=>exact po (k:=k) hg h
theorem mG {c:Ct}{t:AS}(hg:cB C s t)(h:M C Q ⟨c,k,t⟩):M C Q ⟨c,k,s⟩:=by
 cases c with
 | cd c=>exact rn hg h
 | op ops r=>exact yw hg h
 | ex e=>exact po hg h
theorem kX {c:Code}{σ:Type}(A:σ->Prop)(mk:σ->AS)(h2:∀ v,A v->M C Q ⟨.ex .normal,k,mk v⟩)(h1:M C Q ⟨.cd c,.jo (λ t=>∃ v,A v/\t=mk v)::k,s⟩):M C Q ⟨.cd c,k,s⟩ :=
 BD _ (λ _s' ⟨_,hg,v,hv,e⟩=>po hg (e ▸ h2 v hv)) h1
theorem kEx (id:Nat){c:Code}{σ:Type}(A:σ->Prop)(mk:σ->AS)(h2:∀ v,A v->M C Q ⟨.ex (.exit id),k,mk v⟩)(h1:M C Q ⟨.cd c,.je id (λ t=>∃ v,A v/\t=mk v)::k,s⟩):M C Q ⟨.cd c,k,s⟩ :=
 BC id _ (λ _s' ⟨_,hg,v,hv,e⟩=>po hg (e ▸ h2 v hv)) h1
theorem eX {σ:Type}{A:σ->Prop}{mk:σ->AS}(v:σ)(hv:A v)(hg:cB C s (mk v)):M C Q ⟨.ex .normal,.jo (λ t=>∃ v,A v/\t=mk v)::k,s⟩:=⟨mk v,hg,v,hv,rfl⟩
theorem eXi {σ:Type}{A:σ->Prop}{mk:σ->AS}{id:Nat}(v:σ)(hv:A v)(hg:cB C s (mk v)):M C Q ⟨.ex (.exit id),.je id (λ t=>∃ v,A v/\t=mk v)::k,s⟩:=by
 show dn C Q (.je id (λ t=>∃ v,A v/\t=mk v)::k) (.exit id) s;simp only [dn,exQ,if_true]; exact ⟨mk v,hg,v,hv,rfl⟩
theorem lG {c:Code}{σ O0z:Type}(mk:σ->AS)(lp:Nat->σ->Option O0z)(hz:∀ q,lp 0 q=none){o:O0z}{n:Nat}(q0:σ)(h0:lp n q0=some o)(hle:cB C s (mk q0))
  (round:∀ m q,lp (m+1) q=some o->M C Q ⟨.cd c,.jo (λ t=>∃ q',lp m q'=some o/\t=mk q')::k,mk q⟩):M C Q ⟨.cd (.loop c),k,s⟩:=by
 refine zM mk lp hz q0 h0 hle λ m q hq=>pd (λ e s' h=>?_) (round m q hq)
 cases e with
 | normal=>obtain ⟨u,hg,q',h1,rfl⟩:=h; exact ⟨q',h1,hg⟩
 | _=>exact h
def lks (sl:List (Nat×AV)):List Nat->Option (List AV)
 | []=>some []
 | t::r=>(match look sl t with
  | some x=>(match lks sl r with|some l=>some (x::l)|none=>none)
  | none=>none)
def stB (b:Bool)(sl:List (Nat×AV)):List Nat->List (Nat×AV)|[]=>sl|t::r=>(t,.p (.val (.bool b)))::stB b sl r
theorem AN {b:Bool}:∀ {T:List Nat},lks sl T=some (T.map λ _=>.p (.val (.bool b)))->∀ j x,look (stB b sl T) j=some x->look sl j=some x
 | [],_,j,x,h=>h
 | t::r,hT,j,x,h=>by
  unfold lks at hT;split at hT
  ·rename_i y hy;split at hT
   ·rename_i l hl;simp only [aq,bt,List.cons.injEq] at hT;simp only [stB,a6] at h;split at h
    ·rename_i e; subst e; cases h; rw [hy,hT.1]
    ·exact AN (hl.trans (congrArg some hT.2)) j x h
   ·cases hT
  ·cases hT
theorem qu {b:Bool}{T:List Nat}(hT:lks sl T=some (T.map λ _=>.p (.val (.bool b)))):cB C ⟨sl,ob⟩ ⟨stB b sl T,ob⟩ :=
 cb ⟨λ j x hx=>by
  have:=AN hT j x hx
  simp only [AS.get,this,n8]; exact AV.sub_refl x,λ id cs h=>⟨cs,h,ld _,λ i c d hc hd=>by rw [hc] at hd; cases hd; exact AV.sub_refl _⟩⟩
theorem fD {c:Ct}{p:Prop} [Decidable p] {α:Type}{a b:Option α}{v:α}(T:List Nat)(h:(if p then a else b)=some v)(hT:lks sl T=some (T.map λ _=>.p (.val (.bool (decide p)))))
  (h1:p->a=some v->M C Q ⟨c,k,⟨stB true sl T,ob⟩⟩) (h2:¬p->b=some v->M C Q ⟨c,k,⟨stB false sl T,ob⟩⟩):M C Q ⟨c,k,⟨sl,ob⟩⟩:=by
 by_cases hp:p
 ·rw [decide_eq_true hp] at hT; exact mG (qu hT) (h1 hp (Ap hp h))
 ·rw [decide_eq_false hp] at hT; exact mG (qu hT) (h2 hp (if_f hp h))
theorem fN {c:Ct}{p:Prop} [Decidable p] {α:Type}{a b:Option α}{v:α}(T:List Nat)(h:(if p then a else b)=some v)(hT:lks sl T=some (T.map λ _=>.p (.val (.bool (!decide p)))))
  (h1:p->a=some v->M C Q ⟨c,k,⟨stB false sl T,ob⟩⟩) (h2:¬p->b=some v->M C Q ⟨c,k,⟨stB true sl T,ob⟩⟩):M C Q ⟨c,k,⟨sl,ob⟩⟩:=by
 by_cases hp:p
 ·rw [decide_eq_true hp] at hT; exact mG (qu hT) (h1 hp (Ap hp h))
 ·rw [decide_eq_false hp] at hT; exact mG (qu hT) (h2 hp (if_f hp h))
theorem fB {c:Ct}{p:Bool}{α:Type}{a b:Option α}{v:α}(T:List Nat)(h:(if p=true then a else b)=some v)(hT:lks sl T=some (T.map λ _=>.p (.val (.bool p))))
  (h1:p=true->a=some v->M C Q ⟨c,k,⟨stB true sl T,ob⟩⟩) (h2:p=false->b=some v->M C Q ⟨c,k,⟨stB false sl T,ob⟩⟩):M C Q ⟨c,k,⟨sl,ob⟩⟩:=by
 cases p
 ·exact mG (qu hT) (h2 Z (Bl Z h))
 ·exact mG (qu hT) (h1 Z (Ap Z h))
theorem lT {c:Ct}{q b:Bool}(T:List Nat)(hb:q=b)(hT:lks sl T=some (T.map λ _=>.p (.val (.bool q))))(h:M C Q ⟨c,k,⟨stB b sl T,ob⟩⟩):M C Q ⟨c,k,⟨sl,ob⟩⟩:=by
 subst hb; exact mG (qu hT) h
def gF (ops:Array Oper)(o:Oper)(sl:List (Nat×AV)):Bool:=match o.guard with
 | none=>true
 | some _=>(match gdF ops o sl with
  | some (true,.p (.val (.bool true)))=>true
  | some (false,.p (.val (.bool false)))=>true
  | _=>false)
theorem mO (hg:gF ops o sl=true)(h:ba C o (λ s'=>M C Q ⟨.op ops r,k,s'⟩) ⟨sl,ob⟩):M C Q ⟨.op ops (o::r),k,⟨sl,ob⟩⟩:=by
 unfold gF at hg;split at hg
 ·rename_i hn; exact bV hn h
 ·generalize hgd:gdF ops o sl=G0z at hg;split at hg
  ·exact gy Z hgd h
  ·exact gy Z hgd h
  ·cases hg
theorem bd {α β:Type}{g:Prop}{p:Option α}{f:α->Option β}{v:β}(h:p.bind f=some v)(H:∀ x,p=some x->f x=some v->g):g:=by
 obtain ⟨x,h1,h2⟩:=Ds h;exact H x h1 h2
theorem cc' {α:Type}{g:Prop}{p:Prop} [Decidable p] {a:Option α}{v:α}(h:ck p a=some v)(H:p->a=some v->g):g:=by
 obtain ⟨h1,h2⟩:=nH h;exact H h1 h2
def biF (C:Cx)(ops:Array Oper)(o:Oper)(sl:List (Nat×AV)):Option (Nat×BinOp×AV×AV):=match gF ops o sl with
 | true=>(match dsF C.n o with
  | some d=>(match o.op with
   | .binOp op _ x y _=>(match evo sl x with
    | some X=>(match evo sl y with
     | some Y0z=>some (d,op,X,Y0z)
     | none=>none)
    | none=>none)
   | _=>none)
  | none=>none)
 | false=>none
theorem xP {op:BinOp}{X Y0z:AV}(h:biF C ops o sl=some (d,op,X,Y0z)):gF ops o sl=true/\o.dst=some d/\Nat.blt d C.n=true/\∃ t x y t',o.op=.binOp op t x y t'/\evo sl x=some X/\evo sl y=some Y0z:=by
 unfold biF at h;split at h
 ·rename_i hg;split at h
  ·rename_i e hd;split at h
   ·rename_i op' t x y t' ho;split at h
    ·rename_i X' hx;split at h
     ·rename_i Y' hy
      cases h
      exact ⟨hg,(kH hd).1,(kH hd).2,t,x,y,t',ho,hx,hy⟩
     ·cases h
    ·cases h
   ·cases h
  ·cases h
 ·cases h
theorem oA {α:Type}{a:Option α}{v:α}{op:BinOp}{x y c:Int}(h:ck (inR c) a=some v)(hb:biF C ops o sl=some (d,op,.p (.val (.int .i64 x)),.p (.val (.int .i64 y))))(hc:arI op x y=some c)
  (H:inR c->a=some v->M C Q ⟨.op ops r,k,⟨(d,.p (eI c))::sl,ob⟩⟩):M C Q ⟨.op ops (o::r),k,⟨sl,ob⟩⟩:=by
 obtain ⟨hg,hd,hn,t,X,Y0z,t',ho,hx,hy⟩:=xP hb;obtain ⟨h1,h2⟩:=nH h;exact mO hg (ec ho hd hn hx hy hc h1 (H h1 h2))
theorem oS {op:BinOp}{x y:Bk}{c:Bool}(hb:biF C ops o sl=some (d,op,.p (.val (.string (str x))),.p (.val (.string (str y)))))(hc:B5 op x y=some c)
  (H:M C Q ⟨.op ops r,k,⟨(d,.p (eB c))::sl,ob⟩⟩):M C Q ⟨.op ops (o::r),k,⟨sl,ob⟩⟩:=by
 obtain ⟨hg,hd,hn,t,X,Y0z,t',ho,hx,hy⟩:=xP hb;exact mO hg (jv ho hd hn hx hy hc H)
theorem oC {α:Type}{a:Option α}{v:α}{x y:Bk}(h:ck (x.length+y.length<=9223372036854775807) a=some v)(hb:biF C ops o sl=some (d,.add,.p (.val (.string (str x))),.p (.val (.string (str y)))))
  (H:x.length+y.length<=9223372036854775807->a=some v->M C Q ⟨.op ops r,k,⟨(d,.p (eS (x++y)))::sl,ob⟩⟩):M C Q ⟨.op ops (o::r),k,⟨sl,ob⟩⟩:=by
 obtain ⟨hg,hd,hn,t,X,Y0z,t',ho,hx,hy⟩:=xP hb;obtain ⟨h1,h2⟩:=nH h;exact mO hg (ri ho hd hn hx hy h1 (H h1 h2))
def lnF (C:Cx)(ops:Array Oper)(o:Oper)(sl:List (Nat×AV)):Option (Nat×Bool×AV):=match gF ops o sl with
 | true=>(match dsF C.n o with
  | some d=>(match o.op with
   | .call ⟨.builtin .len,⟨[x]⟩,⟨[t]⟩⟩=>(match look C.tt t with
    | some i=>(match evo sl x with
     | some X=>(match i.k with
      | .string=>some (d,true,X)
      | .slice _=>some (d,false,X)
      | _=>none)
     | none=>none)
    | none=>none)
   | _=>none)
  | none=>none)
 | false=>none
theorem oLs {x:Bk}(hb:lnF C ops o sl=some (d,true,.p (.val (.string (str x)))))(H:M C Q ⟨.op ops r,k,⟨(d,.p (eI (x.length:Int)))::sl,ob⟩⟩):M C Q ⟨.op ops (o::r),k,⟨sl,ob⟩⟩:=by
 unfold lnF at hb;split at hb
 ·rename_i hg;split at hb
  ·rename_i e hd;split at hb
   ·rename_i z t ho;split at hb
    ·rename_i i hi;split at hb
     ·rename_i X hx;split at hb
      ·rename_i hk; cases hb; exact mO hg (re ho (kH hd).1 (kH hd).2 hi hk hx H)
      ·cases hb
      ·cases hb
     ·cases hb
    ·cases hb
   ·cases hb
  ·cases hb
 ·cases hb
theorem oLl {α:Type}{f:α->PV}{l:List α}{X:AV}(hb:lnF C ops o sl=some (d,false,X))(hX:X.elems? = some (l.map f))(H:M C Q ⟨.op ops r,k,⟨(d,.p (eI (l.length:Int)))::sl,ob⟩⟩):M C Q ⟨.op ops (o::r),k,⟨sl,ob⟩⟩:=by
 unfold lnF at hb;split at hb
 ·rename_i hg;split at hb
  ·rename_i e hd;split at hb
   ·rename_i z t ho;split at hb
    ·rename_i i hi;split at hb
     ·rename_i X' hx;split at hb
      ·cases hb
      ·rename_i hk; cases hb; exact mO hg (j7 ho (kH hd).1 (kH hd).2 hi hk hx hX H)
      ·cases hb
     ·cases hb
    ·cases hb
   ·cases hb
  ·cases hb
 ·cases hb
def ixF (C:Cx)(ops:Array Oper)(o:Oper)(sl:List (Nat×AV)):Option (Nat×AV×AV):=match gF ops o sl with
 | true=>(match dsF C.n o with
  | some d=>(match o.op with
   | .index t x y=>(match look C.tt t with
    | some i=>(match i.k with
     | .string=>(match evo sl x with
      | some X=>(match evo sl y with|some Y0z=>some (d,X,Y0z)|none=>none)
      | none=>none)
     | _=>none)
    | none=>none)
   | _=>none)
  | none=>none)
 | false=>none
theorem oI {α:Type}{a:Option α}{v:α}{x:Bk}{i:IntKind}{j:Int}(h:ck ((0:Int)<=j/\j<(x.length:Int)) a=some v)(hb:ixF C ops o sl=some (d,.p (.val (.string (str x))),.p (.val (.int i j))))
  (H:(0:Int)<=j/\j<(x.length:Int)->a=some v->M C Q ⟨.op ops r,k,⟨(d,.p (eK .u8 (byt x j)))::sl,ob⟩⟩):M C Q ⟨.op ops (o::r),k,⟨sl,ob⟩⟩:=by
 obtain ⟨h1,h2⟩:=nH h;unfold ixF at hb;split at hb
 ·rename_i hg;split at hb
  ·rename_i e hd;split at hb
   ·rename_i t X Y0z ho;split at hb
    ·rename_i i hi;split at hb
     ·rename_i hk;split at hb
      ·rename_i hx;split at hb
       ·rename_i hy; cases hb; exact mO hg (gA ho (kH hd).1 (kH hd).2 hi hk hx hy h1 (H h1 h2))
       ·cases hb
      ·cases hb
     ·cases hb
    ·cases hb
   ·cases hb
  ·cases hb
 ·cases hb
def slF (C:Cx)(ops:Array Oper)(o:Oper)(sl:List (Nat×AV)):Option (Nat×AV×Option Operand×Option Operand):=match gF ops o sl with
 | true=>(match dsF C.n o with
  | some d=>(match o.op with
   | .slice t x lo hi none=>(match look C.tt t with
    | some i=>(match i.k with
     | .string=>(match evo sl x with
      | some X=>some (d,X,lo,hi)
      | none=>none)
     | _=>none)
    | none=>none)
   | _=>none)
  | none=>none)
 | false=>none
theorem oP {α:Type}{a:Option α}{v:α}{x:Bk}{i j:Int}{lo hi:Option Operand}(h:ck ((0:Int)<=i/\i<=j/\j<=(x.length:Int)) a=some v)(hb:slF C ops o sl=some (d,.p (.val (.string (str x))),lo,hi))(hlo:loI sl lo=some i)(hhi:hiI sl (x.length:Int) hi=some j)
  (H:(0:Int)<=i/\i<=j/\j<=(x.length:Int)->a=some v->M C Q ⟨.op ops r,k,⟨(d,.p (eS (sub x i j)))::sl,ob⟩⟩):M C Q ⟨.op ops (o::r),k,⟨sl,ob⟩⟩:=by
 obtain ⟨h1,h2⟩:=nH h;unfold slF at hb;split at hb
 ·rename_i hg;split at hb
  ·rename_i e hd;split at hb
   ·rename_i t X lo' hi' ho;split at hb
    ·rename_i i hi;split at hb
     ·rename_i hk;split at hb
      ·rename_i hx
       cases hb; exact mO hg (dZ ho (kH hd).1 (kH hd).2 hi hk hx hlo hhi h1 (H h1 h2))
      ·cases hb
     ·cases hb
    ·cases hb
   ·cases hb
  ·cases hb
 ·cases hb
def atF (C:Cx)(ops:Array Oper)(o:Oper)(sl:List (Nat×AV)):Option (Nat×Nat×AV×AV):=match gF ops o sl with
 | true=>(match dsF C.n o with
  | some d=>(match o.op with
   | .indexAddr t x y=>(match look C.tt t with
    | some i=>(match i.k with
     | .slice e=>(match look C.tt e with
      | some ie=>(match evo sl x with
       | some X=>(match evo sl y with|some Y0z=>some (d,ie.size,X,Y0z)|none=>none)
       | none=>none)
      | none=>none)
     | _=>none)
    | none=>none)
   | _=>none)
  | none=>none)
 | false=>none
theorem oE {α β:Type} [Inhabited α] {a:Option β}{v:β}{f:α->PV}{l:List α}{cs:α->List PV}{X:AV}{sz:Nat}{i:IntKind}{j:Int}(h:ck ((0:Int)<=j/\j<(l.length:Int)) a=some v)(ER:∀ x,(f x).cells=cs x)(hb:atF C ops o sl=some (d,sz,X,.p (.val (.int i j))))(hX:X.elems? = some (l.map f))(EH:∀ x,(cs x).length=sz)
  (H:(0:Int)<=j/\j<(l.length:Int)->a=some v->M C Q ⟨.op ops r,k,⟨(d,.rptr (cs (lat l j)))::sl,ob⟩⟩):M C Q ⟨.op ops (o::r),k,⟨sl,ob⟩⟩:=by
 obtain ⟨h1,h2⟩:=nH h;unfold atF at hb;split at hb
 ·rename_i hg;split at hb
  ·rename_i e hd;split at hb
   ·rename_i t X Y0z ho;split at hb
    ·rename_i i hi;split at hb
     ·rename_i hk;split at hb
      ·rename_i ie hie;split at hb
       ·rename_i hx;split at hb
        ·rename_i hy; cases hb; exact mO hg (cT cs ho (kH hd).1 (kH hd).2 hi hk hie hx hX hy h1 ER EH (H h1 h2))
        ·cases hb
       ·cases hb
      ·cases hb
     ·cases hb
    ·cases hb
   ·cases hb
  ·cases hb
 ·cases hb
def clF (C:Cx)(ops:Array Oper)(o:Oper)(sl:List (Nat×AV)):Option (Nat×FuncId×List AV):=match gF ops o sl with
 | true=>(match dsF C.n o with
  | some d=>(match o.op with
   | .call ⟨.value (.func f),args,_⟩=>(match kx sl args.toList with
    | some l=>some (d,f,l)
    | none=>none)
   | _=>none)
  | none=>none)
 | false=>none
theorem oK {f:FuncId}{l:List AV}{q:List PV}{x x':AV}(hc:aF C.P f q (·=x))(hb:clF C ops o sl=some (d,f,l))(hq:xq l q)(henter:∀ vs w,(callFunc f vs).run C.P w=.ok (.enter f vs) w)(hr:x.settle=some x')
  (H:M C Q ⟨.op ops r,k,⟨(d,x')::sl,ob⟩⟩):M C Q ⟨.op ops (o::r),k,⟨sl,ob⟩⟩:=by
 unfold clF at hb;split at hb
 ·rename_i hg;split at hb
  ·rename_i e hd;split at hb
   ·rename_i f' args ts ho;split at hb
    ·rename_i l' hl; cases hb; exact mO hg (bc hc ho (kH hd).1 (kH hd).2 hl hq henter hr H)
    ·cases hb
   ·cases hb
  ·cases hb
 ·cases hb
def tO:Operand->List Nat->List Nat|.tmp t,l=>t::l|_,l=>l
def tOs:List Operand->List Nat|[]=>[]|x::r=>tO x (tOs r)
def tms (o:Oper):List Nat:=match o.op with
 | .move x=>tO x []
 | .assign x=>tO x []
 | .pick c x y=>tO c (tO x (tO y []))
 | .binOp _ _ x y _=>tO x (tO y [])
 | .unOp _ _ x=>tO x []
 | .fieldAddr _ x _=>tO x []
 | .load _ x=>tO x []
 | .nilCheck x=>tO x []
 | .extract x _=>tO x []
 | .field _ x _=>tO x []
 | .convert _ _ x=>tO x []
 | .build _ parts=>tOs (parts.toList.map (·.2))
 | .call c=>tOs c.args.toList
 | _=>[]
def gdT (ops:Array Oper)(o:Oper)(l:List Nat):List Nat:=match o.guard with
 | some (j,_)=>(match (ops.toList[j]?).bind (·.dst) with
  | some t=>t::l
  | none=>l)
 | none=>l
def knL (base:List (Nat×AV))(o:Oper)(rev:Rev):List Nat->List (Nat×AV)
 | []=>[]
 | i::r=>(match knX base o rev i with
  | some x=>(i,x)::knL base o rev r
  | none=>knL base o rev r)
theorem yy {base:List (Nat×AV)}{rev:Rev}:∀ {l:List Nat},zP base o rev (knL base o rev l)
 | []=>trivial
 | i::r=>by
  unfold knL;split
  ·rename_i x hx; exact ⟨BK hx,yy⟩
  ·exact yy
theorem mA {kn:List (Nat×AV)}(hs:∀ i x,look kn i=some x->look sl i=some x)(x:Operand):evo kn x=none\/evo kn x=evo sl x:=by
 cases h:evo kn x with
 | none=>exact .inl Z
 | some y=>exact .inr (jJ hs h).symm
theorem vw {kn:List (Nat×AV)}(hs:∀ i x,look kn i=some x->look sl i=some x):∀ {l:List (Nat×Operand)} {ps:List (Nat×AV)},fZ kn l=some ps->fZ sl l=some ps
 | [],ps,h=>h
 | (i,x)::r,ps,h=>by
  unfold fZ at h ⊢;split at h
  ·rename_i y l hy hl; cases h; rw [jJ hs hy,vw hs hl]
  ·cases h
theorem Ak {kn:List (Nat×AV)}{y:AV}(hs:∀ i x,look kn i=some x->look sl i=some x)(h:opV C o kn ob=some y):opV C o sl ob=some y:=by
 unfold opV at h ⊢;split at h
 ·exact jJ hs h
 ·exact jJ hs h
 ·rename_i c x y _;rcases mA hs c with e|e
  ·rw [e] at h; cases h
  ·rw [<- e];generalize evo kn c=z at h;unfold pkP at h ⊢;split at h
   ·exact jJ hs h
   ·exact jJ hs h
   ·cases h
 ·rename_i op t x y _ _;rcases mA hs x with e|e
  ·rw [e] at h; cases h
  ·rw [<- e];rcases mA hs y with e|e
   ·rw [e] at h;unfold bnP at h;split at h
    ·rename_i h2; cases h2
    ·rename_i h2; cases h2
    ·cases h
   ·rw [<- e]; exact h
 ·rename_i x _; rcases mA hs x with e|e
  ·rw [e] at h; cases h
  ·rw [<- e]; exact h
 ·rename_i t x f _; rcases mA hs x with e|e
  ·rw [e] at h; unfold faP at h; (repeat' split at h) <;> first|contradiction|cases h
  ·rw [<- e]; exact h
 ·rename_i t x _; rcases mA hs x with e|e
  ·rw [e] at h; unfold ldP at h; split at h <;> cases h
  ·rw [<- e]; exact h
 ·rename_i x _; rcases mA hs x with e|e
  ·rw [e] at h; cases h
  ·rw [<- e]; exact h
 ·rename_i x n _; rcases mA hs x with e|e
  ·rw [e] at h; cases h
  ·rw [<- e]; exact h
 ·rename_i t x f _; rcases mA hs x with e|e
  ·rw [e] at h; unfold flP at h; (repeat' split at h) <;> first|contradiction|cases h
  ·rw [<- e]; exact h
 ·rename_i s t x _; rcases mA hs x with e|e
  ·rw [e] at h; unfold cvP at h; (repeat' split at h) <;> first|contradiction|cases h
  ·rw [<- e]; exact h
 ·rename_i t parts _
  cases e:fZ kn parts.toList with
  | none=>rw [e] at h; unfold buP at h; (repeat' split at h) <;> first|contradiction|cases h
  | some ps=>rw [e] at h; rw [vw hs e]; exact h
 ·rename_i c _;unfold laP at h ⊢;split at h
  ·rename_i x t _;rcases mA hs x with e|e
   ·rw [e] at h; (repeat' split at h) <;> first|contradiction|cases h
   ·rw [<- e]; exact h
  ·cases h
 ·cases h
def oV (C:Cx)(ops:Array Oper)(o:Oper)(sl:List (Nat×AV))(ob:List (Nat×List AV)):Option AV:=match o.guard with
 | none=>opV C o sl ob
 | some _=>(match gdF ops o sl with
  | some (true,.p (.val (.bool true)))=>opV C o sl ob
  | some (true,.p (.val (.bool false)))=>some (.p (.val Go.undef))
  | some (false,.p (.val (.bool true)))=>some (.p (.val Go.undef))
  | some (false,.p (.val (.bool false)))=>opV C o sl ob
  | some (_,.p (.val v))=>(match isU v with|true=>some (.p (.val Go.undef))|false=>none)
  | _=>none)
def drF (C:Cx)(ops:Array Oper)(base:List (Nat×AV))(ob:List (Nat×List AV))(o:Oper)(rev:Rev):Option (Nat×AV):=match nwF base rev o with
 | some d=>(match Nat.blt d C.n with
  | true=>(match oV C ops o (knL base o rev (gdT ops o (tms o))) ob with
   | some y=>some (d,y)
   | none=>none)
  | false=>none)
 | none=>none
theorem BP {kn:List (Nat×AV)}{y:AV}(h:oV C ops o kn ob=some y)(hd:o.dst=some d)(hn:Nat.blt d C.n=true):sf C ops ob o kn d y:=by
 intro sl hs K hK;unfold oV at h;split at h
 ·rename_i hg; exact ab hg (tS (Ak hs h) hd hn hK)
 ·generalize hgd:gdF ops o kn=G0z at h
  have yes:∀ {w:Bool},gdF ops o kn=some (w,.p (.val (.bool w)))->opV C o kn ob=some y->One C ops o K ⟨sl,ob⟩:=λ hgd h=>by
   obtain ⟨j,t,hg,hj,hv⟩:=ru hgd;exact bh (tS (Ak hs h) hd hn hK) hg hj (hs _ _ hv) rfl
  have no:∀ {w b:Bool},gdF ops o kn=some (w,.p (.val (.bool b)))->b=(!w)->y=.p (.val Go.undef)->One C ops o K ⟨sl,ob⟩:=λ hgd hb h=>by
   subst h;obtain ⟨j,t,hg,hj,hv⟩:=ru hgd;exact Au hg hj (hs _ _ hv) hb hd hn hK
  split at h
  ·exact yes hgd h
  ·cases h; exact no hgd Z Z
  ·cases h; exact no hgd Z Z
  ·exact yes hgd h
  ·split at h
   ·rename_i hu;have:=AM hu; subst this
    cases h
    obtain ⟨j,t,hg,hj,hv⟩:=ru hgd;exact wK hg hj (hs _ _ hv) hd hn hK
   ·cases h
  ·cases h
def drw (C:Cx)(ops:Array Oper)(base:List (Nat×AV))(ob:List (Nat×List AV)):Nat->List Oper->Nat->Rev->Option (List Oper×Nat×Rev)
 | 0,l,i,rev=>some (l,i,rev)
 | n+1,o::l,i,rev=>(match drF C ops base ob o rev with
  | some (d,y)=>drw C ops base ob n l (i+1) ((i,d,y)::rev)
  | none=>none)
 | _+1,[],_,_=>none
theorem dR {base:List (Nat×AV)}:∀ (n:Nat) {l l':List Oper} {i i':Nat} {rev rev':Rev},drw C ops base ob n l i rev=some (l',i',rev')->DQ C ops base ob K l' i' rev'->DQ C ops base ob K l i rev
 | 0,l,l',i,i',rev,rev',h,hK=>by cases h; exact hK
 | n+1,[],l',i,i',rev,rev',h,hK=>by cases h
 | n+1,o::l,l',i,i',rev,rev',h,hK=>by
  unfold drw at h;split at h
  ·rename_i d y hd;unfold drF at hd;split at hd
   ·rename_i e he;split at hd
    ·rename_i hn;split at hd
     ·rename_i z hz
      cases hd
      exact yJ y _ yy (BP hz (qq he).1 hn) (qq he).1 (qq he).2.1 (qq he).2.2 (dR n h hK)
     ·cases hd
    ·cases hd
   ·cases hd
  ·cases h
theorem mD (base:List (Nat×AV)){id:Nat}(hm:C.P.follows .mixedOrders=true)(hb:fy sl base)(hord:(ops.toList.zipIdx.all λ p=>p.1.after.toList.all λ e=>!(Region.binds .any e)||Nat.blt e.on p.2)=true)
  (h:DQ C ops base ob (λ s'=>M C Q ⟨.ex .normal,k,s'⟩) ops.toList 0 []):M C Q ⟨.cd (.region id ops true),k,⟨sl,ob⟩⟩:=zC base hm hb hord h
def CM:Rev->List (Nat×AV)->Option (List (Nat×AV))
 | [],b=>some b
 | (_,p)::r,b=>(match CM r b with|some l=>some (p::l)|none=>none)
theorem zh:∀ {rev:Rev} {b l:List (Nat×AV)},CM rev b=some l->l=pu rev++b
 | [],b,l,h=>by cases h; rfl
 | (i,p)::r,b,l,h=>by
  unfold CM at h;split at h
  ·rename_i m hm; cases h; rw [zh hm]; rfl
  ·cases h
theorem dE {base l:List (Nat×AV)}{i:Nat}{rev:Rev}(h:CM rev base=some l)(hM:M C Q ⟨.ex .normal,k,⟨l,ob⟩⟩):DQ C ops base ob (λ s'=>M C Q ⟨.ex .normal,k,s'⟩) [] i rev :=
 DO (by rw [<- zh h]; exact hM)
theorem dL {base:List (Nat×AV)}{l:List Oper}{i:Nat}{rev:Rev}{q b:Bool}(hb:q=b)(h:drF C ops base ob o rev=some (d,.p (.val (.bool q))))(hK:DQ C ops base ob K l (i+1) ((i,d,.p (.val (.bool b)))::rev)):DQ C ops base ob K (o::l) i rev:=by
 subst hb;refine dR 1 (l':=l) (i':=i+1) (rev':=(i,d,.p (.val (.bool q)))::rev) ?_ hK;simp only [drw,h]
theorem mS (S:gb){id:Nat}(hm:C.P.follows .mixedOrders=true)(EK:S.imp.length=S.m)(hob:S.obj 0=ob)(hb:fy sl (S.bas 0))
  (hbas:∀ j,j<S.m->fy (trL (S.D j) (S.bas j)) (S.bas (j+1))) (hnd:nodupB S.imp=true) (hin:S.imp.all (λ i=>Nat.blt i ops.size)=true) (hch:chainB ops S.imp=true)
  (hord:(ops.toList.zipIdx.all λ p=>p.1.after.toList.all λ e=>!(Region.binds .any e)||Nat.blt e.on p.2)=true) (h:DS C ops S (λ rev=>M C Q ⟨.ex .normal,k,⟨ed rev S.m++S.bas S.m,S.obj S.m⟩⟩) ops.toList 0 []):M C Q ⟨.cd (.region id ops true),k,⟨sl,ob⟩⟩ :=
 zN S hm EK hob hb hbas hnd hin hch hord h
def lkO (ob:List (Nat×List AV)):List Nat->Option (List (List AV))
 | []=>some []
 | t::r=>(match look ob t with
  | some x=>(match lkO ob r with|some l=>some (x::l)|none=>none)
  | none=>none)
theorem wj {sl:List (Nat×AV)}:∀ {q:List (Nat×AV)},lks sl (q.map (·.1))=some (q.map (·.2))->∀ j x,look q j=some x->look sl j=some x
 | [],_,j,x,h=>by cases h
 | (i,y)::r,hT,j,x,h=>by
  simp only [aq] at hT;unfold lks at hT;split at hT
  ·rename_i z hz;split at hT
   ·rename_i l hl;simp only [bt,List.cons.injEq] at hT;rw [a6] at h;split at h
    ·rename_i e; subst e; cases h; rw [hz,hT.1]
    ·exact wj (hl.trans (congrArg some hT.2)) j x h
   ·cases hT
  ·cases hT
theorem Ad {ob:List (Nat×List AV)}:∀ {q:List (Nat×List AV)},lkO ob (q.map (·.1))=some (q.map (·.2))->∀ j x,look q j=some x->look ob j=some x
 | [],_,j,x,h=>by cases h
 | (i,y)::r,hT,j,x,h=>by
  simp only [aq] at hT;unfold lkO at hT;split at hT
  ·rename_i z hz;split at hT
   ·rename_i l hl;simp only [bt,List.cons.injEq] at hT;rw [a6] at h;split at h
    ·rename_i e; subst e; cases h; rw [hz,hT.1]
    ·exact Ad (hl.trans (congrArg some hT.2)) j x h
   ·cases hT
  ·cases hT
def lkE (a b:List (Nat×List AV)):List (Nat×List AV)->Prop|[]=>True|(i,_)::r=>look b i=look a i/\lkE a b r
theorem xO {a b:List (Nat×List AV)}:∀ {l:List (Nat×List AV)},lkE a b l->∀ i x,look l i=some x->look b i=look a i
 | [],_,i,x,h=>by cases h
 | (j,y)::r,⟨h1,h2⟩,i,x,h=>by
  rw [a6] at h;by_cases e:j=i
  ·subst e; exact h1
  ·rw [if_neg e] at h; exact xO h2 i x h
theorem AK {C:Cx}{ops:Array Oper}{S1 S2:gb}{k:Nat}{r1 r2:gw}{imp:List Nat}(h1:lks (ed r2 S2.m++S2.bas S2.m) ((ed r1 S1.m++S1.bas S1.m).map (·.1))=some ((ed r1 S1.m++S1.bas S1.m).map (·.2)))
  (h2:lkE (S1.obj S1.m) (S2.obj S2.m) (S1.obj S1.m)) (h3:rh imp r1 r2) :
  DS C ops S2 (λ rev2=>(⟨ed rev2 S2.m++S2.bas S2.m,S2.obj S2.m⟩:AS).le ⟨ed r1 S1.m++S1.bas S1.m,S1.obj S1.m⟩/\rh imp r1 rev2) [] k r2:=by
 refine ⟨⟨λ j x h=>?_,λ id cs h=>⟨cs,(xO h2 id cs h).trans h,ld _,λ i c d a b=>by rw [a] at b; cases b; exact AV.sub_refl _⟩⟩,h3⟩;have:=wj h1 j x h;unfold AS.get;rw [this];exact AV.sub_refl _
theorem mSS {C:Cx}{Q:Exit->AS->Prop}{k:List Fr}{ops:Array Oper}{sl:List (Nat×AV)}{ob:List (Nat×List AV)}(S1 S2:gb){id k1 k2:Nat}{r:List Nat}(hm:C.P.follows .mixedOrders=true)
  (hi1:S1.imp=k1::k2::r) (hi2:S2.imp=k2::k1::r) (hlen1:S1.imp.length=S1.m) (hlen2:S2.imp.length=S2.m) (hob1:S1.obj 0=ob) (hob2:S2.obj 0=ob) (hb:fy sl (S1.bas 0)) (hb2:S2.bas 0=S1.bas 0)
  (hbas1:∀ j,j<S1.m->fy (trL (S1.D j) (S1.bas j)) (S1.bas (j+1))) (hbas2:∀ j,j<S2.m->fy (trL (S2.D j) (S2.bas j)) (S2.bas (j+1)))
  (hnd:nodupB (k1::k2::r)=true) (hin:(k1::k2::r).all (λ i=>Nat.blt i ops.size)=true) (hch1:chainB ops (k1::r)=true) (hch2:chainB ops (k2::r)=true)
  (hord:(ops.toList.zipIdx.all λ p=>p.1.after.toList.all λ e=>!(Region.binds .any e)||Nat.blt e.on p.2)=true)
  (h:DS C ops S1 (λ rev1=>M C Q ⟨.ex .normal,k,⟨ed rev1 S1.m++S1.bas S1.m,S1.obj S1.m⟩⟩/\DS C ops S2 (λ rev2=>(⟨ed rev2 S2.m++S2.bas S2.m,S2.obj S2.m⟩:AS).le ⟨ed rev1 S1.m++S1.bas S1.m,S1.obj S1.m⟩/\rh (k1::k2::r) rev1 rev2) ops.toList 0 []) ops.toList 0 []) :
  M C Q ⟨.cd (.region id ops true),k,⟨sl,ob⟩⟩ :=
 yh S1 S2 hm hi1 hi2 hlen1 hlen2 hob1 hob2 hb hb2 hbas1 hbas2 hnd hin hch1 hch2 hord h
theorem gE {s t:AS}(h1:lks s.sl (t.sl.map (·.1))=some (t.sl.map (·.2)))(h2:lkO s.ob (t.ob.map (·.1))=some (t.ob.map (·.2))):cB C s t :=
 cb ⟨λ j x hx=>by
  have:=wj h1 j x hx
  simp only [AS.get,this,n8]; exact AV.sub_refl x,λ id cs h=>⟨cs,Ad h2 id cs h,ld _,λ i c d hc hd=>by rw [hc] at hd; cases hd; exact AV.sub_refl _⟩⟩
theorem mP {β:Type}{v0:β}{tt:List (Nat×TI)}{fn:Func}{c:Code}(mk:β->AV)(h:M C (λ e s=>∃ v,v=v0/\Ac tt fn (λ x=>x.sub (mk v)) e s) ⟨.cd c,[],s⟩):awp C c (Ac tt fn (λ x=>x.sub (mk v0))) s :=
 pd (λ e s h=>by obtain ⟨t,h1,v,rfl,h2⟩:=h; exact ⟨t,h1,h2⟩) h |> rL
theorem mQ {β:Type}{v v0:β}{tt:List (Nat×TI)}{fn:Func}{mk:β->AV}{l:List AV}(e:v=v0)(h:nC tt fn.results.toList s=some l)(hR:(rQ l).sub (mk v)):M C (λ e s=>∃ v,v=v0/\Ac tt fn (λ x=>x.sub (mk v)) e s) ⟨.ex .ret,[],s⟩ :=
 ⟨s,ay s,v,e,oG h hR⟩
theorem mPo {β:Type}{v0:β}{tt:List (Nat×TI)}{fn:Func}{ts ids:List Nat}{c:Code}(mk:β->AV)(mo:β->List (Nat×List AV))(h:M C (λ e s=>∃ v,v=v0/\uA C tt fn ts ids (mk v) (mo v) e s) ⟨.cd c,[],s⟩):awp C c (uA C tt fn ts ids (mk v0) (mo v0)) s :=
 pd (λ e s h=>by obtain ⟨t,h1,v,rfl,h2⟩:=h; exact ⟨t,h1,h2⟩) h |> rL
theorem mQo {β:Type}{v v0:β}{tt:List (Nat×TI)}{fn:Func}{ts ids:List Nat}{mk:β->AV}{mo:β->List (Nat×List AV)}{r1:AV}{Fa obs':List (Nat×List AV)}{t:AS}{l:List AV}(e:v=v0)(hg:cB C s t)(h1:nC tt fn.results.toList t=some l)(h2:(rQ l).mapA (mg ts)=some r1)
  (h3:iM t.ob ids=some Fa) (h4:iB (mg ts) Fa=some obs') (h5:r1.sub (mk v)) (h6:leO obs' (mo v)):M C (λ e s=>∃ v,v=v0/\uA C tt fn ts ids (mk v) (mo v) e s) ⟨.ex .ret,[],s⟩ :=
 ⟨s,ay s,v,e,qX hg h1 h2 h3 h4 h5 h6⟩
theorem xz {β:Type}{v v0:β}{tt:List (Nat×TI)}{fn:Func}{ts ids:List Nat}{mk:β->AV}{mo:β->List (Nat×List AV)}{r1:AV}{Fa obs':List (Nat×List AV)}{t:AS}{l:List AV}(e:v=v0)(hg:cB C s t)(h1:nC tt fn.results.toList t=some l)(h2:(rQ l).mapA (mg ts)=some r1)
  (h3:iM t.ob ids=some Fa) (h4:iB (mg ts) Fa=some obs') (h5:r1.sub (mk v)) (h6:leO obs' (mo v)):M C (λ e s=>∃ v,v=v0/\uA C tt fn ts ids (mk v) (mo v) e s) ⟨.ex .normal,[],s⟩ :=
 ⟨s,ay s,v,e,Cr hg h1 h2 h3 h4 h5 h6⟩
theorem kN {c:Code}{σ:Type}(w:σ)(mk:σ->AS)(h2:M C Q ⟨.ex .normal,k,mk w⟩)(h1:M C Q ⟨.cd c,.jo (λ t=>∃ v,w=v/\t=mk v)::k,s⟩):M C Q ⟨.cd c,k,s⟩ :=
 kX (λ v=>w=v) mk (λ _ e=>e ▸ h2) h1
theorem kE (id:Nat){c:Code}{σ:Type}(w:σ)(mk:σ->AS)(h2:M C Q ⟨.ex (.exit id),k,mk w⟩)(h1:M C Q ⟨.cd c,.je id (λ t=>∃ v,w=v/\t=mk v)::k,s⟩):M C Q ⟨.cd c,k,s⟩ :=
 kEx id (λ v=>w=v) mk (λ _ e=>e ▸ h2) h1
end
end Go.Ab
namespace Go.Ab
/- What holds no identity is not touched by the marks of a box or a new object. -/
mutual
theorem Cb {D:Nat->Bool}:∀ {x y:AV},AV.mapA (λ _=>none) x=some y->y=x->x.dem D=x
 | .undef,_,_,_=>rfl
 | .p _,_,_,_=>rfl
 | .vec ..,y,h,e=>by simp only [AV.mapA,bt] at h; subst h; cases e
 | .arr ..,_,h,_=>by simp only [AV.mapA] at h; cases h
 | .ptr ..,_,h,_=>by simp only [AV.mapA] at h; cases h
 | .bptr ..,_,h,_=>by simp only [AV.mapA] at h; cases h
 | .mp ..,_,h,_=>by simp only [AV.mapA] at h; cases h
 | .mpr ..,_,h,_=>by simp only [AV.mapA] at h; cases h
 | .stk ..,_,h,_=>by simp only [AV.mapA] at h; cases h
 | .sem ts R,y,h,e=>by
  cases ts with
  | nil=>rfl
  | cons t ts=>simp only [AV.mapA,Ag] at h; cases h
 | .it ..,_,h,_=>by simp only [AV.mapA] at h; cases h
 | .vecp ..,_,h,_=>by simp only [AV.mapA] at h; cases h
 | .elp ..,_,h,_=>by simp only [AV.mapA] at h; cases h
 | .rptr _,_,_,_=>rfl
 | .agg cs,y,h,e=>by
  subst e;simp only [AV.mapA] at h
  cases hl:AV.mapA.go (λ _=>none) cs with
  | none=>rw [hl] at h; cases h
  | some l=>rw [hl] at h; cases h; simp only [AV.dem]; exact congrArg _ (nT hl rfl)
 | .tuple cs,y,h,e=>by
  subst e;simp only [AV.mapA] at h
  cases hl:AV.mapA.go (λ _=>none) cs with
  | none=>rw [hl] at h; cases h
  | some l=>rw [hl] at h; cases h; simp only [AV.dem]; exact congrArg _ (nT hl rfl)
 | .func f cs,y,h,e=>by
  subst e;simp only [AV.mapA] at h
  cases hl:AV.mapA.go (λ _=>none) cs with
  | none=>rw [hl] at h; cases h
  | some l=>rw [hl] at h; cases h; simp only [AV.dem]; exact congrArg _ (nT hl rfl)
theorem nT {D:Nat->Bool}:∀ {l l':List AV},AV.mapA.go (λ _=>none) l=some l'->l'=l->jW D l=l
 | [],_,_,_=>rfl
 | x::r,l',h,e=>by
  subst e;simp only [AV.mapA.go] at h;split at h
  ·rename_i y z hy hz
   cases h
   simp only [jW,Cb hy rfl,nT hz rfl]
  ·cases h
end
theorem iL {C:List AV}(K:AV.mapA.go (λ _=>none) C=some C)(D:Nat->Bool):jW D C=C:=nT K Z
theorem gFn {C:Cx}{sl:List (Nat×AV)}{ob:List (Nat×List AV)}{f:Fn}{cs:List AV}(j:Nat)(cs':List AV)(h:look sl j=some (.func f cs))(hc:cs=cs'):cB C ⟨sl,ob⟩ ⟨(j,.func f cs')::sl,ob⟩ :=
 yq j h (hc ▸ AV.sub_refl _)
open Go.Proofs Go.RowKit Go
structure cS where
 Ew:Bk
def jG (b:cS):Option cS:=some b
def kS (b:cS):Option (Bk×cS):=ck (b.Ew.length<=9223372036854775807)<|some (b.Ew,b)
theorem C3:∃ j,Tryz.prog.info? 184=some j/\j.size=2:=by
 have h:(Tryz.prog.info? 184).map (·.size)=some 2:=by kernel_rfl
 obtain ⟨j,hj,hs⟩:=mv.1 h;exact ⟨j,hj,hs⟩
set_option maxRecDepth 100000 in
theorem tb (b:Nat)(w:World)(h0:w.cell? ⟨b,0,none⟩=some (.pointer (some ⟨b,0,none⟩))) :
  Calls Tryz.prog 166 #[.pointer (some ⟨b,0,none⟩)] w λ e w'=>e=.returned (.tuple #[])/\w'=w:=by
 obtain ⟨j,hj,_⟩:=C3
 go_enter Tryz.func166,Tryz.ntmps166
 go_wp2
 rw [Lib.run_neq_ptr_same w _ Tryz.underlying181 hj]
 go_wp2
 go_end0
 exact ⟨Z,Z⟩
set_option maxRecDepth 100000 in
theorem sJ (b:Nat)(w:World)(h0:w.cell? ⟨b,0,none⟩=some (.pointer none))(hsh:w.shape? b=some (184,2))(hfz:w.frozen? ⟨b,0,none⟩=false) :
  Calls Tryz.prog 166 #[.pointer (some ⟨b,0,none⟩)] w λ e w'=>e=.returned (.tuple #[])/\w'=w.setCell ⟨b,0,none⟩ (.pointer (some ⟨b,0,none⟩)):=by
 obtain ⟨j,hj,hjs⟩:=C3
 go_enter Tryz.func166,Tryz.ntmps166
 go_wp2
 rw [Lib.run_to_unsafe w ⟨b,0,none⟩ Tryz.underlying181 Tryz.underlying215 hj (by rw [hjs]; decide) hsh (Nat.zero_lt_succ 1)];simp only [Result.andThen];rw [Oper.upon_value]
 go_wp2
 rw [run_callFunc_extern Tryz.func192 (by kernel_rfl) (by kernel_rfl) (by kernel_rfl) (e:=Extern.AbiNoEscape.same) (by kernel_rfl)];rw [Lib.run_noEscape];simp only [Result.andThen];rw [Oper.upon_value]
 go_wp2
 rw [Lib.run_from_unsafe w ⟨b,0,none⟩ Tryz.underlying215 Tryz.underlying181 hj hsh (by kernel_rfl)];simp only [Result.andThen];rw [Oper.upon_value]
 go_wp2
 go_end0
 exact ⟨Z,Z⟩
structure zb (b:Nat)(w w':World):Prop where
 os:w'.os=w.os
 out:w'.output=w.output
 tape:w'.tape=w.tape
 size:w'.heap.size=w.heap.size
 other:∀ k,k≠b->w'.heap[k]? = w.heap[k]?
def back (i:Nat):Option Nat:=if i=900000 then some 2000000 else if i=1000000 then some 1000000 else none
def ghB (g:Gh):Gh:=⟨g.st,λ i=>if i=2000000 then g.ow 900000 else if M1<=i/\i<2*M1 then g.ow i else none⟩
theorem vG {g:Gh}{i b:Nat}(h:(ghB g).ow i=some b):(i=2000000/\g.ow 900000=some b)\/(M1<=i/\i<2*M1/\g.ow i=some b):=by
 simp only [ghB] at h;split at h
 ·exact .inl ⟨‹_›,h⟩
 ·split at h
  ·rename_i h1; exact .inr ⟨h1.1,h1.2,h⟩
  ·cases h
theorem wF {g:Gh}:∀ i j b,back i=some j->g.ow i=some b->(ghB g).ow j=some b:=by
 intro i j b h hb;unfold back at h;split at h
 ·cases h; subst_vars; simp only [ghB,if_true]; exact hb
 ·split at h
  ·cases h; subst_vars
   simp only [ghB];rw [if_neg (by decide),if_pos (by decide)]; exact hb
  ·cases h
theorem yO {w w':World}{g:Gh}{b:Nat}(hok:Ok0 w g.st)(hown:∀ i b,g.ow i=some b->b<w.heap.size/\i<2*M1)
  (hinj:∀ i j b,g.ow i=some b->g.ow j=some b->i=j) (hnst:∀ i b,M1<=i->g.ow i=some b->∀ o,¬ g.st b o)
  (hb:g.ow 1000000=some b) (h:zb b w w')
  (hsh:∀ (c:Array Value) (e:TypeId),w.heap[b]? = some (.cells c e (0,0))->∃ c':Array Value,w'.heap[b]? = some (.cells c' e (0,0))/\c'.size=c.size):nG w g w' (ghB g):=by
 have hbs:∀ o,¬ g.st b o:=hnst _ b (ld _) hb
 have EN:Ev w g.st w' g.st:=λ k o hk=>⟨hk,by
  have:k≠b:=λ e=>hbs o (e ▸ hk)
  simp only [World.cell?,h.other k this]⟩
 refine ⟨h.os,h.out,h.tape,by rw [h.size]; exact ld _,λ k hk hno=>h.other k (λ e=>hno 1000000 (e ▸ hb)),λ i k hi=>?_,λ i j k hi hj=>?_,λ k o hk=>by rw [h.size]; exact hok.lt k o hk,λ k hk _ o=>Iff.rfl,λ i h1 h2=>?_,λ i k c e h1 h2 h3=>?_,λ i k hi hk o=>hnst i k hi hk o,EN⟩
 ·rcases vG hi with ⟨_,h1⟩|⟨_,_,h1⟩
  ·exact ⟨by rw [h.size]; exact (hown _ _ h1).1,.inr ⟨_,h1⟩⟩
  ·exact ⟨by rw [h.size]; exact (hown _ _ h1).1,.inr ⟨_,h1⟩⟩
 ·rcases vG hi with ⟨e1,h1⟩|⟨a1,a2,h1⟩ <;> rcases vG hj with ⟨e2,h2⟩|⟨b1,b2,h2⟩
  ·omega
  ·have:=hinj _ _ _ h1 h2; unfold M1 at *; omega
  ·have:=hinj _ _ _ h1 h2; unfold M1 at *; omega
  ·exact hinj _ _ _ h1 h2
 ·simp only [ghB];rw [if_neg (by unfold M1 at *; omega),if_pos ⟨h1,h2⟩]
 ·by_cases e1:k=b
  ·subst e1; exact hsh c e h3
  ·exact ⟨c,(h.other k e1).trans h3,Z⟩
theorem D9 {w w':World}{g:Gh}{b:Nat}(hbs:∀ o,¬ g.st b o)(h:zb b w w')(hc:∃ c e,w.heap[b]? = some (.cells c e (0,0)))
  (hsh:∀ (c:Array Value) (e:TypeId),w.heap[b]? = some (.cells c e (0,0))->∃ c':Array Value,w'.heap[b]? = some (.cells c' e (0,0))/\c'.size=c.size):EvO (λ _=>false) w g w' g:=by
 refine ⟨λ k o hk=>⟨hk,?_⟩,λ _ _ _ h=>h,λ id k c e _ _ hk=>?_,λ _ _ _ _ _ h=>h,λ id k es k' _ _ hk=>(h.other k (λ e=>by subst e; obtain ⟨c,t,hc⟩:=hc; rw [hc] at hk; cases hk)).trans hk,λ _ _=>rfl,λ id k o _ _ ho=>h.other k (λ e=>hbs o (e ▸ ho))⟩
 ·have:k≠b:=λ e=>hbs o (e ▸ hk);simp only [World.cell?,h.other k this]
 ·by_cases e1:k=b
  ·subst e1; exact hsh c e hk
  ·exact ⟨c,(h.other k e1).trans hk,Z⟩
theorem BB {w:World}{g:Gh}{es:List PV}{vs:Array Value}{T ty:Nat}(EH:vs.size=1)
  (hargs:∀ (i:Nat) c v,[AV.ptr 1000000 0][i]? = some c->vs[i]? = some v->ARep w g c v)
  (hobs:∀ id cs,look [(1000000,[AV.bptr T 2 1000000,AV.vec 900000 1 ty es])] id=some cs->iZ w g id cs) :
  ∃ b p q,g.ow 1000000=some b/\vs=#[.pointer (some ⟨b,0,none⟩)]/\w.heap[b]? = some (.cells #[p,q] T (0,0))/\(∀ o,¬ g.st b o) /\
   (p=.pointer none\/p=.pointer (some ⟨b,0,none⟩))/\ARep w g (.vec 900000 1 ty es) q:=by
 obtain ⟨b,c,e,h1,h2,h3,h4,h5⟩:=hobs 1000000 _ rfl;obtain ⟨p,hp,hpr⟩:=h5 0 _ rfl;obtain ⟨q,hq,hqr⟩:=h5 1 _ rfl;have hv0:vs[0]? = some vs[0]:=Array.getElem?_eq_getElem O;have ha:=hargs 0 _ _ rfl hv0
 have hvs:vs=#[vs[0]]:=by
  apply Array.ext
  ·simp [EH]
  ·intro i h1 h2;have:i=0:=by omega
   subst this; rfl
 have hc:∀ c1:Array Value,c1=c->c1.size=2->c=#[p,q]:=by
  rintro c1 rfl h;apply Array.ext
  ·simp [h]
  ·intro i k1 k2
   match i,k2 with
   | 0,_=>rw [Array.getElem?_eq_getElem k1] at hp; simpa using hp
   | 1,_=>rw [Array.getElem?_eq_getElem k1] at hq; simpa using hq
 have hav:vs[0]=.pointer (some ⟨b,0,none⟩):=by
  generalize vs[0]=v at ha
  cases ha with
  | ptr how=>rw [h1] at how; cases how; rfl
 refine ⟨b,p,q,h1,by rw [hvs,hav],?_,h4,?_,hqr⟩
 ·cases hpr with
  | bptrn how hb ER=>rw [h1] at how; cases how; rw [h2] at hb; cases hb; rw [h2,hc _ rfl ER]
  | bptr how hb ER=>rw [h1] at how; cases how; rw [h2] at hb; cases hb; rw [h2,hc _ rfl ER]
 ·cases hpr with
  | bptrn how hb ER=>exact .inl Z
  | bptr how hb ER=>rw [h1] at how; cases how; exact .inr rfl
theorem ob_B {w':World}{g:Gh}{es:List PV}{T ty b:Nat}{p q:Value}(hb:g.ow 1000000=some b)(h4:∀ o,¬ g.st b o)(h:w'.heap[b]? = some (.cells #[p,q] T (0,0)))
  (hp:p=.pointer none\/p=.pointer (some ⟨b,0,none⟩)) (hq:ARep w' g (.vec 900000 1 ty es) q):iZ w' (ghB g) 1000000 [.bptr T 2 1000000,.vec 2000000 1 ty es]:=by
 have how:(ghB g).ow 1000000=some b:=wF 1000000 1000000 b Z hb;refine ⟨b,#[p,q],T,how,h,by simp,h4,λ i x hx=>?_⟩
 match i,hx with
 | 0,hx=>
  simp only [List.getElem?_cons_zero,bt] at hx; subst hx;refine ⟨p,rfl,?_⟩;rcases hp with rfl|rfl
  ·exact .bptrn how h Z
  ·exact .bptr how h Z
 | 1,hx=>
  simp only [List.getElem?_cons_succ,List.getElem?_cons_zero,bt] at hx; subst hx;exact ⟨q,rfl,kT (m:=back) (g:=g) (g':=ghB g) rfl wF hq rfl⟩
 | n+2,hx=>simp at hx
theorem lR (b_0:cS)(r:cS)(h0:jG b_0=some r):aU Tryz.prog 166 [.ptr 1000000 0] [(1000000,[.bptr 184 2 1000000,.vec 900000 1 (5+1) (b_0.Ew.map eU)])]
  (λ x y=>x=.tuple []/\y=[(1000000,[.bptr 184 2 1000000,.vec 2000000 1 (5+1) (r.Ew.map eU)])]):=by
 cases h0
 intro w g vs hok hown hinj hnst EH hargs hobs;obtain ⟨b,p,q,hb,rfl,hheap,hbs,hp,hq⟩:=BB EH hargs hobs;have hc0:w.cell? ⟨b,0,none⟩=some p:=by simp [World.cell?,hheap]
 rcases hp with rfl|rfl
 ·refine (sJ b w hc0 (by simp [World.shape?,hheap]) (by simp [World.frozen?,hheap])).mono ?_;rintro e w' ⟨rfl,rfl⟩;have hO:zb b w (w.setCell ⟨b,0,none⟩ (.pointer (some ⟨b,0,none⟩))):=⟨rfl,rfl,rfl,by simp [World.setCell],λ k hk=>Below.heap_setCell _ _ _ _ hk⟩
  have hheap':(w.setCell ⟨b,0,none⟩ (.pointer (some ⟨b,0,none⟩))).heap[b]? = some (.cells #[.pointer (some ⟨b,0,none⟩),q] 184 (0,0)):=by
   simp [World.setCell,Array.getElem?_modify,hheap]
  have hsh:∀ (c:Array Value) (e:TypeId),w.heap[b]? = some (.cells c e (0,0))->∃ c':Array Value,(w.setCell ⟨b,0,none⟩ (.pointer (some ⟨b,0,none⟩))).heap[b]? = some (.cells c' e (0,0))/\c'.size=c.size:=λ c e h=>by
   rw [hheap] at h; cases h; exact ⟨_,hheap',rfl⟩
  refine ⟨_,_,_,ghB g,Z,⟨Z,Z⟩,.tuple Z G,λ x hx=>?_,yO hok hown hinj hnst hb hO hsh⟩;simp only [List.mem_singleton] at hx; subst hx;exact ob_B hb hbs hheap' (.inr Z) (hq.mono (D9 hbs hO ⟨_,_,hheap⟩ hsh))
 ·refine (tb b w hc0).mono ?_;rintro e w' ⟨rfl,rfl⟩;have hO:zb b w' w':=⟨rfl,rfl,rfl,rfl,λ k hk=>rfl⟩
  refine ⟨_,_,_,ghB g,Z,⟨Z,Z⟩,.tuple Z G,λ x hx=>?_,yO hok hown hinj hnst hb hO (λ c e h=>⟨c,h,Z⟩)⟩;simp only [List.mem_singleton] at hx; subst hx;exact ob_B hb hbs hheap (.inr Z) hq
theorem wl:Tryz.prog.follows .mixedOrders=true:=by kernel_rfl
theorem qy (w:World):Below w.heap.size w w.drew:=Below.drew (Below.refl _ w)
set_option maxRecDepth 100000 in
theorem xY (b:Nat)(p:Value)(w:World)(hbk:w.heap[b]? = some (.cells #[p,.slice none 0 0] 184 (0,0))) :
  Calls Tryz.prog 142 #[.pointer (some ⟨b,0,none⟩)] w λ e w'=>e=.returned (.string ⟨#[]⟩)/\Below w.heap.size w w':=by
 have mixed:=wl;have hUS:∀ (W:World) (q:Option Addr),(Builtin.unsafeString_ #[201,3] 9 #[.pointer q,.int .i64 0]).run Tryz.prog W=.ok (.string .empty) W:=λ W q=>Lib.run_unsafeString_none W _ _ _ q
 have c1:w.drew.cell? ⟨b,1,none⟩=some (.slice none 0 0):=by
  have:w.drew.heap[b]? = some (.cells #[p,.slice none 0 0] 184 (0,0)):=hbk;rw [Lib.cell_of_heap this]; rfl
 have hSD:(Builtin.unsafeSliceData_ #[182] 201 #[.slice none 0 0]).run Tryz.prog w.drew=.ok (.pointer none) w.drew:=rfl
 go_enter Tryz.func142,Tryz.ntmps142
 go_wp2
 go_region_o
 all_goals (go_wp2; go_ret; exact ⟨Z,qy w⟩)
set_option maxRecDepth 100000 in
theorem xt (b g cap:Nat)(p:Value)(w:World)(hc0:cap≠0)(hbk:w.heap[b]? = some (.cells #[p,.slice (some ⟨g,0,none⟩) 0 cap] 184 (0,0))) :
  Calls Tryz.prog 142 #[.pointer (some ⟨b,0,none⟩)] w λ e w'=>e=.returned (.string ⟨#[]⟩)/\Below w.heap.size w w':=by
 have mixed:=wl;have hUS:∀ (W:World) (q:Option Addr),(Builtin.unsafeString_ #[201,3] 9 #[.pointer q,.int .i64 0]).run Tryz.prog W=.ok (.string .empty) W:=λ W q=>Lib.run_unsafeString_none W _ _ _ q
 have c1:w.drew.cell? ⟨b,1,none⟩=some (.slice (some ⟨g,0,none⟩) 0 cap):=by
  have:w.drew.heap[b]? = some (.cells #[p,.slice (some ⟨g,0,none⟩) 0 cap] 184 (0,0)):=hbk;rw [Lib.cell_of_heap this]; rfl
 have hSD:(Builtin.unsafeSliceData_ #[182] 201 #[.slice (some ⟨g,0,none⟩) 0 cap]).run Tryz.prog w.drew=.ok (.pointer (some ⟨g,0,none⟩)) w.drew:=Lib.run_unsafeSliceData_row _ _ _ _ _ _ hc0
 clear hc0
 go_enter Tryz.func142,Tryz.ntmps142
 go_wp2
 go_region_o
 all_goals (go_wp2; go_ret; exact ⟨Z,qy w⟩)
set_option maxRecDepth 100000 in
theorem uP (b g:Nat)(p:Value)(cur:Array Value)(w:World)(hbk:w.heap[b]? = some (.cells #[p,.slice (some ⟨g,0,none⟩) 0 0] 184 (0,0)))(hg:w.heap[g]? = some (.cells cur 5 (0,0))) :
  Calls Tryz.prog 142 #[.pointer (some ⟨b,0,none⟩)] w λ e w'=>e=.returned (.string ⟨#[]⟩)/\Below w.heap.size w w':=by
 have mixed:=wl;have hUS:∀ (W:World) (q:Option Addr),(Builtin.unsafeString_ #[201,3] 9 #[.pointer q,.int .i64 0]).run Tryz.prog W=.ok (.string .empty) W:=λ W q=>Lib.run_unsafeString_none W _ _ _ q
 have hlt:b<w.heap.size:=by
  rcases Nat.lt_or_ge b w.heap.size with h'|h'
  ·exact h'
  ·simp [Array.getElem?_eq_none h'] at hbk
 have c1:w.drew.cell? ⟨b,1,none⟩=some (.slice (some ⟨g,0,none⟩) 0 0):=by
  have:w.drew.heap[b]? = some (.cells #[p,.slice (some ⟨g,0,none⟩) 0 0] 184 (0,0)):=hbk;rw [Lib.cell_of_heap this]; rfl
 have hSD:(Builtin.unsafeSliceData_ #[182] 201 #[.slice (some ⟨g,0,none⟩) 0 0]).run Tryz.prog w.drew=.ok (.pointer (some ⟨w.drew.heap.size,0,none⟩)) (w.drew.alloc (.view ⟨g,0,none⟩ 5)) :=
  Lib.run_unsafeSliceData_zero w.drew _ _ 5 Tryz.underlying201 ⟨g,0,none⟩ 0 (5,cur.size) (by have hg':w.drew.heap[g]? = some (.cells cur 5 (0,0)):=hg; simp [World.shape?,hg'])
 have c2:(w.drew.alloc (.view ⟨g,0,none⟩ 5)).cell? ⟨b,1,none⟩=some (.slice (some ⟨g,0,none⟩) 0 0):=by
  have:(w.drew.alloc (.view ⟨g,0,none⟩ 5)).heap[b]? = _:=(Lib.alloc_old w.drew _ b hlt).trans hbk;rw [Lib.cell_of_heap this]; rfl
 have c3:(w.alloc (.view ⟨g,0,none⟩ 5)).drew.cell? ⟨b,1,none⟩=some (.slice (some ⟨g,0,none⟩) 0 0):=c2;have c0:w.cell? ⟨b,1,none⟩=some (.slice (some ⟨g,0,none⟩) 0 0):=c1
 go_enter Tryz.func142,Tryz.ntmps142
 go_wp2
 go_region_o
 all_goals (go_wp2; go_ret; exact ⟨Z,(qy w).alloc (ld _) _⟩)
set_option maxRecDepth 100000 in
theorem ye (b g cap:Nat)(p:Value)(cur:Array Value)(l:List UInt8)(w:World)(h0:l≠[])(hbk:w.heap[b]? = some (.cells #[p,.slice (some ⟨g,0,none⟩) l.length cap] 184 (0,0)))(hg:w.heap[g]? = some (.cells cur 5 (0,0)))
  (hnc:l.length<=cap) (ER:cur.size=cap) (hcm:l.length<=9223372036854775807) (EM:∀ (j:Nat) x,l[j]? = some x->w.cell? ⟨g,j,none⟩=some (.int .u8 x.toNat)) :
  Calls Tryz.prog 142 #[.pointer (some ⟨b,0,none⟩)] w λ e w'=>e=.returned (.string ⟨l.toArray⟩)/\w'=(w.drew.freeze ⟨g,0,none⟩ l.length):=by
 have mixed:=wl;have hl0:l.length≠0:=by simpa using h0
 have c1:w.drew.cell? ⟨b,1,none⟩=some (.slice (some ⟨g,0,none⟩) l.length cap):=by
  have:w.drew.heap[b]? = some (.cells #[p,.slice (some ⟨g,0,none⟩) l.length cap] 184 (0,0)):=hbk;rw [Lib.cell_of_heap this]; rfl
 have hSD:(Builtin.unsafeSliceData_ #[182] 201 #[.slice (some ⟨g,0,none⟩) l.length cap]).run Tryz.prog w.drew=.ok (.pointer (some ⟨g,0,none⟩)) w.drew:=Lib.run_unsafeSliceData_row _ _ _ _ _ _ O
 have hUS:(Builtin.unsafeString_ #[201,3] 9 #[.pointer (some ⟨g,0,none⟩),.int .i64 l.length]).run Tryz.prog w.drew=.ok (.string ⟨l.toArray⟩) (w.drew.freeze ⟨g,0,none⟩ l.length):=by
  refine Lib.run_unsafeString_row w.drew 201 3 9 5 Tryz.underlying201 (by kernel_rfl) g cur.size (by have hg':w.drew.heap[g]? = some (.cells cur 5 (0,0)):=hg; simp [World.shape?,hg']) l h0 O hcm ?_;intro j x hx;have:=EM j x hx;rw [add_lit,th,World.cell?_drew]; exact this
 clear EM ER hcm hnc h0 hl0
 go_enter Tryz.func142,Tryz.ntmps142
 go_wp2
 go_region_o
 all_goals (go_wp2; go_ret; exact ⟨Z,Z⟩)
theorem vT (w:World)(g n k:Nat)(h:k≠g):(w.freeze ⟨g,0,none⟩ n).heap[k]? = w.heap[k]?:=by
 unfold World.freeze;split
 ·rfl
 ·simp only [Array.getElem?_modify];rw [if_neg (λ e=>h e.symm)]
theorem ww (w:World)(g n:Nat)(a:Addr):(w.freeze ⟨g,0,none⟩ n).cell? a=w.cell? a:=by
 unfold World.freeze;split
 ·rfl
 ·simp only [World.cell?,Array.getElem?_modify];by_cases h:g=a.block
  ·simp only [h,if_true]
   cases w.heap[a.block]? with
   | none=>rfl
   | some o=>cases o <;> rfl
  ·simp only [h,if_false]
theorem wB (w:World)(g n:Nat):(w.freeze ⟨g,0,none⟩ n).heap.size=w.heap.size:=by
 unfold World.freeze; split <;> simp
theorem wz (w:World)(g n:Nat):(w.freeze ⟨g,0,none⟩ n).os=w.os/\(w.freeze ⟨g,0,none⟩ n).output=w.output/\(w.freeze ⟨g,0,none⟩ n).tape=w.tape:=by
 unfold World.freeze; split <;> exact ⟨Z,Z,Z⟩
def ghS (g:Gh):Gh:=⟨g.st,λ i=>if M1<=i/\i<2*M1 then g.ow i else none⟩
theorem wg {g:Gh}{i b:Nat}(h:(ghS g).ow i=some b):M1<=i/\i<2*M1/\g.ow i=some b:=by
 simp only [ghS] at h;split at h
 ·rename_i h1; exact ⟨h1.1,h1.2,h⟩
 ·cases h
theorem yV {w w':World}{g:Gh}{q:Nat}(hok:Ok0 w g.st)(hown:∀ i b,g.ow i=some b->b<w.heap.size/\i<2*M1)
  (hinj:∀ i j b,g.ow i=some b->g.ow j=some b->i=j) (hnst:∀ i b,M1<=i->g.ow i=some b->∀ o,¬ g.st b o)
  (hq:g.ow 900000=some q\/w.heap.size<=q) (os:w'.os=w.os) (out:w'.output=w.output) (tape:w'.tape=w.tape) (size:w.heap.size<=w'.heap.size)
  (other:∀ k,k<w.heap.size->k≠q->w'.heap[k]? = w.heap[k]?) (cell:∀ b o,b<w.heap.size->w'.cell? ⟨b,o,none⟩=w.cell? ⟨b,o,none⟩):nG w g w' (ghS g):=by
 have EN:Ev w g.st w' g.st:=λ k o hk=>⟨hk,cell k o (hok.lt k o hk)⟩
 refine ⟨os,out,tape,size,λ k hk hno=>other k hk (λ e=>?_),λ i k hi=>?_,λ i j k hi hj=>?_,λ k o hk=>Nat.lt_of_lt_of_le (hok.lt k o hk) size,λ k hk _ o=>Iff.rfl,λ i h1 h2=>?_,λ i k c e h1 h2 h3=>?_,λ i k hi hk o=>hnst i k hi hk o,EN⟩
 ·rcases hq with hq|hq
  ·exact hno _ (e ▸ hq)
  ·omega
 ·obtain ⟨_,_,h1⟩:=wg hi;exact ⟨Nat.lt_of_lt_of_le (hown _ _ h1).1 size,.inr ⟨_,h1⟩⟩
 ·exact hinj _ _ _ (wg hi).2.2 (wg hj).2.2
 ·simp only [ghS]; rw [if_pos ⟨h1,h2⟩]
 ·refine ⟨c,(other k (hown _ _ h2).1 (λ e=>?_)).trans h3,rfl⟩;rcases hq with hq|hq
  ·have:=hinj _ _ _ h2 (e ▸ hq); unfold M1 at *; omega
  ·have:=(hown _ _ h2).1; omega
theorem ob_S {w':World}{g:Gh}{es:List PV}{T b:Nat}{p q:Value}(hb:g.ow 1000000=some b)(h4:∀ o,¬ g.st b o)(h:w'.heap[b]? = some (.cells #[p,q] T (0,0)))
  (hp:p=.pointer none\/p=.pointer (some ⟨b,0,none⟩)) (hq:PRep w' g.st (.slice es) q):iZ w' (ghS g) 1000000 [.bptr T 2 1000000,.p (.slice es)]:=by
 have how:(ghS g).ow 1000000=some b:=by simp only [ghS]; rw [if_pos (by decide)]; exact hb
 refine ⟨b,#[p,q],T,how,h,by simp,h4,λ i x hx=>?_⟩
 match i,hx with
 | 0,hx=>
  simp only [List.getElem?_cons_zero,bt] at hx; subst hx;refine ⟨p,rfl,?_⟩;rcases hp with rfl|rfl
  ·exact .bptrn how h Z
  ·exact .bptr how h Z
 | 1,hx=>
  simp only [List.getElem?_cons_succ,List.getElem?_cons_zero,bt] at hx; subst hx;exact ⟨q,rfl,.p hq⟩
 | n+2,hx=>simp at hx
theorem mX (b_0:cS)(r:Bk×cS)(h0:kS b_0=some r):aU Tryz.prog 142 [.ptr 1000000 0] [(1000000,[.bptr 184 2 1000000,.vec 900000 1 (5+1) (b_0.Ew.map eU)])]
  (λ x y=>x=.p (eS r.1)/\y=[(1000000,[.bptr 184 2 1000000,.p (eL eU r.2.Ew)])]):=by
 obtain ⟨hmax,h0⟩:=nH h0
 cases h0
 intro w g vs hok hown hinj hnst EH hargs hobs;obtain ⟨b,p,q,hb,rfl,hheap,hbs,hp,hq⟩:=BB EH hargs hobs;have hbl:b<w.heap.size:=(hown _ _ hb).1;obtain ⟨l,hl⟩:∃ l,l=b_0.Ew:=⟨_,rfl⟩
 rw [<- hl] at hq ⊢
 -- a builder that holds nothing
 have none_:∀ q0,l=[]->q=q0->(Calls Tryz.prog 142 #[.pointer (some ⟨b,0,none⟩)] w λ e w'=>e=.returned (.string ⟨#[]⟩)/\Below w.heap.size w w')->PRep w g.st (.slice []) q0 ->
   Calls Tryz.prog 142 #[.pointer (some ⟨b,0,none⟩)] w λ e w'=>∃ v r obs' g',e=.returned v/\(r=.p (eS l)/\obs'=[(1000000,[.bptr 184 2 1000000,.p (eL eU l)])])/\ARep w' g' r v/\(∀ p∈obs',iZ w' g' p.1 p.2)/\nG w g w' g':=by
  rintro q0 rfl rfl hc hr;refine hc.mono ?_;rintro e w' ⟨rfl,hB⟩;have EM:∀ b o,b<w.heap.size->w'.cell? ⟨b,o,none⟩=w.cell? ⟨b,o,none⟩:=λ b o h=>hB.cell (p:=⟨b,o,none⟩) h;refine ⟨_,_,_,ghS g,rfl,⟨rfl,rfl⟩,.p (.val _),λ x hx=>?_,yV (q:=w.heap.size) hok hown hinj hnst (.inr (ld _)) hB.os hB.output hB.tape hB.size (λ k hk _=>hB.block k hk) EM⟩;simp only [List.mem_singleton] at hx; subst hx;exact ob_S hb hbs ((hB.block b hbl).trans hheap) hp (hr.mono (w':=w') (st':=g.st) (λ k o hk=>⟨hk,EM k o (hok.lt k o hk)⟩))
 generalize hes:l.map eU=es at hq
 cases hq with
 | vecn=>
  have e:l=[]:=by simpa using hes
  exact none_ _ e Z (xY b p w hheap) .nils
 | vec how hb2 ER hsz2 ES hr hty=>
  rename_i g2 off2 cap c e2
  have he2:e2=5/\off2=0:=by
   rcases hty with h|h
   ·cases h
   ·exact ⟨(Nat.succ.inj h.1).symm,h.2⟩
  obtain ⟨rfl,rfl⟩:=he2;rw [th] at ER;simp only [th] at ES;have hgl:g2<w.heap.size:=(hown _ _ how).1;subst hes;simp only [d3] at hheap;by_cases hl0:l=[]
  ·subst hl0;by_cases hc0:cap=0
   ·subst hc0;exact none_ _ Z Z (uP b g2 p c w hheap hb2) (by simpa using hr)
   ·exact none_ _ Z Z (xt b g2 cap p w hc0 hheap) (by simpa using hr)
  ·have hcap:l.length<=cap:=by
    obtain ⟨a',cap',he,hle⟩:=pk hr
    cases he
    simpa using hle
   have EM:∀ (j:Nat) x,l[j]? = some x->w.cell? ⟨g2,j,none⟩=some (.int .u8 x.toNat):=by
    intro j x hx;have hinv:=Cq hsz2 hb2 hr;obtain ⟨_,u,hu,hru⟩:=hinv j (eU x) 0 (eU x) (by simp [hx]) rfl
    cases hru
    simp only [World.cell?,hb2];simpa using hu
   refine (ye b g2 cap p c l w hl0 (by simpa using hheap) hb2 hcap (by simpa using ER) ?_ EM).mono ?_
   ·rw [hl]; exact hmax
   rintro e w' ⟨rfl,rfl⟩;have hother:∀ k,k≠g2->(w.drew.freeze ⟨g2,0,none⟩ l.length).heap[k]? = w.heap[k]?:=λ k hk=>vT w.drew g2 _ k hk;have hcell2:∀ b o,(w.drew.freeze ⟨g2,0,none⟩ l.length).cell? ⟨b,o,none⟩=w.cell? ⟨b,o,none⟩:=λ b o=>ww w.drew g2 _ _;obtain ⟨r1,r2,r3⟩:=wz w.drew g2 l.length;refine ⟨_,_,_,ghS g,rfl,⟨rfl,rfl⟩,.p (.val _),λ x hx=>?_,yV (q:=g2) hok hown hinj hnst (.inl how) r1 r2 r3 (by rw [wB]; exact ld _) (λ k _ hk=>hother k hk) (λ b o _=>hcell2 b o)⟩;simp only [List.mem_singleton] at hx; subst hx;have E2:b≠g2:=λ e=>by subst e; have:=hinj _ _ _ hb how; omega
   exact ob_S hb hbs ((hother b E2).trans (by simpa using hheap)) hp (by simpa using hr.mono (w':=w.drew.freeze ⟨g2,0,none⟩ l.length) (st':=g.st) (λ k o hk=>⟨hk,hcell2 k o⟩))
end Go.Ab
end
section
namespace Go.Ab.RB
open Go.Proofs Go.Ab
attribute [local irreducible] awp gg ba aF aU AV.sub M cB
def eQ (EC:List UInt8)(E9:Int):Option (List UInt8) :=if IntKind.wrap .u32 (E9)<=2047 then ck ((0:Int)<=6)<|ck ((0:Int)<=iOr .u8 192 (IntKind.wrap .u8 (iH .i32 E9 6))/\iOr .u8 192 (IntKind.wrap .u8 (iH .i32 E9 6))<256)<|ck ((0:Int)<=iOr .u8 128 (cZ .u8 (IntKind.wrap .u8 (E9)) 63)/\iOr .u8 128 (cZ .u8 (IntKind.wrap .u8 (E9)) 63)<256)<|ck ((EC.length+[u8 (iOr .u8 192 (IntKind.wrap .u8 (iH .i32 E9 6))),u8 (iOr .u8 128 (cZ .u8 (IntKind.wrap .u8 (E9)) 63))].length)*1<=140737488355328)<|some (EC++[u8 (iOr .u8 192 (IntKind.wrap .u8 (iH .i32 E9 6))),u8 (iOr .u8 128 (cZ .u8 (IntKind.wrap .u8 (E9)) 63))])else(if IntKind.wrap .u32 (E9)<55296 then some true else if 57343<IntKind.wrap .u32 (E9) then some (decide (IntKind.wrap .u32 (E9)<=65535))else some false : Option Bool).bind λ t8=>if t8=true then ck ((0:Int)<=12)<|ck ((0:Int)<=6)<|ck ((0:Int)<=iOr .u8 224 (IntKind.wrap .u8 (iH .i32 E9 12))/\iOr .u8 224 (IntKind.wrap .u8 (iH .i32 E9 12))<256)<|ck ((0:Int)<=iOr .u8 128 (cZ .u8 (IntKind.wrap .u8 (iH .i32 E9 6)) 63)/\iOr .u8 128 (cZ .u8 (IntKind.wrap .u8 (iH .i32 E9 6)) 63)<256)<|ck ((0:Int)<=iOr .u8 128 (cZ .u8 (IntKind.wrap .u8 (E9)) 63)/\iOr .u8 128 (cZ .u8 (IntKind.wrap .u8 (E9)) 63)<256)<|ck ((EC.length+[u8 (iOr .u8 224 (IntKind.wrap .u8 (iH .i32 E9 12))),u8 (iOr .u8 128 (cZ .u8 (IntKind.wrap .u8 (iH .i32 E9 6)) 63)),u8 (iOr .u8 128 (cZ .u8 (IntKind.wrap .u8 (E9)) 63))].length)*1<=140737488355328)<|some (EC++[u8 (iOr .u8 224 (IntKind.wrap .u8 (iH .i32 E9 12))),u8 (iOr .u8 128 (cZ .u8 (IntKind.wrap .u8 (iH .i32 E9 6)) 63)),u8 (iOr .u8 128 (cZ .u8 (IntKind.wrap .u8 (E9)) 63))])else(if 65535<IntKind.wrap .u32 (E9) then some (decide (IntKind.wrap .u32 (E9)<=1114111))else some false : Option Bool).bind λ HI=>if HI=true then ck ((0:Int)<=18)<|ck ((0:Int)<=12)<|ck ((0:Int)<=6)<|ck ((0:Int)<=iOr .u8 240 (IntKind.wrap .u8 (iH .i32 E9 18))/\iOr .u8 240 (IntKind.wrap .u8 (iH .i32 E9 18))<256)<|ck ((0:Int)<=iOr .u8 128 (cZ .u8 (IntKind.wrap .u8 (iH .i32 E9 12)) 63)/\iOr .u8 128 (cZ .u8 (IntKind.wrap .u8 (iH .i32 E9 12)) 63)<256)<|ck ((0:Int)<=iOr .u8 128 (cZ .u8 (IntKind.wrap .u8 (iH .i32 E9 6)) 63)/\iOr .u8 128 (cZ .u8 (IntKind.wrap .u8 (iH .i32 E9 6)) 63)<256)<|ck ((0:Int)<=iOr .u8 128 (cZ .u8 (IntKind.wrap .u8 (E9)) 63)/\iOr .u8 128 (cZ .u8 (IntKind.wrap .u8 (E9)) 63)<256)<|ck ((EC.length+[u8 (iOr .u8 240 (IntKind.wrap .u8 (iH .i32 E9 18))),u8 (iOr .u8 128 (cZ .u8 (IntKind.wrap .u8 (iH .i32 E9 12)) 63)),u8 (iOr .u8 128 (cZ .u8 (IntKind.wrap .u8 (iH .i32 E9 6)) 63)),u8 (iOr .u8 128 (cZ .u8 (IntKind.wrap .u8 (E9)) 63))].length)*1<=140737488355328)<|some (EC++[u8 (iOr .u8 240 (IntKind.wrap .u8 (iH .i32 E9 18))),u8 (iOr .u8 128 (cZ .u8 (IntKind.wrap .u8 (iH .i32 E9 12)) 63)),u8 (iOr .u8 128 (cZ .u8 (IntKind.wrap .u8 (iH .i32 E9 6)) 63)),u8 (iOr .u8 128 (cZ .u8 (IntKind.wrap .u8 (E9)) 63))])else ck ((EC.length+[(239:UInt8),(191:UInt8),(189:UInt8)].length)*1<=140737488355328)<|some (EC++[(239:UInt8),(191:UInt8),(189:UInt8)])
theorem kj (EC:List UInt8)(E9:Int)(r:(List UInt8))(h0:eQ EC E9=some r):aU Tryz.prog 193 [.vec 900000 1 (5+1) (EC.map eU),.p (eK .i32 E9)] [] (λ x y=>x=.vec 2000000 1 (5+1) (r.map eU)/\y=[]):=by
 unfold eQ at h0;refine bT good [800000] [] Tryz.func193 Z Z Z Z Z λ w0 F=>mPo (λ v:(List UInt8)=>.vec 2000000 1 (5+1) (v.map eU)) (λ v=>[]) ?_;refine nx 17 Z (fD [11,13] h0 Z (λ c1 h0=>?_) λ c1 h0=>?_)
 ·refine nx 5 Z (cc' h0 λ Hm h0=>?_);refine mO Z (oO Z Z Z Z Z Z Hm ?_);refine nx 6 Z (cc' h0 λ IY h0=>?_);refine cc' h0 λ IZ h0=>mO Z (bg eU [u8 (iOr .u8 192 (IntKind.wrap .u8 (iH .i32 E9 6))),u8 (iOr .u8 128 (cZ .u8 (IntKind.wrap .u8 (E9)) 63))] Z Z Z Z Z Z Z Z Z Z Z Z Z (congr (congrArg List.cons (qd IY)) (congr (congrArg List.cons (qd IZ)) Z)) ?_);refine cc' h0 λ JV h0=>mO Z (eu eU EC [u8 (iOr .u8 192 (IntKind.wrap .u8 (iH .i32 E9 6))),u8 (iOr .u8 128 (cZ .u8 (IntKind.wrap .u8 (E9)) 63))] Z Z Z Z Z Z Z Z Z Z Z Z Z Y Z Z Z Z JV ?_);exact nx 3 Z (mQo (oi h0) (aK (aY 24 800000 Z Z Z Z Z) (ay _)) Z Z Z Z (sr) trivial)
 refine nx 2 Z (bd h0 λ Kw h1 h0=>?_);refine kN Kw (λ IE=>⟨[(0,.vec 900000 1 (5+1) (EC.map eU)),(1,.p (eK .i32 E9)),(5,.p (eK .u32 (IntKind.wrap .u32 (E9)))),(25,.p (eB IE))],[]⟩) ?_ ?_
 ·refine nx 1 Z (fB [25] h0 Z (λ c9 h0=>?_) λ c9 h0=>?_)
  ·refine nx 5 Z (cc' h0 λ Gn h0=>?_);refine mO Z (oO Z Z Z Z Z Z Gn ?_);refine nx 3 Z (cc' h0 λ Hh h0=>?_);refine mO Z (oO Z Z Z Z Z Z Hh ?_);refine nx 7 Z (cc' h0 λ HU h0=>?_);refine cc' h0 λ HV h0=>cc' h0 λ HC h0=>mO Z (bg eU [u8 (iOr .u8 224 (IntKind.wrap .u8 (iH .i32 E9 12))),u8 (iOr .u8 128 (cZ .u8 (IntKind.wrap .u8 (iH .i32 E9 6)) 63)),u8 (iOr .u8 128 (cZ .u8 (IntKind.wrap .u8 (E9)) 63))] Z Z Z Z Z Z Z Z Z Z Z Z Z (congr (congrArg List.cons (qd HU)) (congr (congrArg List.cons (qd HV)) (congr (congrArg List.cons (qd HC)) Z))) ?_);refine cc' h0 λ Gv h0=>mO Z (eu eU EC [u8 (iOr .u8 224 (IntKind.wrap .u8 (iH .i32 E9 12))),u8 (iOr .u8 128 (cZ .u8 (IntKind.wrap .u8 (iH .i32 E9 6)) 63)),u8 (iOr .u8 128 (cZ .u8 (IntKind.wrap .u8 (E9)) 63))] Z Z Z Z Z Z Z Z Z Z Z Z Z Y Z Z Z Z Gv ?_);exact nx 3 Z (mQo (oi h0) (aK (aY 49 800000 Z Z Z Z Z) (ay _)) Z Z Z Z (sr) trivial)
  refine nx 2 Z (bd h0 λ Iu h1 h0=>?_);refine kN Iu (λ JF=>⟨[(0,.vec 900000 1 (5+1) (EC.map eU)),(1,.p (eK .i32 E9)),(50,.p (eB JF))],[]⟩) ?_ ?_
  ·refine nx 1 Z (fB [50] h0 Z (λ G7 h0=>?_) λ G7 h0=>?_)
   ·refine nx 5 Z (cc' h0 λ FD h0=>?_);refine mO Z (oO Z Z Z Z Z Z FD ?_);refine nx 3 Z (cc' h0 λ Fv h0=>?_);refine mO Z (oO Z Z Z Z Z Z Fv ?_);refine nx 4 Z (cc' h0 λ HB h0=>?_);refine mO Z (oO Z Z Z Z Z Z HB ?_);refine nx 7 Z (cc' h0 λ Gu h0=>?_);refine cc' h0 λ G3 h0=>cc' h0 λ FK h0=>cc' h0 λ Fl h0=>mO Z (bg eU [u8 (iOr .u8 240 (IntKind.wrap .u8 (iH .i32 E9 18))),u8 (iOr .u8 128 (cZ .u8 (IntKind.wrap .u8 (iH .i32 E9 12)) 63)),u8 (iOr .u8 128 (cZ .u8 (IntKind.wrap .u8 (iH .i32 E9 6)) 63)),u8 (iOr .u8 128 (cZ .u8 (IntKind.wrap .u8 (E9)) 63))] Z Z Z Z Z Z Z Z Z Z Z Z Z (congr (congrArg List.cons (qd Gu)) (congr (congrArg List.cons (qd G3)) (congr (congrArg List.cons (qd FK)) (congr (congrArg List.cons (qd Fl)) Z)))) ?_);refine cc' h0 λ FV h0=>mO Z (eu eU EC [u8 (iOr .u8 240 (IntKind.wrap .u8 (iH .i32 E9 18))),u8 (iOr .u8 128 (cZ .u8 (IntKind.wrap .u8 (iH .i32 E9 12)) 63)),u8 (iOr .u8 128 (cZ .u8 (IntKind.wrap .u8 (iH .i32 E9 6)) 63)),u8 (iOr .u8 128 (cZ .u8 (IntKind.wrap .u8 (E9)) 63))] Z Z Z Z Z Z Z Z Z Z Z Z Z Y Z Z Z Z FV ?_);exact nx 3 Z (mQo (oi h0) (aK (aY 77 800000 Z Z Z Z Z) (ay _)) Z Z Z Z (sr) trivial)
   refine nx 4 Z (mO Z (bg eU [(239:UInt8),(191:UInt8),(189:UInt8)] Z Z Z Z Z Z Z Z Z Z Z Z Z Z ?_));refine cc' h0 λ HM h0=>mO Z (eu eU EC [(239:UInt8),(191:UInt8),(189:UInt8)] Z Z Z Z Z Z Z Z Z Z Z Z Z Y Z Z Z Z HM ?_);exact nx 3 Z (mQo (oi h0) (aK (aY 10 800000 Z Z Z Z Z) (ay _)) Z Z Z Z (sr) trivial)
  refine nx 4 Z (fD [52,53] h1 Z (λ Ju h1=>?_) λ Ju h1=>?_)
  ·exact nx 5 Z (eX _ (oi h1).symm (gE Z Z))
  exact nx 5 Z (eX _ (oi h1).symm (gE Z Z))
 refine nx 6 Z (fD [25,27] h1 Z (λ c6 h1=>?_) λ c6 h1=>?_)
 ·exact nx 2 Z (eX _ (oi h1).symm (gE Z Z))
 refine nx 5 Z (fD [29,30] h1 Z (λ c7 h1=>?_) λ c7 h1=>?_)
 ·exact nx 5 Z (eX _ (oi h1).symm (gE Z Z))
 exact nx 5 Z (eX _ (oi h1).symm (gE Z Z))
def ii (EC:List UInt8)(E9:Int):Option (List UInt8) :=if IntKind.wrap .u32 (E9)<=127 then ck ((0:Int)<=IntKind.wrap .u8 (E9)/\IntKind.wrap .u8 (E9)<256)<|ck ((EC.length+[u8 (IntKind.wrap .u8 (E9))].length)*1<=140737488355328)<|some (EC++[u8 (IntKind.wrap .u8 (E9))])else(eQ EC E9).bind λ r4=>some r4
theorem mw (EC:List UInt8)(E9:Int)(r:(List UInt8))(h0:ii EC E9=some r):aU Tryz.prog 167 [.vec 900000 1 (5+1) (EC.map eU),.p (eK .i32 E9)] [] (λ x y=>x=.vec 2000000 1 (5+1) (r.map eU)/\y=[]):=by
 unfold ii at h0;refine bT good [800000] [] Tryz.func167 Z Z Z Z Z λ w0 F=>mPo (λ v:(List UInt8)=>.vec 2000000 1 (5+1) (v.map eU)) (λ v=>[]) ?_;refine nx 11 Z (fD [7] h0 Z (λ c1 h0=>?_) λ c1 h0=>?_)
 ·refine nx 6 Z (cc' h0 λ Hm h0=>?_);refine mO Z (bg eU [u8 (IntKind.wrap .u8 (E9))] Z Z Z Z Z Z Z Z Z Z Z Z Z (congr (congrArg List.cons (qd Hm)) Z) ?_);refine cc' h0 λ IZ h0=>mO Z (eu eU EC [u8 (IntKind.wrap .u8 (E9))] Z Z Z Z Z Z Z Z Z Z Z Z Z Y Z Z Z Z IZ ?_);exact nx 3 Z (mQo (oi h0) (aK (aY 12 800000 Z Z Z Z Z) (ay _)) Z Z Z Z (sr) trivial)
 refine nx 6 Z (bd h0 λ r4 e5 h0=>?_);refine mO Z (aQ [] [900000] 101000 101001 (kj EC E9 _ e5) Z Z Z Z Z ⟨sr,sr,trivial⟩ Z Z trivial Z Z Z Z Z Z Z Z Tryz.call193 Z Z ?_);exact nx 3 Z (mQo (oi h0) (aK (aY 101000 800000 Z Z Z Z Z) (ay _)) Z Z Z Z (sr) trivial)
def gx (b_0:cS)(E9:Int):Option (Int×Bool×cS) :=(jG (cS.mk b_0.Ew)).bind λ r1=>(ii r1.Ew E9).bind λ r3=>ck (inR ((r3.length:Int)-(r1.Ew.length:Int)))<|some ((r3.length:Int)-(r1.Ew.length:Int),false,(cS.mk r3))
theorem lP (b_0:cS)(E9:Int)(r:Int×Bool×cS)(h0:gx b_0 E9=some r):aU Tryz.prog 140 [.ptr 1000000 0,.p (eK .i32 E9)] [(1000000,[.bptr 184 2 1000000,.vec 900000 1 (5+1) (b_0.Ew.map eU)])] (λ x y=>x=.tuple [.p (eI r.1),.p (eE r.2.1)]/\y=[(1000000,[.bptr 184 2 1000000,.vec 2000000 1 (5+1) (r.2.2.Ew.map eU)])]):=by
 unfold gx at h0;refine bT good [800000] [1000000] Tryz.func140 Z Z Z Z Z λ w0 F=>mPo (λ v:Int×Bool×cS=>.tuple [.p (eI v.1),.p (eE v.2.1)]) (λ v=>[(1000000,[.bptr 184 2 1000000,.vec 2000000 1 (5+1) (v.2.2.Ew.map eU)])]) ?_;refine nx 8 Z (bd h0 λ r1 e2 h0=>?_);refine mO Z (aQ [1000000] [900000] 101000 101001 (lR (cS.mk b_0.Ew) _ e2) Z Z Z Z Z ⟨sr,trivial⟩ Z Z ⟨⟨_,Z,⟨sr,sr,trivial⟩⟩,trivial⟩ Z Z Z Z Z Z Z Z Tryz.call166 Z Z ?_);refine nx 7 Z (oLl (f:=eU) Z Z ?_);refine nx 10 Z (bd h0 λ r3 e4 h0=>?_);refine mO Z (aQ [] [101000] 102000 102001 (mw r1.Ew E9 _ e4) Z Z Z Z Z ⟨sr,sr,trivial⟩ Z Z trivial Z Z Z Z Z Z Z Z Tryz.call167 Z Z ?_);refine nx 10 Z (oLl (f:=eU) Z Z ?_);refine nx 1 Z (oA h0 Z Z λ JV h0=>?_);refine nx 3 Z (mG (gE (t:=⟨[(4,.p (eI ((r3.length:Int)-(r1.Ew.length:Int)))),(5,.p (eE false))],[(1000000,[.bptr 184 2 1000000,.vec 102000 1 (5+1) (r3.map eU)])]⟩) Z Z) ?_);exact nx 1 Z (mQo (oi h0) (aK (aY 102000 800000 Z Z Z Z Z) (ay _)) Z Z Z Z (aG ⟨sr,sr,trivial⟩) ⟨⟨_,Z,⟨sr,sr,trivial⟩⟩,trivial⟩)
def jQ (b_0:cS):Option (Int×cS) :=some ((b_0.Ew.length:Int),(cS.mk b_0.Ew))
theorem oo (b_0:cS)(r:Int×cS)(h0:jQ b_0=some r):aU Tryz.prog 141 [.ptr 1000000 0] [(1000000,[.bptr 184 2 1000000,.vec 900000 1 (5+1) (b_0.Ew.map eU)])] (λ x y=>x=.p (eI r.1)/\y=[(1000000,[.bptr 184 2 1000000,.vec 2000000 1 (5+1) (r.2.Ew.map eU)])]):=by
 unfold jQ at h0;refine bT good [800000] [1000000] Tryz.func141 Z Z Z Z Z λ w0 F=>mPo (λ v:Int×cS=>.p (eI v.1)) (λ v=>[(1000000,[.bptr 184 2 1000000,.vec 2000000 1 (5+1) (v.2.Ew.map eU)])]) ?_;refine nx 10 Z (oLl (f:=eU) Z Z ?_);exact nx 3 Z (mQo (oi h0) (aK (aY 900000 800000 Z Z Z Z Z) (ay _)) Z Z Z Z (sr) ⟨⟨_,Z,⟨sr,sr,trivial⟩⟩,trivial⟩)
end Go.Ab.RB
end
section
namespace Go.Ab
open Go.RowKit
theorem aF.of_calls {P:Program}{f:FuncId}{l:List Value}{r:AV}
  (h:∀ (w:World) (st:Nat->Nat->Prop),Ok0 w st->Calls P f l.toArray w λ e w'=>∃ v,e=.returned v/\Below w.heap.size w w'/\∀ g',ARep w' g' r v):aF P f (l.map PV.val) (·=r):=by
 intro w st vs hok EH hargs
 have e:vs=l.toArray:=by
  apply Array.ext
  ·simpa using EH
  ·intro i h1 h2;have hi:i<l.length:=by simpa using h2
   have:=hargs i (.val l[i]) vs[i] (by simp [hi]) (Array.getElem?_eq_getElem h1);generalize hv:vs[i]=v at this
   cases this
   simp
 subst e;refine (h w st hok).mono ?_;rintro e w' ⟨v,rfl,hB,hr⟩;refine ⟨v,r,⟨st,λ _=>none⟩,rfl,rfl,hr _,⟨hB.os,hB.output,hB.tape,hB.size,λ b hb=>hB.block b hb,?_,?_,λ b o hb=>Nat.lt_of_lt_of_le (hok.lt b o hb) hB.size,λ b _ o=>Iff.rfl⟩⟩
 ·intro i b hi; cases hi
 ·intro i j b hi; cases hi
theorem ul {w:World}{st:Nat->Nat->Prop}(h:lQ w st){g j:Nat}{l:List GC}{k:IntKind}{n:Int}(hl:look qQ g=some l)(hj:l[j]? = some (.int k n)):w.cell? ⟨g,j,none⟩=some (.int k n):=by
 obtain ⟨_,v,h2,h3⟩:=(h g (l.map GC.pv) (by rw [ou,hl]; rfl)).1 j (.val (.int k n)) (by rw [List.getElem?_map,hj]; rfl)
 cases h3
 exact h2
theorem zO {w:World}{st:Nat->Nat->Prop}(h:lQ w st){g:Nat}{k:IntKind}(hl:look qQ g=some [.some k]):∃ m,w.cell? ⟨g,0,none⟩=some (.int k m):=by
 obtain ⟨_,v,h2,h3⟩:=(h g [.aint k] (by rw [ou,hl]; rfl)).1 0 (.aint k) rfl
 cases h3 with
 | aint _ m=>exact ⟨m,h2⟩
theorem w6 {w:World}{st:Nat->Nat->Prop}(h:lQ w st){g j:Nat}{l:List GC}(hl:look qQ g=some l)(hj:l[j]? = some .ifc):∃ t v,w.cell? ⟨g,j,none⟩=some (.iface t v):=by
 obtain ⟨_,v,h2,h3⟩:=(h g (l.map GC.pv) (by rw [ou,hl]; rfl)).1 j .ifc (by rw [List.getElem?_map,hj]; rfl)
 cases h3 with
 | ifc t v=>exact ⟨t,v,h2⟩
theorem jR (s:Bk):(str s).data.toList=s:=by simp [str]
theorem mN (w:World):Below w.heap.size w w:=Below.refl _ w
end Go.Ab
end
section
namespace Go.Proofs
open Go.Shelf
def Tryz.lays119_ren:Go.Shelf.Ren:=⟨λ|119=>191|n=>n,λ|21=>21|4=>4|n=>n,λ|n=>n⟩
theorem Tryz.lays119:Go.Proofs.Lays.n119 Tryz.prog Tryz.lays119_ren:={
 mixed:=by kernel_rfl
 f119:=Tryz.func191.trans (congrArg some (by kernel_rfl))
 t4:=Tryz.underlying4
 a4:=Tryz.isAgg4
 z4:=Tryz.sizeOf4
 v4:=Tryz.zeroValue4
 t21:=Tryz.underlying21
 a21:=Tryz.isAgg21
 z21:=Tryz.sizeOf21
 v21:=Tryz.zeroValue21 }
theorem Tryz.utf8_ValidRune (r:Int)(w:World) :
  Calls Tryz.prog 191 #[.int .i32 r] w λ e w'=>e=.returned (.bool (Lib.validRune r))/\w'=w:=Any.utf8_ValidRune Tryz.lays119 r w
def Tryz.lays137_ren:Go.Shelf.Ren:=⟨λ|137=>82|217=>109|266=>133|n=>n,λ|9=>9|5=>5|3=>3|n=>n,λ|n=>n⟩
theorem Tryz.lays137:Go.Proofs.Lays.n137 Tryz.prog Tryz.lays137_ren:={
 mixed:=by kernel_rfl
 f137:=Tryz.func82.trans (congrArg some (by kernel_rfl))
 f217:=Tryz.func109.trans (congrArg some (by kernel_rfl))
 f266:=Tryz.func133.trans (congrArg some (by kernel_rfl))
 t3:=Tryz.underlying3
 a3:=Tryz.isAgg3
 z3:=Tryz.sizeOf3
 v3:=Tryz.zeroValue3
 t5:=Tryz.underlying5
 a5:=Tryz.isAgg5
 z5:=Tryz.sizeOf5
 v5:=Tryz.zeroValue5
 t9:=Tryz.underlying9
 a9:=Tryz.isAgg9
 z9:=Tryz.sizeOf9
 v9:=Tryz.zeroValue9 }
open Go.RowKit in
theorem Tryz.strings_IndexByte (s:ByteArray)(c:Int)(w:World) :
  Calls Tryz.prog 82 #[.string s,.int .u8 c] w λ e w'=>e=.returned (.int .i64 (Lib.indexByte s.data.toList c.toNat.toUInt8))/\w'=w:=Any.strings_IndexByte Tryz.lays137 s c w
def Tryz.lays99_ren:Go.Shelf.Ren:=⟨λ|99=>110|206=>134|n=>n,λ|9=>9|4=>4|3=>3|n=>n,λ|n=>n⟩
theorem Tryz.lays99:Go.Proofs.Lays.n99 Tryz.prog Tryz.lays99_ren:={
 mixed:=by kernel_rfl
 f99:=Tryz.func110.trans (congrArg some (by kernel_rfl))
 f206:=Tryz.func134.trans (congrArg some (by kernel_rfl))
 t3:=Tryz.underlying3
 a3:=Tryz.isAgg3
 z3:=Tryz.sizeOf3
 v3:=Tryz.zeroValue3
 t4:=Tryz.underlying4
 a4:=Tryz.isAgg4
 z4:=Tryz.sizeOf4
 v4:=Tryz.zeroValue4
 t9:=Tryz.underlying9
 a9:=Tryz.isAgg9
 z9:=Tryz.sizeOf9
 v9:=Tryz.zeroValue9 }
open Go.RowKit Go.Lib in
theorem Tryz.strings_HasPrefix (s p:ByteArray)(w:World) :
  Calls Tryz.prog 110 #[.string s,.string p] w λ e w'=>e=.returned (.bool (Lib.hasPrefix s.data.toList p.data.toList))/\w'=w:=Any.strings_HasPrefix Tryz.lays99 s p w
def Tryz.laysC174_ren:Go.Shelf.Ren:=⟨λ|174=>239|247=>246|245=>247|287=>253|279=>254|280=>255|281=>256|282=>257|321=>261|322=>262|316=>263|171=>265|205=>264|243=>269|246=>272|283=>273|284=>274|285=>275|286=>276|129=>278|317=>277|318=>279|319=>280|320=>281|337=>282|338=>283|n=>n,λ|9=>9|3=>3|2=>2|75=>188|85=>236|4=>4|167=>245|5=>5|53=>194|175=>246|46=>173|168=>248|37=>182|0=>0|210=>253|21=>21|127=>201|145=>257|143=>255|171=>260|173=>263|212=>266|51=>204|20=>20|213=>267|232=>270|233=>271|80=>61|n=>n,λ|15=>3|16=>4|17=>5|18=>6|19=>7|n=>n⟩
theorem Tryz.laysC174:Go.Proofs.LaysC.n174 Tryz.prog Tryz.laysC174_ren:={
 mixed:=by kernel_rfl
 f129:=Tryz.func278.trans (congrArg some (by kernel_rfl))
 f171:=Tryz.func265.trans (congrArg some (by kernel_rfl))
 f174:=Tryz.func239.trans (congrArg some (by kernel_rfl))
 f205:=Tryz.func264.trans (congrArg some (by kernel_rfl))
 f243:=Tryz.func269.trans (congrArg some (by kernel_rfl))
 f245:=Tryz.func247.trans (congrArg some (by kernel_rfl))
 f246:=Tryz.func272.trans (congrArg some (by kernel_rfl))
 f247:=Tryz.func246.trans (congrArg some (by kernel_rfl))
 f279:=Tryz.func254.trans (congrArg some (by kernel_rfl))
 f280:=Tryz.func255.trans (congrArg some (by kernel_rfl))
 f281:=Tryz.func256.trans (congrArg some (by kernel_rfl))
 f282:=Tryz.func257.trans (congrArg some (by kernel_rfl))
 f283:=Tryz.func273.trans (congrArg some (by kernel_rfl))
 f284:=Tryz.func274.trans (congrArg some (by kernel_rfl))
 f285:=Tryz.func275.trans (congrArg some (by kernel_rfl))
 f286:=Tryz.func276.trans (congrArg some (by kernel_rfl))
 f287:=Tryz.func253.trans (congrArg some (by kernel_rfl))
 f316:=Tryz.func263.trans (congrArg some (by kernel_rfl))
 f317:=Tryz.func277.trans (congrArg some (by kernel_rfl))
 f318:=Tryz.func279.trans (congrArg some (by kernel_rfl))
 f319:=Tryz.func280.trans (congrArg some (by kernel_rfl))
 f320:=Tryz.func281.trans (congrArg some (by kernel_rfl))
 f321:=Tryz.func261.trans (congrArg some (by kernel_rfl))
 f322:=Tryz.func262.trans (congrArg some (by kernel_rfl))
 f337:=Tryz.func282.trans (congrArg some (by kernel_rfl))
 f338:=Tryz.func283.trans (congrArg some (by kernel_rfl))
 t0:=Tryz.underlying0
 a0:=Tryz.isAgg0
 z0:=Tryz.sizeOf0
 v0:=Tryz.zeroValue0
 t2:=Tryz.underlying2
 a2:=Tryz.isAgg2
 z2:=Tryz.sizeOf2
 v2:=Tryz.zeroValue2
 t3:=Tryz.underlying3
 a3:=Tryz.isAgg3
 z3:=Tryz.sizeOf3
 v3:=Tryz.zeroValue3
 t4:=Tryz.underlying4
 a4:=Tryz.isAgg4
 z4:=Tryz.sizeOf4
 v4:=Tryz.zeroValue4
 t5:=Tryz.underlying5
 a5:=Tryz.isAgg5
 z5:=Tryz.sizeOf5
 v5:=Tryz.zeroValue5
 t9:=Tryz.underlying9
 a9:=Tryz.isAgg9
 z9:=Tryz.sizeOf9
 v9:=Tryz.zeroValue9
 t20:=Tryz.underlying20
 a20:=Tryz.isAgg20
 z20:=Tryz.sizeOf20
 v20:=Tryz.zeroValue20
 t21:=Tryz.underlying21
 a21:=Tryz.isAgg21
 z21:=Tryz.sizeOf21
 v21:=Tryz.zeroValue21
 t37:=Tryz.underlying182
 a37:=Tryz.isAgg182
 z37:=Tryz.sizeOf182
 v37:=Tryz.zeroValue182
 t46:=Tryz.underlying173
 a46:=Tryz.isAgg173
 z46:=Tryz.sizeOf173
 v46:=Tryz.zeroValue173
 t51:=Tryz.underlying204
 a51:=Tryz.isAgg204
 z51:=Tryz.sizeOf204
 v51:=Tryz.zeroValue204
 t53:=Tryz.underlying194
 a53:=Tryz.isAgg194
 z53:=Tryz.sizeOf194
 v53:=Tryz.zeroValue194
 t75:=Tryz.underlying188
 a75:=Tryz.isAgg188
 z75:=Tryz.sizeOf188
 v75:=Tryz.zeroValue188
 t85:=Tryz.underlying236
 a85:=Tryz.isAgg236
 z85:=Tryz.sizeOf236
 v85:=Tryz.zeroValue236
 t127:=Tryz.underlying201
 a127:=Tryz.isAgg201
 z127:=Tryz.sizeOf201
 v127:=Tryz.zeroValue201
 t143:=Tryz.underlying255
 a143:=Tryz.isAgg255
 z143:=Tryz.sizeOf255
 v143:=Tryz.zeroValue255
 t145:=Tryz.underlying257
 a145:=Tryz.isAgg257
 z145:=Tryz.sizeOf257
 v145:=Tryz.zeroValue257
 t167:=Tryz.underlying245
 a167:=Tryz.isAgg245
 z167:=Tryz.sizeOf245
 v167:=Tryz.zeroValue245
 t168:=Tryz.underlying248
 a168:=Tryz.isAgg248
 z168:=Tryz.sizeOf248
 v168:=Tryz.zeroValue248
 t171:=Tryz.underlying260
 a171:=Tryz.isAgg260
 z171:=Tryz.sizeOf260
 v171:=Tryz.zeroValue260
 t173:=Tryz.underlying263
 a173:=Tryz.isAgg263
 z173:=Tryz.sizeOf263
 v173:=Tryz.zeroValue263
 t175:=Tryz.underlying246
 a175:=Tryz.isAgg246
 z175:=Tryz.sizeOf246
 v175:=Tryz.zeroValue246
 t210:=Tryz.underlying253
 a210:=Tryz.isAgg253
 z210:=Tryz.sizeOf253
 v210:=Tryz.zeroValue253
 t212:=Tryz.underlying266
 a212:=Tryz.isAgg266
 z212:=Tryz.sizeOf266
 v212:=Tryz.zeroValue266
 t213:=Tryz.underlying267
 a213:=Tryz.isAgg267
 z213:=Tryz.sizeOf267
 t232:=Tryz.underlying270
 a232:=Tryz.isAgg270
 z232:=Tryz.sizeOf270
 v232:=Tryz.zeroValue270
 t233:=Tryz.underlying271
 a233:=Tryz.isAgg271
 z233:=Tryz.sizeOf271
 v233:=Tryz.zeroValue271
 g15:=by kernel_rfl
 g16:=by kernel_rfl
 g17:=by kernel_rfl
 g18:=by kernel_rfl
 g19:=by kernel_rfl
 t80:=Tryz.underlying61
 a80:=Tryz.isAgg61
 z80:=Tryz.sizeOf61
 v80:=Tryz.zeroValue61
 i0:=by kernel_rfl
 i2:=by kernel_rfl
 i3:=by kernel_rfl
 i4:=by kernel_rfl
 i5:=by kernel_rfl
 i9:=by kernel_rfl
 i20:=by kernel_rfl
 i21:=by kernel_rfl
 i37:=by kernel_rfl
 i46:=by kernel_rfl
 i51:=by kernel_rfl
 i53:=by kernel_rfl
 i75:=by kernel_rfl
 i80:=by kernel_rfl
 i85:=by kernel_rfl
 i127:=by kernel_rfl
 i143:=by kernel_rfl
 i145:=by kernel_rfl
 i167:=by kernel_rfl
 i168:=by kernel_rfl
 i171:=by kernel_rfl
 i173:=by kernel_rfl
 i175:=by kernel_rfl
 i210:=by kernel_rfl
 i212:=by kernel_rfl
 i232:=by kernel_rfl
 i233:=by kernel_rfl
 m15:=by kernel_rfl
 m16:=by kernel_rfl
 m17:=by kernel_rfl
 m18:=by kernel_rfl
 m19:=by kernel_rfl
 c0:=by kernel_rfl
 c2:=by kernel_rfl
 c3:=by kernel_rfl
 c4:=by kernel_rfl
 c5:=by kernel_rfl
 c9:=by kernel_rfl
 c20:=by kernel_rfl
 c21:=by kernel_rfl
 c37:=by kernel_rfl
 c46:=by kernel_rfl
 c51:=by kernel_rfl
 c53:=by kernel_rfl
 c75:=by kernel_rfl
 c80:=by kernel_rfl
 c85:=by kernel_rfl
 c127:=by kernel_rfl
 c143:=by kernel_rfl
 c145:=by kernel_rfl
 c167:=by kernel_rfl
 c168:=by kernel_rfl
 c171:=by kernel_rfl
 c173:=by kernel_rfl
 c175:=by kernel_rfl
 c210:=by kernel_rfl
 c212:=by kernel_rfl
 c213:=by kernel_rfl
 c232:=by kernel_rfl
 c233:=by kernel_rfl }
open Go.RowKit in
theorem Tryz.strconv_ParseInt_10_at64_ok (s:ByteArray)(hmax:s.size<=9223372036854775806)(v:Int)(h:Lib.parseIntB 64 s.data.toList=.ok v)(w:World) :
  Calls Tryz.prog 239 #[.string s,.int .i64 10,.int .i64 64] w λ e w'=>e=.returned (.tuple #[.int .i64 v,.nilIface])/\(w'=w\/∃ t,w'=Lib.bytesWorld w 5 t):=Any.strconv_ParseInt_10_at64_ok Tryz.laysC174 s hmax v h w
open Go.RowKit in
theorem Tryz.strconv_ParseInt_10_at64_range (s:ByteArray)(hlim:s.size<=281474976710656)(h:Lib.parseIntB 64 s.data.toList=.range)(ev:Value)(w:World)(hv:w.cell? ⟨4,0,none⟩=some ev)(EN:ev=.nilIface\/∃ te pe,ev=.iface te pe) :
  Calls Tryz.prog 239 #[.string s,.int .i64 10,.int .i64 64] w λ e w'=>∃ N,e=.returned (.tuple #[.int .i64 (Lib.intSat 64 s.data.toList),.iface 248 (.pointer (some ⟨N,0,none⟩))])/\w.heap.size<=N/\w'.heap[N]? = some (.cells #[.string ⟨#[80,97,114,115,101,73,110,116]⟩,.string s,ev] 253 (0,0))/\Below w.heap.size w w':=Any.strconv_ParseInt_10_at64_range Tryz.laysC174 s hlim h ev w hv EN
open Go.RowKit in
theorem Tryz.strconv_ParseInt_10_at64_syntax (s:ByteArray)(hlim:s.size<=281474976710656)(h:Lib.parseIntB 64 s.data.toList=Lib.parseIntB 64 [])(ev:Value)(w:World)(hv:w.cell? ⟨3,0,none⟩=some ev)(EN:ev=.nilIface\/∃ te pe,ev=.iface te pe) :
  Calls Tryz.prog 239 #[.string s,.int .i64 10,.int .i64 64] w λ e w'=>∃ N,e=.returned (.tuple #[.int .i64 (0),.iface 248 (.pointer (some ⟨N,0,none⟩))])/\w.heap.size<=N/\w'.heap[N]? = some (.cells #[.string ⟨#[80,97,114,115,101,73,110,116]⟩,.string s,ev] 253 (0,0))/\Below w.heap.size w w':=Any.strconv_ParseInt_10_at64_syntax Tryz.laysC174 s hlim h ev w hv EN
def Tryz.lays197_ren:Go.Shelf.Ren:=⟨λ|197=>135|260=>158|n=>n,λ|9=>9|21=>21|3=>3|4=>4|5=>5|105=>175|119=>90|0=>0|46=>173|139=>172|138=>171|n=>n,λ|3=>0|4=>1|n=>n⟩
theorem Tryz.lays197:Go.Proofs.Lays.n197 Tryz.prog Tryz.lays197_ren:={
 mixed:=by kernel_rfl
 f197:=Tryz.func135.trans (congrArg some (by kernel_rfl))
 f260:=Tryz.func158.trans (congrArg some (by kernel_rfl))
 t0:=Tryz.underlying0
 a0:=Tryz.isAgg0
 z0:=Tryz.sizeOf0
 v0:=Tryz.zeroValue0
 t3:=Tryz.underlying3
 a3:=Tryz.isAgg3
 z3:=Tryz.sizeOf3
 v3:=Tryz.zeroValue3
 t4:=Tryz.underlying4
 a4:=Tryz.isAgg4
 z4:=Tryz.sizeOf4
 v4:=Tryz.zeroValue4
 t5:=Tryz.underlying5
 a5:=Tryz.isAgg5
 z5:=Tryz.sizeOf5
 v5:=Tryz.zeroValue5
 t9:=Tryz.underlying9
 a9:=Tryz.isAgg9
 z9:=Tryz.sizeOf9
 v9:=Tryz.zeroValue9
 t21:=Tryz.underlying21
 a21:=Tryz.isAgg21
 z21:=Tryz.sizeOf21
 v21:=Tryz.zeroValue21
 t46:=Tryz.underlying173
 a46:=Tryz.isAgg173
 z46:=Tryz.sizeOf173
 v46:=Tryz.zeroValue173
 t105:=Tryz.underlying175
 a105:=Tryz.isAgg175
 z105:=Tryz.sizeOf175
 v105:=Tryz.zeroValue175
 t119:=Tryz.underlying90
 a119:=Tryz.isAgg90
 z119:=Tryz.sizeOf90
 t138:=Tryz.underlying171
 a138:=Tryz.isAgg171
 z138:=Tryz.sizeOf171
 v138:=Tryz.zeroValue171
 t139:=Tryz.underlying172
 a139:=Tryz.isAgg172
 z139:=Tryz.sizeOf172
 v139:=Tryz.zeroValue172
 g3:=by kernel_rfl
 g4:=by kernel_rfl }
open Go.RowKit Go.Lib in
theorem Tryz.utf8_DecodeRuneInString (s:ByteArray)(w:World)(hT:Lib.Utf8Tabs 0 1 w) :
  Calls Tryz.prog 135 #[.string s] w λ e w'=>e=.returned (.tuple #[.int .i32 (Lib.decodeGo s).1,.int .i64 (Lib.decodeGo s).2])/\Below w.heap.size w w':=Any.utf8_DecodeRuneInString Tryz.lays197 s w hT
def Tryz.lays196_ren:Go.Shelf.Ren:=⟨λ|196=>103|259=>129|n=>n,λ|9=>9|4=>4|3=>3|5=>5|12=>12|119=>90|0=>0|46=>173|139=>172|138=>171|53=>194|n=>n,λ|3=>0|4=>1|n=>n⟩
theorem Tryz.lays196:Go.Proofs.Lays.n196 Tryz.prog Tryz.lays196_ren:={
 mixed:=by kernel_rfl
 f196:=Tryz.func103.trans (congrArg some (by kernel_rfl))
 f259:=Tryz.func129.trans (congrArg some (by kernel_rfl))
 t0:=Tryz.underlying0
 a0:=Tryz.isAgg0
 z0:=Tryz.sizeOf0
 v0:=Tryz.zeroValue0
 t3:=Tryz.underlying3
 a3:=Tryz.isAgg3
 z3:=Tryz.sizeOf3
 v3:=Tryz.zeroValue3
 t4:=Tryz.underlying4
 a4:=Tryz.isAgg4
 z4:=Tryz.sizeOf4
 v4:=Tryz.zeroValue4
 t5:=Tryz.underlying5
 a5:=Tryz.isAgg5
 z5:=Tryz.sizeOf5
 v5:=Tryz.zeroValue5
 t9:=Tryz.underlying9
 a9:=Tryz.isAgg9
 z9:=Tryz.sizeOf9
 v9:=Tryz.zeroValue9
 t12:=Tryz.underlying12
 a12:=Tryz.isAgg12
 z12:=Tryz.sizeOf12
 v12:=Tryz.zeroValue12
 t46:=Tryz.underlying173
 a46:=Tryz.isAgg173
 z46:=Tryz.sizeOf173
 v46:=Tryz.zeroValue173
 t53:=Tryz.underlying194
 a53:=Tryz.isAgg194
 z53:=Tryz.sizeOf194
 v53:=Tryz.zeroValue194
 t119:=Tryz.underlying90
 a119:=Tryz.isAgg90
 z119:=Tryz.sizeOf90
 t138:=Tryz.underlying171
 a138:=Tryz.isAgg171
 z138:=Tryz.sizeOf171
 v138:=Tryz.zeroValue171
 t139:=Tryz.underlying172
 a139:=Tryz.isAgg172
 z139:=Tryz.sizeOf172
 v139:=Tryz.zeroValue172
 g3:=by kernel_rfl
 g4:=by kernel_rfl }
open Go.RowKit Go.Lib in
theorem Tryz.utf8_ValidString (s:ByteArray)(w:World)(hs:s.size<=9223372036854775807)(hT:Lib.Utf8Tabs 0 1 w):Calls Tryz.prog 103 #[.string s] w λ e w'=>e=.returned (.bool (Lib.validD s.data.toList))/\Below w.heap.size w w':=Any.utf8_ValidString Tryz.lays196 s w hs hT
def Tryz.lays144_ren:Go.Shelf.Ren:=⟨λ|144=>70|143=>104|219=>130|217=>109|225=>150|224=>151|267=>152|266=>133|314=>178|n=>n,λ|9=>9|4=>4|3=>3|5=>5|46=>173|146=>205|51=>204|n=>n,λ|1=>2|n=>n⟩
theorem Tryz.lays144:Go.Proofs.Lays.n144 Tryz.prog Tryz.lays144_ren:={
 mixed:=by kernel_rfl
 f143:=Tryz.func104.trans (congrArg some (by kernel_rfl))
 f144:=Tryz.func70.trans (congrArg some (by kernel_rfl))
 f217:=Tryz.func109.trans (congrArg some (by kernel_rfl))
 f219:=Tryz.func130.trans (congrArg some (by kernel_rfl))
 f224:=Tryz.func151.trans (congrArg some (by kernel_rfl))
 f225:=Tryz.func150.trans (congrArg some (by kernel_rfl))
 f266:=Tryz.func133.trans (congrArg some (by kernel_rfl))
 f267:=Tryz.func152.trans (congrArg some (by kernel_rfl))
 f314:=Tryz.func178.trans (congrArg some (by kernel_rfl))
 t3:=Tryz.underlying3
 a3:=Tryz.isAgg3
 z3:=Tryz.sizeOf3
 v3:=Tryz.zeroValue3
 t4:=Tryz.underlying4
 a4:=Tryz.isAgg4
 z4:=Tryz.sizeOf4
 v4:=Tryz.zeroValue4
 t5:=Tryz.underlying5
 a5:=Tryz.isAgg5
 z5:=Tryz.sizeOf5
 v5:=Tryz.zeroValue5
 t9:=Tryz.underlying9
 a9:=Tryz.isAgg9
 z9:=Tryz.sizeOf9
 v9:=Tryz.zeroValue9
 t46:=Tryz.underlying173
 a46:=Tryz.isAgg173
 z46:=Tryz.sizeOf173
 v46:=Tryz.zeroValue173
 t51:=Tryz.underlying204
 a51:=Tryz.isAgg204
 z51:=Tryz.sizeOf204
 v51:=Tryz.zeroValue204
 t146:=Tryz.underlying205
 a146:=Tryz.isAgg205
 z146:=Tryz.sizeOf205
 v146:=Tryz.zeroValue205
 g1:=by kernel_rfl }
open Go.RowKit Go.Lib in
theorem Tryz.strings_Contains (s sub:ByteArray)(m:Int)(w:World)(hs:s.size<4294967281)(hm:w.cell? ⟨2,0,none⟩=some (.int .i64 m)) :
  Calls Tryz.prog 70 #[.string s,.string sub] w λ e w'=>e=.returned (.bool (Lib.contains s.data.toList sub.data.toList))/\w'=w:=Any.strings_Contains Tryz.lays144 s sub m w hs hm
end Go.Proofs
end
section
namespace Go.Ab
open Go.Proofs Go.RowKit
def strings_IndexByte (s:Bk)(c:Int):Option Int:=some (Lib.indexByte s c.toNat.toUInt8)
theorem gM (Ez:Bk)(c_1:Int)(r:Int)(h0:strings_IndexByte Ez c_1=some r):aF Tryz.prog 82 [eS Ez,eK .u8 c_1] (·=.p (eI r)):=by
 cases h0
 refine aF.of_calls (l:=[.string (str Ez),.int .u8 c_1]) λ w st hok=>(Tryz.strings_IndexByte _ _ w).mono ?_;rintro e w' ⟨rfl,rfl⟩;rw [jR];exact ⟨_,rfl,mN _,λ _=>.p (.val _)⟩
def iv (r:Int):Option Bool:=some (Lib.validRune r)
theorem jF (r_0:Int)(r:Bool)(h0:iv r_0=some r):aF Tryz.prog 191 [eK .i32 r_0] (·=.p (eB r)):=by
 cases h0
 refine aF.of_calls (l:=[.int .i32 r_0]) λ w st hok=>(Tryz.utf8_ValidRune _ w).mono ?_;rintro e w' ⟨rfl,rfl⟩;exact ⟨_,rfl,mN _,λ _=>.p (.val _)⟩
theorem wQ {w:World}{g:Gh}{a b:Value}:ARep w g (.tuple [.p (.val a),.p (.val b)]) (.tuple #[a,b]):=by
 refine .tuple Z λ i c v h1 h2=>?_
 match i,h1,h2 with
 | 0,h1,h2=>simp at h1 h2; subst h1 h2; exact .p (.val _)
 | 1,h1,h2=>simp at h1 h2; subst h1 h2; exact .p (.val _)
 | n+2,h1,_=>simp at h1
def strings_HasPrefix (s p:Bk):Option Bool:=some (Lib.hasPrefix s p)
theorem ct (Ez p_1:Bk)(r:Bool)(h0:strings_HasPrefix Ez p_1=some r):aF Tryz.prog 110 [eS Ez,eS p_1] (·=.p (eB r)):=by
 cases h0
 refine aF.of_calls (l:=[.string (str Ez),.string (str p_1)]) λ w st hok=>(Tryz.strings_HasPrefix _ _ w).mono ?_;rintro e w' ⟨rfl,rfl⟩;rw [jR,jR];exact ⟨_,rfl,mN _,λ _=>.p (.val _)⟩
theorem zQ:(List.range 256).all (λ c=>match uX[c]? with|some (.int .u8 n)=>n==(Lib.firstT c:Int)|_=>false)=true:=by kernel_rfl
theorem Cz:(List.range 16).all (λ c=>(match Bu[2*c]? with|some (.int .u8 n)=>n==(Lib.accLo c:Int)|_=>false)&&(match Bu[2*c+1]? with|some (.int .u8 n)=>n==(Lib.accHi c:Int)|_=>false))=true:=by kernel_rfl
theorem Aw {o:Option GC}{m:Int}(h:(match o with|some (.int .u8 n)=>n==m|_=>false)=true):o=some (.int .u8 m):=by
 split at h
 ·rw [eq_of_beq h]
 ·cases h
theorem wR {w:World}{st:Nat->Nat->Prop}(h:lQ w st):Lib.Utf8Tabs 0 1 w:=by
 refine ⟨λ c hc=>ul h Z (Aw (rd.1 zQ c (by simpa using hc))),λ i hi=>?_⟩;have:=rd.1 Cz i (by simpa using hi);simp only [ph] at this;exact ⟨ul h Z (Aw this.1),ul h Z (Aw this.2)⟩
def dG (s:Bk):Option (Int×Int):=some ((Lib.decodeGo (str s)).1,(Lib.decodeGo (str s)).2)
theorem eh (Ez:Bk)(r:Int×Int)(h0:dG Ez=some r):aF Tryz.prog 135 [eS Ez] (·=.tuple [.p (eK .i32 r.1),.p (eI r.2)]):=by
 cases h0
 refine aF.of_calls (l:=[.string (str Ez)]) λ w st hok=>(Tryz.utf8_DecodeRuneInString _ w (wR hok.gl)).mono ?_;rintro e w' ⟨rfl,hB⟩;exact ⟨_,rfl,hB,λ _=>wQ⟩
def fq (s:Bk):Option Bool:=ck (s.length<=9223372036854775807)<|some (Lib.validD s)
theorem lX (Ez:Bk)(r:Bool)(h0:fq Ez=some r):aF Tryz.prog 103 [eS Ez] (·=.p (eB r)):=by
 obtain ⟨hl,h0⟩:=nH h0
 cases h0
 refine aF.of_calls (l:=[.string (str Ez)]) λ w st hok=>(Tryz.utf8_ValidString _ w (by rw [jm]; exact hl) (wR hok.gl)).mono ?_;rintro e w' ⟨rfl,hB⟩;rw [jR];exact ⟨_,rfl,hB,λ _=>.p (.val _)⟩
theorem wD (w:World)(e:TypeId)(t:ByteArray):Below w.heap.size w (Lib.bytesWorld w e t) :=
 ⟨Z,Z,Z,by rw [Lib.bytesWorld_size]; omega,λ k hk=>Lib.bytesWorld_at_old w e t k hk⟩
def nY (s:Bk)(b z:Int):Option (Int×Bool):=ck (b=10/\z=64/\s.length<=281474976710656)<|some (match Lib.parseIntB 64 s with|.ok v=>(v,false)|.range=>(Lib.intSat 64 s,true)|_=>(0,true))
theorem yP {w:World}{g:Gh}{a:Int}{t:TypeId}{v:Value}:ARep w g (.tuple [.p (eI a),.p (eE true)]) (.tuple #[.int .i64 a,.iface t v]):=by
 refine .tuple Z λ i c v h1 h2=>?_
 match i,h1,h2 with
 | 0,h1,h2=>simp at h1 h2; subst h1 h2; exact .p (.val _)
 | 1,h1,h2=>simp at h1 h2; subst h1 h2; exact .p (.ifc _ _)
 | n+2,h1,_=>simp at h1
theorem pY (Ez:Bk)(base_1 bitSize_2:Int)(r:Int×Bool)(h0:nY Ez base_1 bitSize_2=some r):aF Tryz.prog 239 [eS Ez,eI base_1,eI bitSize_2] (·=.tuple [.p (eI r.1),.p (eE r.2)]):=by
 obtain ⟨⟨rfl,rfl,hl⟩,h1⟩:=nH h0;have EH:(str Ez).size<=281474976710656:=by rw [jm]; exact hl
 refine aF.of_calls (l:=[.string (str Ez),.int .i64 10,.int .i64 64]) λ w st hok=>?_
 cases hp:Lib.parseIntB 64 Ez with
 | ok v=>
  rw [hp] at h1; cases h1;refine (Tryz.strconv_ParseInt_10_at64_ok (str Ez) O v (by rw [jR]; exact hp) w).mono ?_;rintro e w' ⟨rfl,h⟩;refine ⟨_,rfl,?_,λ _=>wQ⟩;rcases h with rfl|⟨t,rfl⟩
  ·exact mN _
  ·exact wD _ _ _
 | range=>
  rw [hp] at h1; cases h1;obtain ⟨t,v,hv⟩:=w6 hok.gl (g:=4) (j:=0) rfl rfl;refine (Tryz.strconv_ParseInt_10_at64_range (str Ez) EH (by rw [jR]; exact hp) _ w hv (.inr ⟨_,_,rfl⟩)).mono ?_;rintro e w' ⟨N,rfl,_,_,hB⟩;rw [jR];exact ⟨_,rfl,hB,λ _=>yP⟩
 | _=>
  rw [hp] at h1; cases h1;obtain ⟨t,v,hv⟩:=w6 hok.gl (g:=3) (j:=0) rfl rfl;refine (Tryz.strconv_ParseInt_10_at64_syntax (str Ez) EH (by rw [jR]; exact hp) _ w hv (.inr ⟨_,_,rfl⟩)).mono ?_;rintro e w' ⟨N,rfl,_,_,hB⟩;exact ⟨_,rfl,hB,λ _=>yP⟩
end Go.Ab
namespace Go.Ab
open Go.Proofs Go.RowKit Go
end Go.Ab
namespace Go.Ab
open Go.Proofs Go.RowKit Go
theorem decN (n b0 b1 b2 b3:Nat)(hn:1<=n)(h0:b0<256):1<=(Lib.decodeN n b0 b1 b2 b3).2/\(Lib.decodeN n b0 b1 b2 b3).2<=n/\(Lib.decodeN n b0 b1 b2 b3).2<=4 /\
  ((Lib.decodeN n b0 b1 b2 b3).1<128->(Lib.decodeN n b0 b1 b2 b3).2=1/\(Lib.decodeN n b0 b1 b2 b3).1=b0) /\
  (128<=(Lib.decodeN n b0 b1 b2 b3).1->128<=b0/\(2<=(Lib.decodeN n b0 b1 b2 b3).2->128<=b1)/\(3<=(Lib.decodeN n b0 b1 b2 b3).2->128<=b2)/\(4<=(Lib.decodeN n b0 b1 b2 b3).2->128<=b3)) /\
  ((Lib.decodeN n b0 b1 b2 b3).1<55296\/(57343<(Lib.decodeN n b0 b1 b2 b3).1/\(Lib.decodeN n b0 b1 b2 b3).1<=1114111)):=by
 unfold Lib.decodeN
 repeat' split
 all_goals (refine ⟨by dsimp only; omega,by dsimp only; omega,by dsimp only; omega,λ h=>⟨by dsimp only at h ⊢; first|done|omega,by dsimp only at h ⊢; first|done|omega⟩,λ h=>⟨by dsimp only at h; omega,λ k=>by dsimp only at k; omega,λ k=>by dsimp only at k; omega,λ k=>by dsimp only at k; omega⟩,by dsimp only; omega⟩)
def strings_Contains (s p:Bk):Option Bool:=ck (s.length<4294967281)<|some (Lib.contains s p)
theorem gW (Ez substr_1:Bk)(r:Bool)(h0:strings_Contains Ez substr_1=some r):aF Tryz.prog 70 [eS Ez,eS substr_1] (·=.p (eB r)):=by
 obtain ⟨h1,h0⟩:=nH h0
 cases h0
 refine aF.of_calls (l:=[.string (str Ez),.string (str substr_1)]) λ w st hok=>?_;obtain ⟨m,hm⟩:=zO hok.gl (g:=2) (k:=.i64) rfl;refine (Tryz.strings_Contains (str Ez) (str substr_1) m w (by rw [jm]; exact h1) hm).mono ?_;rintro e w' ⟨rfl,rfl⟩;rw [jR,jR];exact ⟨_,rfl,mN _,λ _=>.p (.val _)⟩
end Go.Ab
end
section
namespace Go.Ab
open Go.MapKept
section
variable {α:Type}
def j2:List (Bk×α)->Bk->Option α|[],_=>none|(j,v)::r,k=>if j=k then some v else j2 r k
def pA:List (Bk×α)->Bk->α->List (Bk×α)|[],k,v=>[(k,v)]|(j,u)::r,k,v=>if j=k then (k,v)::r else (j,u)::pA r k v
theorem xm:∀ {l:List (Bk×α)} {i:Nat} {k:Bk} {v:α},(l.map Prod.fst).Nodup->l[i]? = some (k,v)->j2 l k=some v
 | [],i,k,v,_,h=>by simp at h
 | (j,u)::r,0,k,v,_,h=>by
  simp only [List.getElem?_cons_zero,bt,Prod.mk.injEq] at h;obtain ⟨rfl,rfl⟩:=h;simp [j2]
 | (j,u)::r,i+1,k,v,hd,h=>by
  simp only [aq,List.nodup_cons] at hd;simp only [List.getElem?_cons_succ] at h;have E2:j≠k:=λ e=>hd.1 (by rw [e]; exact List.mem_map.2 ⟨_,List.mem_of_getElem? h,rfl⟩);simp only [j2,if_neg E2];exact xm hd.2 h
theorem tg:∀ {l:List (Bk×α)} {k:Bk},(∀ p∈l,p.1≠k)->j2 l k=none
 | [],_,_=>rfl
 | (j,u)::r,k,h=>by
  simp only [j2,if_neg (h (j,u) G)];exact tg λ p hp=>h p (List.mem_cons_of_mem _ hp)
theorem pm:∀ {l:List (Bk×α)} {k:Bk} {v:α},(∀ p∈l,p.1≠k)->pA l k v=l++[(k,v)]
 | [],_,_,_=>rfl
 | (j,u)::r,k,v,h=>by
  simp only [pA,if_neg (h (j,u) G),List.cons_append];rw [pm λ p hp=>h p (List.mem_cons_of_mem _ hp)]
theorem qI:∀ {l:List (Bk×α)} {i:Nat} {k:Bk} {u v:α},(l.map Prod.fst).Nodup->l[i]? = some (k,u)->pA l k v=l.set i (k,v)
 | [],i,k,u,v,_,h=>by simp at h
 | (j,x)::r,0,k,u,v,_,h=>by
  simp only [List.getElem?_cons_zero,bt,Prod.mk.injEq] at h;obtain ⟨rfl,rfl⟩:=h;simp [pA]
 | (j,x)::r,i+1,k,u,v,hd,h=>by
  simp only [aq,List.nodup_cons] at hd;simp only [List.getElem?_cons_succ] at h;have E2:j≠k:=λ e=>hd.1 (by rw [e]; exact List.mem_map.2 ⟨_,List.mem_of_getElem? h,rfl⟩);simp only [pA,if_neg E2,List.set_cons_succ];rw [qI hd.2 h]
theorem xD {l:List (Bk×α)}{k:Bk}{v:α}(hd:(l.map Prod.fst).Nodup):((pA l k v).map Prod.fst).Nodup:=by
 by_cases h:∀ p∈l,p.1≠k
 ·rw [pm h,List.map_append,List.nodup_append];refine ⟨hd,by simp,λ a ha b hb e=>?_⟩;simp only [aq,bx,List.mem_singleton] at hb;subst hb;obtain ⟨p,hp,hq⟩:=List.mem_map.1 ha;exact h p hp (hq.trans e)
 ·obtain ⟨p,hp,hk⟩:∃ p∈l,p.1=k:=by
   refine Classical.byContradiction λ q=>h λ p hp e=>q ⟨p,hp,e⟩
  obtain ⟨i,hi⟩:=List.mem_iff_getElem?.1 hp;obtain ⟨j,u⟩:=p;have hk:j=k:=hk;subst hk;rw [qI hd hi]
  have:(l.set i (j,v)).map Prod.fst=l.map Prod.fst:=by
   rw [List.map_set];apply List.ext_getElem?;intro q;rw [List.getElem?_set];by_cases e:i=q
   ·subst e;have:i<l.length:=(List.getElem?_eq_some_iff.1 hi).1;rw [if_pos rfl];simp only [d3,this,if_true,List.getElem?_map,hi]
    rfl
   ·rw [if_neg e]
  rw [this]; exact hd
theorem uW {β:Type}(f:α->β):∀ (l:List (Bk×α)) (k:Bk),j2 (l.map λ p=>(p.1,f p.2)) k=(j2 l k).map f
 | [],_=>rfl
 | (j,v)::r,k=>by
  simp only [aq,j2];split
  ·rfl
  ·exact uW f r k
theorem xd {β:Type}(f:α->β):∀ (l:List (Bk×α)) (k:Bk) (v:α),pA (l.map λ p=>(p.1,f p.2)) k (f v)=(pA l k v).map λ p=>(p.1,f p.2)
 | [],_,_=>rfl
 | (j,u)::r,k,v=>by
  simp only [aq,pA];split
  ·rfl
  ·rw [xd f r k v]; rfl
end
theorem Cd {a b:Bk}(h:(Value.string ⟨a.toArray⟩)=.string ⟨b.toArray⟩):a=b:=by
 simpa using h
theorem wC {u:TypeDesc}{k e:Nat}(h:kindOf u=.map k e):u=.map k e:=by
 cases u <;> simp [kindOf] at h
 obtain ⟨rfl,rfl⟩:=h; rfl
theorem ut {es:Array MapEntry}{kvs:List (Bk×PV)}(hn:es.size=kvs.length)(_hd:(kvs.map Prod.fst).Nodup)(hk:∀ (i:Nat) e kv,es[i]? = some e->kvs[i]? = some kv->e.key=.string ⟨kv.1.toArray⟩)(k:Bk) :
  (∀ x∈es.toList,IsKey .string x.key) /\
  ((Instr.findNow .string (.string ⟨k.toArray⟩) es.toList 0=some none/\(∀ x∈es.toList,x.key≠.string ⟨k.toArray⟩)/\∀ p∈kvs,p.1≠k) \/
  ∃ j e v,Instr.findNow .string (.string ⟨k.toArray⟩) es.toList 0=some (some (j,e.val))/\es[j]? = some e/\e.key=.string ⟨k.toArray⟩/\kvs[j]? = some (k,v)):=by
 have hks:∀ x∈es.toList,IsKey .string x.key:=by
  intro x hx;obtain ⟨i,hi⟩:=List.mem_iff_getElem?.1 hx;rw [Array.getElem?_toList] at hi;have hil:=(Array.getElem?_eq_some_iff.1 hi).1;have:=hk i x kvs[i] hi (List.getElem?_eq_getElem O);rw [this]; trivial
 refine ⟨hks,?_⟩;rcases findNow_spec (k:=.string ⟨k.toArray⟩) (d:=.string) trivial es.toList 0 hks with ⟨h1,h2⟩|⟨j,e,h1,h2,h3⟩
 ·refine .inl ⟨h1,h2,λ p hp e=>?_⟩;obtain ⟨i,hi⟩:=List.mem_iff_getElem?.1 hp;have hil:=(List.getElem?_eq_some_iff.1 hi).1;have hes:es[i]? = some es[i]:=Array.getElem?_eq_getElem O;have:=hk i es[i] p hes hi;exact h2 es[i] (Array.getElem_mem_toList O) (by rw [this,e])
 ·rw [Array.getElem?_toList] at h2;have hil:=(Array.getElem?_eq_some_iff.1 h2).1;have hkv:kvs[j]? = some kvs[j]:=List.getElem?_eq_getElem O;have:=hk j e kvs[j] h2 hkv;have he:kvs[j].1=k:=Cd (this.symm.trans h3);refine .inr ⟨j,e,kvs[j].2,by rw [h1]; simp,h2,h3,?_⟩;rw [hkv,<- he]
def upA (tok:Nat)(kvs:List (Bk×PV))(x:AV):AV:=match x with
 | .mp t l=>bif Nat.beq t tok then .mp t kvs else .mp t l
 | x=>x.dem (Nat.beq · tok)
def upS (tok:Nat)(kvs:List (Bk×PV)):List (Nat×AV)->Option (List (Nat×AV))
 | []=>some []
 | (i,x)::r=>(match frc (upA tok kvs x) with
  | some y=>(match upS tok kvs r with|some l=>some ((i,y)::l)|none=>none)
  | none=>none)
theorem Bi {tok:Nat}{kvs:List (Bk×PV)}:∀ {l l':List (Nat×AV)},upS tok kvs l=some l'->l'=l.map λ p=>(p.1,upA tok kvs p.2)
 | [],l',h=>by cases h; rfl
 | (i,x)::r,l',h=>by
  unfold upS at h;split at h
  ·rename_i y hy;split at h
   ·rename_i m hm; cases h; rw [qt hy,Bi hm]; rfl
   ·cases h
  ·cases h
section
variable {C:Cx} {o:Oper} {K:AS->Prop} {sl:List (Nat×AV)} {ob:List (Nat×List AV)} {d:Nat}
theorem rR {d:Nat}(hd:d<M1):∀ i,Nat.beq i d=true->i<M1:=λ i hi=>by have:=cl hi; omega
theorem wP {y:AV}{sl':List (Nat×AV)}{ob':List (Nat×List AV)}(hd:o.dst=some d)(hn:Nat.blt d C.n=true)
  (hrun:∀ g a w,St C.n C.w0 C.F g ⟨sl,ob⟩ a w->(execOp a.eval o).run C.P w=.ok (.value (.map (some w.heap.size))) (w.alloc (.map #[] 0)))
  (hy:∀ (w:World) (g:Gh) (b:Nat),g.ow d=some b->w.heap[b]? = some (.map #[] 0)->ARep w g y (.map (some b)))
  (h1:dmS (Nat.beq · d) sl=some sl') (h2:dmO (Nat.beq · d) ob=some ob') (hK:K ⟨(d,y)::sl',ob'⟩):ba C o K ⟨sl,ob⟩:=by
 intro g a w hs;have hdl:d<M1:=by have h1:=n6 C.nl; have h2:d<C.n:=dg ▸ hn; omega
 unfold Oper.wp;rw [hrun g a w hs];have EN:Ev w g.st (w.alloc (.map #[] 0)) g.st:=λ b o h=>⟨h,World.cell?_alloc_lt w _ _ (hs.lt b o h)⟩
 obtain ⟨g',hg'⟩:∃ g':Gh,g'=⟨g.st,λ i=>if i=d then some w.heap.size else g.ow i⟩:=⟨_,rfl⟩
 have EH:(w.alloc (.map #[] 0)).heap.size=w.heap.size+1:=by simp
 have hs':St C.n C.w0 C.F g' (co (Nat.beq · d) ⟨sl,ob⟩) a (w.alloc (.map #[] 0)):=by
  subst hg';refine hs.evolve (Nat.beq · d) (rR hdl) EN (λ id b hD h=>?_) (λ i j b hi hj=>?_) (λ i b hi=>?_) (λ b o h=>?_) (λ b hb=>?_) Z Z Z O (λ b _ o=>Iff.rfl) (λ i hi=>?_)
  ·have E2:id≠d:=λ e=>by subst e; simp at hD
   exact ⟨by simp only [if_neg E2]; exact h,db (hs.own id b h).1,λ o h=>h⟩
  ·dsimp only at hi hj;by_cases e1:i=d <;> by_cases e2:j=d
   ·omega
   ·rw [if_pos e1] at hi; rw [if_neg e2] at hj; cases hi; have:=(hs.own j _ hj).1; omega
   ·rw [if_neg e1] at hi; rw [if_pos e2] at hj; cases hj; have:=(hs.own i _ hi).1; omega
   ·rw [if_neg e1] at hi; rw [if_neg e2] at hj; exact hs.inj i j b hi hj
  ·dsimp only at hi;by_cases e1:i=d
   ·rw [if_pos e1] at hi; cases hi;exact ⟨by omega,λ hF=>by have:=hs.fl _ hF; have:=hs.size; omega⟩
   ·rw [if_neg e1] at hi; have:=hs.own i b hi; exact ⟨by omega,this.2⟩
  ·have:=hs.lt b o h; omega
  ·exact db (by have:=hs.fl b hb; have:=hs.size; omega)
  ·dsimp only;rw [if_neg O]
 refine ⟨g',⟨(d,y)::sl',ob'⟩,?_,hK⟩
 have hp:=hs'.put (d:=o.dst) (λ t ht=>by rw [hd] at ht; cases ht; exact dg ▸ hn) (x:=y) (v:=.map (some w.heap.size))
  (hy _ _ _ (by rw [hg']; simp) dU)
 rw [hd] at hp ⊢;rw [nA h1,mI h2];exact hp
theorem yl {t:TypeId}{sl':List (Nat×AV)}{ob':List (Nat×List AV)}(ho:o.op=.makeMap t none)(hd:o.dst=some d)(hn:Nat.blt d C.n=true)
  (h1:dmS (Nat.beq · d) sl=some sl') (h2:dmO (Nat.beq · d) ob=some ob') (hK:K ⟨(d,.mp d [])::sl',ob'⟩):ba C o K ⟨sl,ob⟩ :=
 wP hd hn (λ g a w hs=>by simp [execOp,ho,Instr.makeMap,newObj,Sem.run]) (λ w g b h1 h2=>.mp h1 h2 Z G G G) h1 h2 hK
theorem zG {t kt et:TypeId}{x y:Operand}{i j:TI}{tok:Nat}{kvs:List (Bk×PV)}{k:Bk}{z:Value}{r:PV}(ho:o.op=.lookup t x y false)(hd:o.dst=some d)(hn:Nat.blt d C.n=true)
  (hi:look C.tt t=some i) (EP:i.k=.map kt et) (hj:look C.tt kt=some j) (hjk:j.k=.string) (hz:(C.P.info? et).map (·.zero)=some (some z))
  (hx:evo sl x=some (.mp tok kvs)) (hy:evo sl y=some (.p (.val (.string ⟨k.toArray⟩)))) (hr:∀ (w:World) (st:Nat->Nat->Prop) (v:Value),PRep w st ((j2 kvs k).getD (.val z)) v->PRep w st r v) (hK:K ⟨(d,.p r)::sl,ob⟩):ba C o K ⟨sl,ob⟩:=by
 obtain ⟨u,h1,h2⟩:=bF C.good hi;obtain rfl:=wC (h2.trans EP);obtain ⟨u2,h3,h4⟩:=bF C.good hj;obtain rfl:=gD (h4.trans hjk);refine ok_one hd hn (λ g a w hs=>?_) hK;have hm:=bu hs hx;have hkv:=ce hs hy;generalize hv:a.eval x=v at hm
 cases hm with
 | mp how hb hN hD hkeys hvals=>
  rename_i b ck es;obtain ⟨hks,hc⟩:=ut hN hD hkeys k
  have hz2:(zeroValue et).run C.P w=.ok z w:=by
   obtain ⟨inf,hinf,hzz⟩:=mv.1 hz;simp [zeroValue,typeInfo,hinf,hzz]
  rcases hc with ⟨f1,f2,f3⟩|⟨jj,e,v',f1,f2,f3,f4⟩
  ·refine ⟨z,?_,?_⟩
   ·simp [execOp,ho,hv,hkv,Instr.lookup,run_underlying h1,Go.MapKept.run_getObj_map hb,run_checkKey (d:=.string) h3 (k:=.string ⟨k.toArray⟩) trivial,run_findKey h3 f1,hz2,Result.andThen]
   ·exact .p (hr w _ _ (by rw [tg f3]; exact .val _))
  ·refine ⟨e.val,?_,?_⟩
   ·simp [execOp,ho,hv,hkv,Instr.lookup,run_underlying h1,Go.MapKept.run_getObj_map hb,run_checkKey (d:=.string) h3 (k:=.string ⟨k.toArray⟩) trivial,run_findKey h3 f1,Result.andThen]
   ·exact .p (hr w _ _ (by rw [xm hD f4]; exact hvals jj e _ f2 f4))
theorem Ay {t kt et:TypeId}{x y:Operand}{i j:TI}{tok:Nat}{kvs:List (Bk×PV)}{k:Bk}{z:Value}{r:PV}(ho:o.op=.lookup t x y false)(hd:o.dst=some d)(hn:Nat.blt d C.n=true)
  (hi:look C.tt t=some i) (EP:i.k=.map kt et) (hj:look C.tt kt=some j) (hjk:j.k=.string) (hz:(C.P.info? et).map (·.zero)=some (some z))
  (hx:evo sl x=some (.mp tok kvs)) (hy:evo sl y=some (.p (.val (.string ⟨k.toArray⟩)))) (hr:(j2 kvs k).getD (.val z)=r) (hK:K ⟨(d,.p r)::sl,ob⟩):ba C o K ⟨sl,ob⟩ :=
 zG ho hd hn hi EP hj hjk hz hx hy (λ _ _ _ h=>hr ▸ h) hK
theorem C0 {t kt et:TypeId}{x y v:Operand}{i j:TI}{tok:Nat}{kvs kvs':List (Bk×PV)}{k:Bk}{r:PV}{sl':List (Nat×AV)}{ob':List (Nat×List AV)}(ho:o.op=.mapUpdate t x y v)(hd:o.dst=none)
  (hi:look C.tt t=some i) (EP:i.k=.map kt et) (hj:look C.tt kt=some j) (hjk:j.k=.string)
  (hx:evo sl x=some (.mp tok kvs)) (hy:evo sl y=some (.p (.val (.string ⟨k.toArray⟩)))) (hv:evo sl v=some (.p r)) (htok:Nat.blt tok M1=true)
  (hk:pA kvs k r=kvs') (h1:upS tok kvs' sl=some sl') (h2:dmO (Nat.beq · tok) ob=some ob') (hK:K ⟨sl',ob'⟩):ba C o K ⟨sl,ob⟩:=by
 obtain ⟨u,hu1,hu2⟩:=bF C.good hi;obtain rfl:=wC (hu2.trans EP);obtain ⟨u2,hu3,hu4⟩:=bF C.good hj;obtain rfl:=gD (hu4.trans hjk);have htl:tok<M1:=dg ▸ htok;intro g a w hs;have hm:=bu hs hx;have hkv:=ce hs hy;have hrep:=bu hs hv;generalize hvx:a.eval x=vx at hm;generalize hvv:a.eval v=vv at hrep
 cases hrep with
 | p hrep=>
 cases hm with
 | mp how hb hN hD hkeys hvals=>
  rename_i b ck es;obtain ⟨hks,hc⟩:=ut hN hD hkeys k;have hbl:b<w.heap.size:=(hs.own tok b how).1
  -- the entries behind the change
  obtain ⟨es',ck',hrun,hN',hkeys',hvals'⟩:∃ (es':Array MapEntry) (ck':Nat),(execOp a.eval o).run C.P w=.ok .skip { w with heap:=w.heap.setIfInBounds b (.map es' ck') }/\es'.size=kvs'.length /\
    (∀ (i:Nat) e kv,es'[i]? = some e->kvs'[i]? = some kv->e.key=.string ⟨kv.1.toArray⟩)/\(∀ (i:Nat) e kv,es'[i]? = some e->kvs'[i]? = some kv->PRep w g.st kv.2 e.val):=by
   rcases hc with ⟨f1,f2,f3⟩|⟨jj,e,v',f1,f2,f3,f4⟩
   ·refine ⟨es.push { key:=.string ⟨k.toArray⟩,val:=vv,born:=ck },ck+1,?_,?_,?_,?_⟩
    ·simp [execOp,ho,hvx,hkv,hvv,Instr.mapUpdate,run_underlying hu1,Go.MapKept.run_getObj_map hb,run_checkKey (d:=.string) hu3 (k:=.string ⟨k.toArray⟩) trivial,run_findKey hu3 f1,run_setObj_map _ hb,Result.andThen]
    ·rw [<- hk,pm f3]; simp [hN]
    ·intro i e kv h3 h4;rw [<- hk,pm f3] at h4;rw [Array.getElem?_push] at h3;split at h3
     ·rename_i hi2
      cases h3
      rw [hi2,List.getElem?_append_right O,hN] at h4;simp at h4;rw [<- h4]
     ·have hil:i<es.size:=(Array.getElem?_eq_some_iff.1 h3).1;rw [List.getElem?_append_left O] at h4;exact hkeys i e kv h3 h4
    ·intro i e kv h3 h4;rw [<- hk,pm f3] at h4;rw [Array.getElem?_push] at h3;split at h3
     ·rename_i hi2
      cases h3
      rw [hi2,List.getElem?_append_right O,hN] at h4;simp at h4;rw [<- h4];exact hrep
     ·have hil:i<es.size:=(Array.getElem?_eq_some_iff.1 h3).1;rw [List.getElem?_append_left O] at h4;exact hvals i e kv h3 h4
   ·have hjl:jj<es.size:=(Array.getElem?_eq_some_iff.1 f2).1;refine ⟨es.modify jj λ e=>{ e with key:=.string ⟨k.toArray⟩,val:=vv },ck,?_,?_,?_,?_⟩
    ·have hkey:=run_keyThatStays (P:=C.P) (w:=w) (d:=.string) (k:=.string ⟨k.toArray⟩) trivial;simp [execOp,ho,hvx,hkv,hvv,Instr.mapUpdate,run_underlying hu1,Go.MapKept.run_getObj_map hb,run_checkKey (d:=.string) hu3 (k:=.string ⟨k.toArray⟩) trivial,run_findKey hu3 f1,f2,f3,hkey,run_setObj_map _ hb,Result.andThen]
    ·rw [<- hk,qI hD f4]; simp [hN]
    ·intro i e2 kv h3 h4;rw [<- hk,qI hD f4] at h4;rw [Array.getElem?_modify] at h3;rw [List.getElem?_set] at h4;split at h3
     ·rename_i hji;subst hji;rw [f2] at h3
      cases h3
      rw [if_pos rfl,if_pos O] at h4
      cases h4
      rfl
     ·rename_i hji;rw [if_neg hji] at h4;exact hkeys i e2 kv h3 h4
    ·intro i e2 kv h3 h4;rw [<- hk,qI hD f4] at h4;rw [Array.getElem?_modify] at h3;rw [List.getElem?_set] at h4;split at h3
     ·rename_i hji;subst hji;rw [f2] at h3
      cases h3
      rw [if_pos rfl,if_pos O] at h4
      cases h4
      exact hrep
     ·rename_i hji;rw [if_neg hji] at h4;exact hvals i e2 kv h3 h4
  unfold Oper.wp;rw [hrun];simp only [Oper.upon,hd,Act.put];obtain ⟨w',hw'⟩:∃ w':World,w'={ w with heap:=w.heap.setIfInBounds b (.map es' ck') }:=⟨_,rfl⟩
  rw [<- hw'];have Gz:w'.heap[b]? = some (.map es' ck'):=by rw [hw']; exact (heap_set hb).1
  have hother:∀ b2,b2≠b->w'.heap[b2]? = w.heap[b2]?:=λ b2 h=>by rw [hw']; exact (heap_set hb).2 b2 h
  have EH:w'.heap.size=w.heap.size:=by rw [hw']; simp
  have EN:Ev w g.st w' g.st:=by
   intro b2 o2 h;refine ⟨h,?_⟩;by_cases e:b2=b
   ·subst e; simp [World.cell?,Gz,hb]
   ·simp only [World.cell?,hother b2 e]
  have hneq:∀ id b2,Nat.beq id tok=false->g.ow id=some b2->b2≠b:=λ id b2 hq h e=>by
   subst e;have:=hs.inj id tok b2 h how;subst this;simp at hq
  have hs':=hs.evolve (g':=g) (w':=w') (Nat.beq · tok) (rR htl) EN (λ id b2 hq h=>⟨h,hother b2 (hneq id b2 hq h),λ o h=>h⟩) hs.inj (λ i b2 h=>by have:=hs.own i b2 h; rw [EH]; exact this)
   (λ b2 o2 h=>by have:=hs.lt b2 o2 h; omega) (λ b2 h=>hother b2 (λ e=>(hs.own tok b how).2 (e ▸ h))) (by rw [hw']) (by rw [hw']) (by rw [hw']) O (λ b2 _ o2=>Iff.rfl) (λ i _=>rfl)
  refine ⟨g,⟨sl',ob'⟩,?_,hK⟩;rw [Bi h1,mI h2];refine { hs' with sl:=λ q=>?_ };have hq:=hs'.sl q;have hq0:=hs.sl q;simp only [AS.get,co,gQ] at hq hq0 ⊢
  cases hl:look sl q with
  | none=>simp only [Option.map_none,Option.getD_none]; exact .undef _
  | some z=>
   rw [hl] at hq hq0;simp only [Option.map_some,n8] at hq hq0 ⊢;unfold upA;split
   ·rename_i tk l
    cases hbt:Nat.beq tk tok
    ·simp only [AV.dem,hbt,cond_false] at hq ⊢; exact hq
    ·simp only [cond_true];have:=cl hbt;subst this;generalize a.tmps.getD q Go.undef=vq at hq0
     cases hq0 with
     | mp how2 _ _ _ _ _=>
      rw [how] at how2; cases how2;exact .mp how Gz hN' (by rw [<- hk]; exact xD hD) hkeys' (λ i e kv h3 h4=>(hvals' i e kv h3 h4).mono EN)
   ·exact hq
end
/- As 'dem',for identities of any size; what is known of maps of rows is given up. -/
end Go.Ab
end
section
namespace Go.Ab
section
variable {C:Cx} {o:Oper} {K:AS->Prop} {sl:List (Nat×AV)} {ob:List (Nat×List AV)} {d:Nat}
theorem Bn {t e:TypeId}{x:Operand}{i:TI}{k sz:Nat}{es:List PV}(ho:o.op=.call { callee:=.builtin .len,args:=#[x],argTypes:=#[t] })(hd:o.dst=some d)(hn:Nat.blt d C.n=true)
  (hi:look C.tt t=some i) (EP:i.k=.slice e) (hx:evo sl x=some (.stk k sz es))
  (hK:K ⟨(d,.p (.val (.int .i64 (es.length:Int))))::sl,ob⟩):ba C o K ⟨sl,ob⟩:=by
 obtain ⟨u,h1,h2⟩:=bF C.good hi;have h3:=bJ (h2.trans EP);subst h3;refine ok_one hd hn (λ g a w hs=>?_) hK;have h5:=bu hs hx;generalize hv:a.eval x=v at h5
 cases h5 with
 | stkn=>exact ⟨.int .i64 0,by rw [fG ho]; simp [builtin,hv,Builtin.len_,run_underlying h1,goInt],.p (.val _)⟩
 | stke=>exact ⟨.int .i64 0,by rw [fG ho]; simp [builtin,hv,Builtin.len_,run_underlying h1,goInt],.p (.val _)⟩
 | stk how hb ER hlenc hszc ET ES hr=>exact ⟨.int .i64 (es.length:Int),by rw [fG ho]; simp [builtin,hv,Builtin.len_,run_underlying h1,goInt],.p (.val _)⟩
end
theorem C2 (D:Nat->Bool):∀ (l:List PV),dmC D (l.map .p)=some (l.map .p)
 | []=>rfl
 | x::r=>by
  have h:=C2 D r;simp only [aq,dmC,AV.dem,h]
  first|rfl|(simp [frc])
theorem vX {D:Nat->Bool}{i:Nat}{l:List PV}{r r':List (Nat×List AV)}(h:D i=false)(hr:dmO D r=some r'):dmO D ((i,l.map .p)::r)=some ((i,l.map .p)::r'):=by
 simp only [dmO,h,C2,hr]
theorem ue {D:Nat->Bool}{i:Nat}{cs:List AV}{r r':List (Nat×List AV)}(h:D i=true)(hr:dmO D r=some r'):dmO D ((i,cs)::r)=some r':=by
 simp only [dmO,h,hr]
theorem vY {D:Nat->Bool}{i:Nat}{cs ds:List AV}{r r':List (Nat×List AV)}(h:D i=false)(hc:dmC D cs=some ds)(hr:dmO D r=some r'):dmO D ((i,cs)::r)=some ((i,ds)::r'):=by
 simp only [dmO,h,hc,hr]
theorem AV.sub_nilstk (tok sz:Nat):(AV.p (.val (.slice none 0 0))).sub (.stk tok sz []):=by
 intro w g v h
 cases h with
 | p h=>cases h; exact .stkn _ _
section
variable {C:Cx} {o:Oper} {K:AS->Prop} {sl:List (Nat×AV)} {ob:List (Nat×List AV)} {d:Nat}
theorem zI {α:Type}(f:α->PV)(L:List (Bk×α))(z:α){t kt et:TypeId}{x y:Operand}{i j:TI}{tok:Nat}{k:Bk}{zv:Value}(ho:o.op=.lookup t x y false)(hd:o.dst=some d)(hn:Nat.blt d C.n=true)
  (hi:look C.tt t=some i) (EP:i.k=.map kt et) (hj:look C.tt kt=some j) (hjk:j.k=.string) (hz:(C.P.info? et).map (·.zero)=some (some zv)) (hfz:f z=.val zv)
  (hx:evo sl x=some (.mp tok (L.map λ p=>(p.1,f p.2)))) (hy:evo sl y=some (.p (eS k))) (hK:K ⟨(d,.p (f ((j2 L k).getD z)))::sl,ob⟩):ba C o K ⟨sl,ob⟩:=by
 refine Ay ho hd hn hi EP hj hjk hz hx hy ?_ hK;rw [uW]
 cases j2 L k with
 | none=>exact hfz.symm
 | some v=>rfl
theorem AF {α:Type}(f:α->PV)(L:List (Bk×α))(u:α){t kt et:TypeId}{x y v:Operand}{i j:TI}{tok:Nat}{k:Bk}{sl':List (Nat×AV)}{ob':List (Nat×List AV)}(ho:o.op=.mapUpdate t x y v)(hd:o.dst=none)
  (hi:look C.tt t=some i) (EP:i.k=.map kt et) (hj:look C.tt kt=some j) (hjk:j.k=.string)
  (hx:evo sl x=some (.mp tok (L.map λ p=>(p.1,f p.2)))) (hy:evo sl y=some (.p (eS k))) (hv:evo sl v=some (.p (f u))) (htok:Nat.blt tok M1=true)
  (h1:upS tok ((pA L k u).map λ p=>(p.1,f p.2)) sl=some sl') (h2:dmO (Nat.beq · tok) ob=some ob') (hK:K ⟨sl',ob'⟩):ba C o K ⟨sl,ob⟩ :=
 C0 ho hd hi EP hj hjk hx hy hv htok (xd f L k u) h1 h2 hK
theorem wS {α:Type}(f:α->PV)(l:List α){t e:TypeId}{x:Operand}{i:TI}{k sz:Nat}(ho:o.op=.call { callee:=.builtin .len,args:=#[x],argTypes:=#[t] })(hd:o.dst=some d)(hn:Nat.blt d C.n=true)
  (hi:look C.tt t=some i) (EP:i.k=.slice e) (hx:evo sl x=some (.stk k sz (l.map f))) (hK:K ⟨(d,.p (eI (l.length:Int)))::sl,ob⟩):ba C o K ⟨sl,ob⟩ :=
 Bn ho hd hn hi EP hx (by rw [d3]; exact hK)
end
@[irreducible] def sO (n:Nat):List UInt8:=List.replicate n 0
section
variable {C:Cx} {o:Oper} {K:AS->Prop} {sl:List (Nat×AV)} {ob:List (Nat×List AV)} {d:Nat}
theorem vD {α:Type} [Inhabited α] (f:α->PV)(l:List α){t m e:Nat}{x y:Operand}{i ie:TI}{k:IntKind}{n:Int}(ho:o.op=.index t x y)(hd:o.dst=some d)(hn:Nat.blt d C.n=true)
  (hi:look C.tt t=some i) (EP:i.k=.array m e) (hie:look C.tt e=some ie) (hia:ie.k.isAgg=false) (hs1:ie.size=1) (hm:Nat.beq m l.length=true) (hx:evo sl x=some (.p (.agg (l.map f))))
  (hy:evo sl y=some (.p (.val (.int k n)))) (hb:0<=n/\n<(l.length:Int)) (hK:K ⟨(d,.p (f (lat l n)))::sl,ob⟩):ba C o K ⟨sl,ob⟩:=by
 obtain ⟨u,h1,h2⟩:=bF C.good hi;have h3:=qB (h2.trans EP);subst h3;have hm':=cl hm;refine ok_one hd hn (λ g a w hs=>?_) hK;have h5:=bu hs hx;generalize hv:a.eval x=v at h5
 cases h5 with
 | p h5=>
  cases h5 with
  | agg hl hh=>
   rename_i vs;have hlt:n.toNat<l.length:=by omega
   have hlt2:n.toNat<vs.size:=by rw [hl]; simpa using hlt
   have hnm:n<(m:Int):=by omega
   refine ⟨vs[n.toNat],by simp [execOp,ho,hv,ce hs hy,Instr.index,asIntOf,run_underlying h1,hb.1,hnm,run_sizeOf C.good hie,hs1,part,ma C.good hie,hia,hlt2],.p (hh n.toNat (f (lat l n)) _ ?_ (Array.getElem?_eq_getElem hlt2))⟩;simp [lat,List.getElem?_map,List.getElem?_eq_getElem hlt,List.getD_eq_getElem?_getD]
theorem br {t:TypeId}{x:Operand}{i:TI}{id k:Nat}{cs:List AV}{y:AV}(ho:o.op=.load t x)(hd:o.dst=some d)(hn:Nat.blt d C.n=true)
  (hi:look C.tt t=some i) (hia:i.k.isAgg=false) (hx:evo sl x=some (.ptr id k)) (hob:look ob id=some cs) (hy:cs[k]? = some y) (hK:K ⟨(d,y)::sl,ob⟩):ba C o K ⟨sl,ob⟩ :=
 bn ho hd hn hi hia hx hob hy hK
theorem zz {t:TypeId}{x:Operand}{i:TI}{id k:Nat}{cs:List AV}{y:AV}(ho:o.op=.load t x)(hd:o.dst=some d)(hn:Nat.blt d C.n=true)
  (hi:look C.tt t=some i) (hia:i.k.isAgg=true) (hx:evo sl x=some (.ptr id k)) (hob:look ob id=some cs) (hl:Nat.ble (k+i.size) cs.length=true) (hy:lM ((cs.drop k).take i.size)=y)
  (hK:K ⟨(d,y)::sl,ob⟩):ba C o K ⟨sl,ob⟩:=d5 ho hd hn hi hia hx hob hl (congrArg some hy) hK
theorem fg {t:TypeId}{x v:Operand}{i:TI}{id k:Nat}{cs xs ds:List AV}{y:AV}(ho:o.op=.store t x v)(hd:o.dst=none)
  (hi:look C.tt t=some i) (hx:evo sl x=some (.ptr id k)) (hv:evo sl v=some y) (hc:y.cellsA=some xs) (EH:Nat.beq xs.length i.size=true) (hob:look ob id=some cs) (hl:k+xs.length<=cs.length) (hu:na cs k xs=ds)
  (hK:K ⟨sl,(id,ds)::ob⟩):ba C o K ⟨sl,ob⟩:=by
 subst hu;exact em ho hd hi hx hv hc (cl EH) hob hl hK
theorem vp {α:Type}(f:α->PV)(hf:∀ x,(f x).one=true):∀ l:List α,AV.onesB ((l.map f).map .p)=true
 | []=>rfl
 | x::r=>by simp only [aq,AV.onesB,AV.one,hf x,vp f hf r,Bool.and_self]
theorem vz {α:Type}(f:α->PV)(l:List α){t:TypeId}{i:TI}{sl':List (Nat×AV)}{ob':List (Nat×List AV)}(hf:∀ x,(f x).one=true)(ho:o.op=.alloc t)(hd:o.dst=some d)(hn:Nat.blt d C.n=true)
  (hi:look C.tt t=some i) (hz:fj i=(l.map f).map .p) (h1:dmS (λ i=>Nat.beq i d) sl=some sl') (h2:dmO (λ i=>Nat.beq i d) ob=some ob') (hK:K ⟨(d,.ptr d 0)::sl',(d,(l.map f).map .p)::ob'⟩):ba C o K ⟨sl,ob⟩:=by
 refine fW ho hd hn hi ?_ ?_
 ·rw [hz]; simp only [AV.cellsA,vp f hf l,cond_true]
 ·rw [hz,mC];have e1:(co (λ i=>Nat.beq i d) ⟨sl,ob⟩).sl=sl':=(nA h1).symm;have e2:(co (λ i=>Nat.beq i d) ⟨sl,ob⟩).ob=ob':=(mI h2).symm;rw [e1,e2]; exact hK
theorem Ce (cs:List PV){t:TypeId}{v:Operand}{sl':List (Nat×AV)}{ob':List (Nat×List AV)}(ho:o.op=.box t v)(hd:o.dst=some d)(hn:Nat.blt d C.n=true)(hx:evo sl v=some (.p (.agg cs)))(h0:PV.onesB cs=true)
  (h1:dmS (λ i=>Nat.beq i d) sl=some sl') (h2:dmO (λ i=>Nat.beq i d) ob=some ob') (hK:K ⟨(d,.ptr d 0)::sl',(d,cs.map .p)::ob'⟩):ba C o K ⟨sl,ob⟩:=by
 refine yA ho hd hn hx (cs:=cs.map .p) (by simp only [AV.cellsA,h0,cond_true]) ?_;rw [mC];have e1:(co (λ i=>Nat.beq i d) ⟨sl,ob⟩).sl=sl':=(nA h1).symm;have e2:(co (λ i=>Nat.beq i d) ⟨sl,ob⟩).ob=ob':=(mI h2).symm;rw [e1,e2]; exact hK
theorem zm {α:Type}(f:α->PV)(l:List α){t:TypeId}{x:Operand}{i:TI}{id:Nat}(ho:o.op=.load t x)(hd:o.dst=some d)(hn:Nat.blt d C.n=true)
  (hi:look C.tt t=some i) (hia:i.k.isAgg=true) (hx:evo sl x=some (.ptr id 0)) (hob:look ob id=some ((l.map f).map .p)) (hl:Nat.beq i.size l.length=true)
  (hK:K ⟨(d,.p (.agg (l.map f)))::sl,ob⟩):ba C o K ⟨sl,ob⟩:=by
 have hl':=cl hl;refine d5 ho hd hn hi hia hx hob (by simp [hl']) (y:=.p (.agg (l.map f))) (congrArg some ?_) hK
 have e:(((l.map f).map AV.p).drop 0).take i.size=(l.map f).map AV.p:=by
  rw [List.drop_zero,hl']; exact List.take_of_length_le G
 rw [e]
 have ha:∀ q:List PV,tr (q.map .p)=some q:=by
  intro q
  induction q with
  | nil=>rfl
  | cons x r ih=>simp only [aq,tr,ih]
 simp only [lM,ha]
theorem tF:∀ q:List PV,tr (q.map .p)=some q
 | []=>rfl
 | x::r=>by simp only [aq,tr,tF r]
theorem Ch {α:Type}(f:α->PV)(l:List α){tt:List (Nat×TI)}{rs:List ResultVar}{s:AS}{c id:Nat}{t:TypeId}{i:TI}(hr:rs=[.cell c t])(hc:look s.sl c=some (.ptr id 0))(hob:look s.ob id=some ((l.map f).map .p))(hi:look tt t=some i)(hia:i.k.isAgg=true)
  (hl:Nat.beq i.size l.length=true):nC tt rs s=some [.p (.agg (l.map f))]:=by
 have hl':=cl hl;subst hr
 have e:(((l.map f).map AV.p).drop 0).take i.size=(l.map f).map AV.p:=by
  rw [List.drop_zero,hl']; exact List.take_of_length_le G
 have e2:Nat.ble (0+i.size) ((l.map f).map AV.p).length=true:=by simp [hl']
 simp only [nC,hc,hob,hi,hia,cond_true,e,e2,lM,tF]
theorem xB {α:Type}(f:α->PV)(l l2:List α){t:TypeId}{x v:Operand}{i:TI}{id:Nat}(ho:o.op=.store t x v)(hd:o.dst=none)
  (hi:look C.tt t=some i) (hx:evo sl x=some (.ptr id 0)) (hv:evo sl v=some (.p (.agg (l2.map f)))) (hob:look ob id=some ((l.map f).map .p)) (hf:∀ x,(f x).one=true) (hl:Nat.beq i.size l.length=true) (hl2:Nat.beq i.size l2.length=true)
  (hK:K ⟨sl,(id,(l2.map f).map .p)::ob⟩):ba C o K ⟨sl,ob⟩:=by
 have e1:=cl hl;have e2:=cl hl2
 have ho1:∀ q:List α,PV.onesB (q.map f)=true:=by
  intro q
  induction q with
  | nil=>rfl
  | cons x r ih=>simp only [aq,PV.onesB,hf x,ih,Bool.and_self]
 refine fg (xs:=(l2.map f).map .p) ho hd hi hx hv (by simp only [AV.cellsA,ho1 l2,cond_true]) (by simp [e2]) hob (by simp; omega) ?_ hK;unfold na;split
 ·rename_i y hy;have h3:=congrArg List.length hy;simp only [d3,List.length_cons,List.length_nil] at h3;rw [hy]
  match l,e1 with
  | [z],_=>rfl
  | [],e1=>simp at e1; omega
  | _::_::_,e1=>simp at e1; omega
 ·rw [List.take_zero,List.nil_append,rg (by simp; omega),List.append_nil]
theorem Ba {t:TypeId}{x:Operand}{s:List UInt8}{i:TI}{sl':List (Nat×AV)}{ob':List (Nat×List AV)}(ho:o.op=.range t x)(hd:o.dst=some d)(hn:Nat.blt d C.n=true)
  (hi:look C.tt t=some i) (EP:i.k=.string) (hx:evo sl x=some (.p (.val (.string ⟨s.toArray⟩)))) (h1:dmS (Nat.beq · d) sl=some sl') (h2:dmO (Nat.beq · d) ob=some ob')
  (hK:K ⟨(d,.it d s 0)::sl',ob'⟩):ba C o K ⟨sl,ob⟩:=by
 obtain ⟨u,hu1,hu2⟩:=bF C.good hi;have h3:=gD (hu2.trans EP);subst h3;intro g a w hs;have hdl:d<M1:=by have h1:=n6 C.nl; have h2:d<C.n:=dg ▸ hn; omega
 unfold Oper.wp
 have hrun:(execOp a.eval o).run C.P w=.ok (.value (.pointer (some ⟨w.heap.size,0,none⟩))) (w.alloc (.stringIter ⟨s.toArray⟩ 0)):=by
  simp [execOp,ho,Instr.range,ce hs hx,run_underlying hu1,newObj,Sem.run,Result.andThen]
 rw [hrun];obtain ⟨g',hg'⟩:∃ g':Gh,g'=⟨λ b o=>g.st b o\/(b=w.heap.size/\o=0),λ i=>if i=d then some w.heap.size else g.ow i⟩:=⟨_,rfl⟩
 have EH:(w.alloc (.stringIter ⟨s.toArray⟩ 0)).heap.size=w.heap.size+1:=by simp
 have EN:Ev w g.st (w.alloc (.stringIter ⟨s.toArray⟩ 0)) g'.st:=λ b o h=>⟨by rw [hg']; exact .inl h,World.cell?_alloc_lt w _ _ (hs.lt b o h)⟩
 have hs':St C.n C.w0 C.F g' (co (Nat.beq · d) ⟨sl,ob⟩) a (w.alloc (.stringIter ⟨s.toArray⟩ 0)):=by
  subst hg';refine hs.evolve (Nat.beq · d) (rR hdl) EN (λ id b hD h=>?_) (λ i j b hi hj=>?_) (λ i b hi=>?_) (λ b o h=>?_) (λ b hb=>?_) Z Z Z O (λ b hb o=>?_) (λ i hi=>?_)
  ·have E2:id≠d:=λ e=>by subst e; simp at hD
   have hlt:=(hs.own id b h).1;exact ⟨by simp only [if_neg E2]; exact h,db hlt,λ o h=>h.resolve_right λ e=>by omega⟩
  ·dsimp only at hi hj;by_cases e1:i=d <;> by_cases e2:j=d
   ·omega
   ·rw [if_pos e1] at hi; rw [if_neg e2] at hj; cases hi; have:=(hs.own j _ hj).1; omega
   ·rw [if_neg e1] at hi; rw [if_pos e2] at hj; cases hj; have:=(hs.own i _ hi).1; omega
   ·rw [if_neg e1] at hi; rw [if_neg e2] at hj; exact hs.inj i j b hi hj
  ·dsimp only at hi;by_cases e1:i=d
   ·rw [if_pos e1] at hi; cases hi;exact ⟨by omega,λ hF=>by have:=hs.fl _ hF; have:=hs.size; omega⟩
   ·rw [if_neg e1] at hi; have:=hs.own i b hi; exact ⟨by omega,this.2⟩
  ·rcases h with h|h
   ·have:=hs.lt b o h; omega
   ·omega
  ·exact db (by have:=hs.fl b hb; have:=hs.size; omega)
  ·have h1:=hs.fl b hb;have h2:=hs.size;exact ⟨λ h=>h.resolve_right λ e=>by omega,.inl⟩
  ·dsimp only;rw [if_neg O]
 refine ⟨g',⟨(d,.it d s 0)::sl',ob'⟩,?_,hK⟩
 have hp:=hs'.put (d:=o.dst) (λ t ht=>by rw [hd] at ht; cases ht; exact dg ▸ hn) (x:=.it d s 0) (v:=.pointer (some ⟨w.heap.size,0,none⟩))
  (.it (by rw [hg']; simp) dU (by rw [hg']; exact .inr ⟨Z,Z⟩))
 rw [hd] at hp ⊢;rw [nA h1,mI h2];exact hp
theorem wO {n:Nat}{w0:Base}{w:World}{F:Nat->Prop}{g:Gh}{s:AS}{a:Act}(_hs:St n w0 F g s a w){tok pos:Nat}{l:List UInt8}{v:Value}(h:ARep w g (.it tok l pos) v) :
  ∃ b,v=.pointer (some ⟨b,0,none⟩)/\g.ow tok=some b/\w.heap[b]? = some (.stringIter ⟨l.toArray⟩ pos)/\g.st b 0:=by
 cases h with
 | it how hb hm=>exact ⟨_,Z,how,hb,hm⟩
theorem Al {x:Operand}{s:List UInt8}{tok pos:Nat}(ho:o.op=.next x true)(hd:o.dst=some d)(hn:Nat.blt d C.n=true)
  (hx:evo sl x=some (.it tok s pos)) (hp:¬ pos<s.length) (hK:K ⟨(d,.tuple [.p (eB false)])::sl,ob⟩):ba C o K ⟨sl,ob⟩:=by
 refine ok_one hd hn (λ g a w hs=>?_) hK;obtain ⟨b,hv,_,hb,_⟩:=wO hs (bu hs hx);refine ⟨.tuple #[.bool false],?_,.tuple rfl λ i c v h1 h2=>?_⟩
 ·have EH:¬ pos<(⟨s.toArray⟩:ByteArray).size:=by simpa [ByteArray.size] using hp
  have:=Go.Lib.run_next_end_at (P:=C.P) w b ⟨s.toArray⟩ pos o.type hb EH;simp [execOp,ho,hv,this]
 ·match i,h1,h2 with
  | 0,h1,h2=>simp at h1 h2; subst h1 h2; exact .p (.val _)
theorem BM {j:Nat}{s:List UInt8}{tok pos:Nat}{sl':List (Nat×AV)}{ob':List (Nat×List AV)}(ho:o.op=.next (.tmp j) true)(hd:o.dst=some d)(hn:Nat.blt d C.n=true)(hj:Nat.blt j C.n=true)
  (hx:evo sl (.tmp j)=some (.it tok s pos)) (htok:Nat.blt tok M1=true) (hp:pos<s.length) (ha:(s.getD pos 0).toNat<128) (h1:dmS (Nat.beq · tok) sl=some sl') (h2:dmO (Nat.beq · tok) ob=some ob')
  (_hdj:Nat.beq d j=false) (hK:K ⟨(d,.tuple [.p (eB true),.p (eI (pos:Int)),.p (eK .i32 ((s.getD pos 0).toNat:Int))])::(j,.it tok s (pos+1))::sl',ob'⟩):ba C o K ⟨sl,ob⟩:=by
 intro g a w hs;obtain ⟨b,hv,how,hb,hm⟩:=wO hs (bu hs hx);have htl:tok<M1:=dg ▸ htok;have hbl:=(hs.own tok b how).1;unfold Oper.wp;have EH:pos<(⟨s.toArray⟩:ByteArray).size:=by simpa [ByteArray.size] using hp
 have hg0:(⟨s.toArray⟩:ByteArray)[pos]'EH=s.getD pos 0:=by
  rw [List.getD_eq_getElem?_getD,List.getElem?_eq_getElem hp]; rfl
 have hnx:=Go.Lib.run_next_ascii_at (P:=C.P) w b ⟨s.toArray⟩ pos o.type hb EH (by rw [hg0]; exact ha);rw [hg0] at hnx
 have hrun:(execOp a.eval o).run C.P w=.ok (.value (.tuple #[.bool true,.int .i64 pos,.int .i32 (s.getD pos 0).toNat])) (w.iterAt b ⟨s.toArray⟩ (pos+1)):=by
  simp [execOp,ho,hv,hnx]
 rw [hrun]
 have hheap:∀ b',b'≠b->(w.iterAt b ⟨s.toArray⟩ (pos+1)).heap[b']? = w.heap[b']?:=λ b' E2=>by
  simp only [World.iterAt,Array.getElem?_setIfInBounds];rw [if_neg O]
 have hheapb:=Go.Lib.iterAt_heap w b ⟨s.toArray⟩ pos (pos+1) hb;have hwsz:(w.iterAt b ⟨s.toArray⟩ (pos+1)).heap.size=w.heap.size:=by simp [World.iterAt]
 have EM:∀ b' o',(w.iterAt b ⟨s.toArray⟩ (pos+1)).cell? ⟨b',o',none⟩=w.cell? ⟨b',o',none⟩:=λ b' o'=>by
  by_cases e:b'=b
  ·subst e;simp only [World.cell?,hheapb,hb]
  ·simp only [World.cell?,hheap b' e]
 have hs':St C.n C.w0 C.F g (co (Nat.beq · tok) ⟨sl,ob⟩) a (w.iterAt b ⟨s.toArray⟩ (pos+1)):=by
  refine hs.evolve (Nat.beq · tok) (rR htl) (λ b' o' h=>⟨h,EM b' o'⟩) (λ id b' hD h=>⟨h,hheap b' λ e=>?_,λ o h=>h⟩) hs.inj (λ i b' h=>by rw [hwsz]; exact hs.own i b' h) (λ b' o' h=>by rw [hwsz]; exact hs.lt b' o' h) (λ b' hb'=>hheap b' λ e=>?_) Z Z Z O (λ b' _ o'=>Iff.rfl) (λ i _=>rfl)
  ·subst e;have:=hs.inj id tok b' h how;subst this;simp at hD
  ·subst e;exact (hs.own tok b' how).2 hb'
 have hjd:j<C.n:=dg ▸ hj;refine ⟨g,⟨(d,.tuple [.p (eB true),.p (eI (pos:Int)),.p (eK .i32 ((s.getD pos 0).toNat:Int))])::(j,.it tok s (pos+1))::sl',ob'⟩,?_,hK⟩
 have hs2:St C.n C.w0 C.F g ⟨(j,.it tok s (pos+1))::sl',ob'⟩ a (w.iterAt b ⟨s.toArray⟩ (pos+1)):=by
  rw [nA h1,mI h2];refine { hs' with sl:=λ i=>?_ };simp only [AS.get,a6];by_cases e:j=i
  ·subst e;rw [if_pos rfl];simp only [n8];have:a.eval (.tmp j)=a.tmps.getD j Go.undef:=rfl;rw [<- this,hv];exact .it how hheapb hm
  ·rw [if_neg e];exact hs'.sl i
 have hp2:=hs2.put (d:=o.dst) (λ t ht=>by rw [hd] at ht; cases ht; exact dg ▸ hn) (x:=.tuple [.p (eB true),.p (eI (pos:Int)),.p (eK .i32 ((s.getD pos 0).toNat:Int))]) (v:=.tuple #[.bool true,.int .i64 pos,.int .i32 (s.getD pos 0).toNat])
  (.tuple Z λ i c v h1 h2=>by
   match i,h1,h2 with
   | 0,h1,h2=>simp at h1 h2; subst h1 h2; exact .p (.val _)
   | 1,h1,h2=>simp at h1 h2; subst h1 h2; exact .p (.val _)
   | 2,h1,h2=>simp at h1 h2; subst h1 h2; exact .p (.val _))
 rw [hd] at hp2 ⊢;exact hp2
end
def ki:List UInt8:=[0,0,0,0,0,0,0,0,0,1,6,0,0,1,0,0,0,0,0,0,0,0,0,0,0,0,0,0,0,0,0,0,1,4,5,7,0,4,4,0,4,4,4,4,4,4,4,4,3,3,3,3,3,3,3,3,3,3,4,0,4,4,4,4,0,2,2,2,2,2,2,2,2,2,2,2,2,2,2,2,2,2,2,2,2,2,2,2,2,2,2,4,0,4,0,2,0,2,2,2,2,2,2,2,2,2,2,2,2,2,2,2,2,2,2,2,2,2,2,2,2,2,2,4,4,4,0,0,0,0,0,0,0,0,0,0,0,0,0,0,0,0,0,0,0,0,0,0,0,0,0,0,0,0,0,0,0,0,0,0,0,0,0,0,0,0,0,0,0,0,0,0,0,0,0,0,0,0,0,0,0,0,0,0,0,0,0,0,0,0,0,0,0,0,0,0,0,0,0,0,0,0,0,0,0,0,0,0,0,0,0,0,0,0,0,0,0,0,0,0,0,0,0,0,0,0,0,0,0,0,0,0,0,0,0,0,0,0,0,0,0,0,0,0,0,0,0,0,0,0,0,0,0,0,0,0]
theorem xp:ki.length=256:=by kernel_rfl
def Aj:List PV:=ki.map eU
theorem mh:Aj.length=256:=by rw [Aj,d3,xp]
structure aa where
 fs:Bk
 fat:Int
 Eu:Int
 AT:aE
 deriving Inhabited
def aa.cs (x:aa):List PV:=eS x.fs::eI x.fat::(Aj++[eI x.Eu,eI x.AT.AI,eI x.AT.fAt,eS x.AT.By])
theorem aa.len (x:aa):((aa.cs x).map AV.p).length=262:=by simp [aa.cs,mh]
theorem aa.g_s (x:aa):((aa.cs x).map AV.p)[0]? = some (.p (eS x.fs)):=rfl
theorem aa.g_at (x:aa):((aa.cs x).map AV.p)[1]? = some (.p (eI x.fat)):=rfl
theorem aa.g_outer (x:aa):((aa.cs x).map AV.p)[2+256]? = some (.p (eI x.Eu)):=by
 simp only [aa.cs,aq,List.map_append,List.getElem?_cons_succ];rw [List.getElem?_append_right (by simp [mh])];simp [mh]
theorem aa.g_class (x:aa){n:Int}(h:0<=n/\n<256):((aa.cs x).map AV.p)[2+n.toNat*1]? = some (.p (eU (lat ki n))):=by
 have hn:n.toNat<256:=by omega
 have e:2+n.toNat*1=n.toNat+1+1:=by omega
 rw [e];simp only [aa.cs,aq,List.map_append,List.getElem?_cons_succ];rw [List.getElem?_append_left (by simp [mh]; omega)];simp [Aj,lat,List.getElem?_map,List.getElem?_eq_getElem (show n.toNat<ki.length by rw [xp]; exact hn)]
def aa.hd (x:aa):List AV:=(eS x.fs::eI x.fat::(Aj++[eI x.Eu])).map .p
theorem aa.hd_len (x:aa):x.hd.length=259:=by simp [aa.hd,mh]
theorem aa.cs_hd (x:aa):(aa.cs x).map AV.p=x.hd++(aE.cs x.AT).map .p:=by
 simp [aa.cs,aa.hd,aE.cs]
theorem aa.l_bad (x:aa):Nat.ble (2+256+1+3) ((aa.cs x).map AV.p).length=true:=by rw [aa.len]; rfl
theorem aa.g_bad (x:aa):lM ((((aa.cs x).map AV.p).drop (2+256+1)).take 3)=.p (.agg (aE.cs x.AT)):=by
 rw [aa.cs_hd,List.drop_append_of_le_length (by rw [aa.hd_len]; decide),rg (by rw [aa.hd_len]; decide)]
 rfl
theorem aa.b_at (x:aa):1+1<=((aa.cs x).map AV.p).length:=by rw [aa.len]; decide
theorem aa.b_outer (x:aa):2+256+1<=((aa.cs x).map AV.p).length:=by rw [aa.len]; decide
theorem aa.b_bad (x:aa):2+256+1+3<=((aa.cs x).map AV.p).length:=by rw [aa.len]; decide
theorem aa.u_at (x:aa){v:Int}:na ((aa.cs x).map AV.p) 1 [.p (eI v)]=(aa.cs (.mk x.fs v x.Eu x.AT)).map .p:=by
 simp only [na,aa.cs,aq,List.set_cons_succ,List.set_cons_zero]
theorem aa.u_outer (x:aa){v:Int}:na ((aa.cs x).map AV.p) (2+256) [.p (eI v)]=(aa.cs (.mk x.fs x.fat v x.AT)).map .p:=by
 simp only [na,aa.cs,aq,List.map_append,List.set_cons_succ];rw [List.set_append_right _ _ (by simp [mh])];simp [mh]
theorem aa.u_bad (x:aa){k a:Int}{n:Bk}:na ((aa.cs x).map AV.p) (2+256+1) [.p (eI k),.p (eI a),.p (eS n)]=(aa.cs (.mk x.fs x.fat x.Eu (.mk k a n))).map .p:=by
 have e:na ((aa.cs x).map AV.p) 259 [.p (eI k),.p (eI a),.p (eS n)]=((aa.cs x).map AV.p).take 259++(aE.cs (.mk k a n)).map .p++((aa.cs x).map AV.p).drop (259+3):=rfl;show na ((aa.cs x).map AV.p) 259 [.p (eI k),.p (eI a),.p (eS n)]=_;rw [e,aa.cs_hd,aa.cs_hd,List.take_append_of_le_length (by rw [aa.hd_len]; decide),List.take_of_length_le (by rw [aa.hd_len]; decide),rg (by rw [qr,aa.hd_len]; simp [aE.cs]),List.append_nil]
 rfl
end Go.Ab
end
section
namespace Go.Ab.R06
open Go.Proofs Go.Ab Go.Ab.RB
attribute [local irreducible] awp gg ba aF aU AV.sub M cB
def hU:Nat->Int->(List UInt8)->Option (List UInt8)|0,_,_=>none|m+1,c8,l9=>if c8<=122 then ck ((0:Int)<=c8/\(c8:Int)<256)<|ck ((c8:Int)<(l9.length:Int))<|ck ((0:Int)<=IntKind.wrap .i32 ((IntKind.wrap .i32 (c8-97))+65)/\(IntKind.wrap .i32 ((IntKind.wrap .i32 (c8-97))+65):Int)<256)<|ck ((IntKind.wrap .i32 ((IntKind.wrap .i32 (c8-97))+65):Int)<((l9.set c8.toNat (2:UInt8)).length:Int))<|hU m (IntKind.wrap .i32 (c8+1)) ((l9.set c8.toNat (2:UInt8)).set ((IntKind.wrap .i32 ((IntKind.wrap .i32 (c8-97))+65)).toNat) (2:UInt8))else some l9
def hZ:Nat->Int->(List UInt8)->Option (List UInt8)|0,_,_=>none|m+1,GX,l24=>if GX<=57 then ck ((0:Int)<=GX/\(GX:Int)<256)<|ck ((GX:Int)<(l24.length:Int))<|hZ m (IntKind.wrap .i32 (GX+1)) (l24.set GX.toNat (3:UInt8))else some l24
def ic:Nat->Nat->(List UInt8)->Option (List UInt8)|0,_,_=>none|m+1,t37,l38=>if t37<([123,125,91,93,40,41,44,61,60,62,43,45,42,47,37,33,38,124,63,58,46]:Bk).length then ck ((([123,125,91,93,40,41,44,61,60,62,43,45,42,47,37,33,38,124,63,58,46]:Bk).getD t37 0).toNat<128)<|ck ((0:Int)<=((([123,125,91,93,40,41,44,61,60,62,43,45,42,47,37,33,38,124,63,58,46]:Bk).getD t37 0).toNat:Int)/\(((([123,125,91,93,40,41,44,61,60,62,43,45,42,47,37,33,38,124,63,58,46]:Bk).getD t37 0).toNat:Int):Int)<256)<|ck ((((([123,125,91,93,40,41,44,61,60,62,43,45,42,47,37,33,38,124,63,58,46]:Bk).getD t37 0).toNat:Int):Int)<(l38.length:Int))<|ic m (t37+1) (l38.set (((([123,125,91,93,40,41,44,61,60,62,43,45,42,47,37,33,38,124,63,58,46]:Bk).getD t37 0).toNat:Int).toNat) (4:UInt8))else some l38
def nw (n:Nat):Option (List UInt8) :=(hU n 97 (sO 256)).bind λ l17=>(hZ n 48 l17).bind λ l30=>(ic n 0 l30).bind λ l45=>ck ((0:Int)<=95/\(95:Int)<256)<|ck ((95:Int)<(l45.length:Int))<|ck ((0:Int)<=34/\(34:Int)<256)<|ck ((34:Int)<((l45.set ((95:Int).toNat) (2:UInt8)).length:Int))<|ck ((0:Int)<=35/\(35:Int)<256)<|ck ((35:Int)<(((l45.set ((95:Int).toNat) (2:UInt8)).set ((34:Int).toNat) (5:UInt8)).length:Int))<|ck ((0:Int)<=10/\(10:Int)<256)<|ck ((10:Int)<((((l45.set ((95:Int).toNat) (2:UInt8)).set ((34:Int).toNat) (5:UInt8)).set ((35:Int).toNat) (7:UInt8)).length:Int))<|ck ((0:Int)<=32/\(32:Int)<256)<|ck ((32:Int)<(((((l45.set ((95:Int).toNat) (2:UInt8)).set ((34:Int).toNat) (5:UInt8)).set ((35:Int).toNat) (7:UInt8)).set ((10:Int).toNat) (6:UInt8)).length:Int))<|ck ((0:Int)<=9/\(9:Int)<256)<|ck ((9:Int)<((((((l45.set ((95:Int).toNat) (2:UInt8)).set ((34:Int).toNat) (5:UInt8)).set ((35:Int).toNat) (7:UInt8)).set ((10:Int).toNat) (6:UInt8)).set ((32:Int).toNat) (1:UInt8)).length:Int))<|ck ((0:Int)<=13/\(13:Int)<256)<|ck ((13:Int)<(((((((l45.set ((95:Int).toNat) (2:UInt8)).set ((34:Int).toNat) (5:UInt8)).set ((35:Int).toNat) (7:UInt8)).set ((10:Int).toNat) (6:UInt8)).set ((32:Int).toNat) (1:UInt8)).set ((9:Int).toNat) (1:UInt8)).length:Int))<|ck (Nat.beq 256 (((((((l45.set ((95:Int).toNat) (2:UInt8)).set ((34:Int).toNat) (5:UInt8)).set ((35:Int).toNat) (7:UInt8)).set ((10:Int).toNat) (6:UInt8)).set ((32:Int).toNat) (1:UInt8)).set ((9:Int).toNat) (1:UInt8)).set ((13:Int).toNat) (1:UInt8)).length=true)<|ck (Nat.beq 256 (sO 256).length=true/\Nat.beq 256 (((((((l45.set ((95:Int).toNat) (2:UInt8)).set ((34:Int).toNat) (5:UInt8)).set ((35:Int).toNat) (7:UInt8)).set ((10:Int).toNat) (6:UInt8)).set ((32:Int).toNat) (1:UInt8)).set ((9:Int).toNat) (1:UInt8)).set ((13:Int).toNat) (1:UInt8)).length=true)<|some (((((((l45.set ((95:Int).toNat) (2:UInt8)).set ((34:Int).toNat) (5:UInt8)).set ((35:Int).toNat) (7:UInt8)).set ((10:Int).toNat) (6:UInt8)).set ((32:Int).toNat) (1:UInt8)).set ((9:Int).toNat) (1:UInt8)).set ((13:Int).toNat) (1:UInt8))
theorem rA (n:Nat)(r:(List UInt8))(h0:nw n=some r):aF Tryz.prog 81 [] (·=.p (.agg (r.map eU))):=by
 unfold nw at h0;refine aZ good Tryz.func81 Z Z Z λ w0=>mP (λ v:(List UInt8)=>.p (.agg (v.map eU))) ?_;refine nx 2 Z (mO Z (vz eU (sO 256) Y Z Z Z Z (by kernel_rfl) Z Z ?_));refine nx 3 Z (mO Z (vz eU (sO 256) Y Z Z Z Z (by kernel_rfl) Z (by repeat (first|apply vX Z|apply ue Z|apply vY Z Z|exact rfl)) ?_));refine nx 7 Z (bd h0 λ o65 h1 h0=>?_);refine kE 0 o65 (λ v66=>⟨[(0,.ptr 0 0),(1,.ptr 1 0)],[(0,((sO 256).map eU).map .p),(1,(v66.map eU).map .p)]⟩) ?_ ?_
 ·refine nx 7 Z (bd h0 λ Fx h1 h0=>?_);refine kE 2 Fx (λ Ke=>⟨[(0,.ptr 0 0),(1,.ptr 1 0)],[(0,((sO 256).map eU).map .p),(1,(Ke.map eU).map .p)]⟩) ?_ ?_
  ·refine nx 4 Z (mO Z (Ba Z Z Z Z Z Z Z (by repeat (first|apply vX Z|apply ue Z|apply vY Z Z|exact rfl)) ?_));refine nx 2 Z (bd h0 λ GG h1 h0=>?_);refine kE 4 GG (λ Kd=>⟨[(0,.ptr 0 0),(1,.ptr 1 0)],[(0,((sO 256).map eU).map .p),(1,(Kd.map eU).map .p)]⟩) ?_ ?_
   ·refine nx 3 Z (cc' h0 λ L5 h0=>?_);refine cc' h0 λ G2 h0=>mO Z (dk Z Z Z Z Z Z Z Z Z L5 ?_);refine mO Z (ij (f:=eU) (l:=GG) (b:=(2:UInt8)) Z Z Z Z Z Z Z Z (by have:=(And.intro L5.1 G2); first|omega|(dsimp only; omega)) ?_);refine cc' h0 λ Hf h0=>cc' h0 λ L4 h0=>mO Z (dk Z Z Z Z Z Z Z Z Z Hf ?_);refine mO Z (ij (f:=eU) (l:=GG.set ((95:Int).toNat) (2:UInt8)) (b:=(5:UInt8)) Z Z Z Z Z Z Z Z (by have:=(And.intro Hf.1 L4); first|omega|(dsimp only; omega)) ?_);refine cc' h0 λ Iz h0=>cc' h0 λ IX h0=>mO Z (dk Z Z Z Z Z Z Z Z Z Iz ?_);refine mO Z (ij (f:=eU) (l:=(GG.set ((95:Int).toNat) (2:UInt8)).set ((34:Int).toNat) (5:UInt8)) (b:=(7:UInt8)) Z Z Z Z Z Z Z Z (by have:=(And.intro Iz.1 IX); first|omega|(dsimp only; omega)) ?_);refine cc' h0 λ Nq h0=>cc' h0 λ IW h0=>mO Z (dk Z Z Z Z Z Z Z Z Z Nq ?_);refine mO Z (ij (f:=eU) (l:=((GG.set ((95:Int).toNat) (2:UInt8)).set ((34:Int).toNat) (5:UInt8)).set ((35:Int).toNat) (7:UInt8)) (b:=(6:UInt8)) Z Z Z Z Z Z Z Z (by have:=(And.intro Nq.1 IW); first|omega|(dsimp only; omega)) ?_);refine nx 3 Z (cc' h0 λ JU h0=>?_);refine cc' h0 λ KB h0=>mO Z (dk Z Z Z Z Z Z Z Z Z JU ?_);refine mO Z (ij (f:=eU) (l:=(((GG.set ((95:Int).toNat) (2:UInt8)).set ((34:Int).toNat) (5:UInt8)).set ((35:Int).toNat) (7:UInt8)).set ((10:Int).toNat) (6:UInt8)) (b:=(1:UInt8)) Z Z Z Z Z Z Z Z (by have:=(And.intro JU.1 KB); first|omega|(dsimp only; omega)) ?_);refine cc' h0 λ KZ h0=>cc' h0 λ JS h0=>mO Z (dk Z Z Z Z Z Z Z Z Z KZ ?_);refine mO Z (ij (f:=eU) (l:=((((GG.set ((95:Int).toNat) (2:UInt8)).set ((34:Int).toNat) (5:UInt8)).set ((35:Int).toNat) (7:UInt8)).set ((10:Int).toNat) (6:UInt8)).set ((32:Int).toNat) (1:UInt8)) (b:=(1:UInt8)) Z Z Z Z Z Z Z Z (by have:=(And.intro KZ.1 JS); first|omega|(dsimp only; omega)) ?_);refine cc' h0 λ KY h0=>cc' h0 λ L3 h0=>mO Z (dk Z Z Z Z Z Z Z Z Z KY ?_);refine mO Z (ij (f:=eU) (l:=(((((GG.set ((95:Int).toNat) (2:UInt8)).set ((34:Int).toNat) (5:UInt8)).set ((35:Int).toNat) (7:UInt8)).set ((10:Int).toNat) (6:UInt8)).set ((32:Int).toNat) (1:UInt8)).set ((9:Int).toNat) (1:UInt8)) (b:=(1:UInt8)) Z Z Z Z Z Z Z Z (by have:=(And.intro KY.1 L3); first|omega|(dsimp only; omega)) ?_);refine nx 3 Z (cc' h0 λ IV h0=>?_);refine mO Z (zm eU (((((((GG.set ((95:Int).toNat) (2:UInt8)).set ((34:Int).toNat) (5:UInt8)).set ((35:Int).toNat) (7:UInt8)).set ((10:Int).toNat) (6:UInt8)).set ((32:Int).toNat) (1:UInt8)).set ((9:Int).toNat) (1:UInt8)).set ((13:Int).toNat) (1:UInt8)) Z Z Z Z Z Z Z IV ?_);refine cc' h0 λ KX h0=>mO Z (xB eU (sO 256) (((((((GG.set ((95:Int).toNat) (2:UInt8)).set ((34:Int).toNat) (5:UInt8)).set ((35:Int).toNat) (7:UInt8)).set ((10:Int).toNat) (6:UInt8)).set ((32:Int).toNat) (1:UInt8)).set ((9:Int).toNat) (1:UInt8)).set ((13:Int).toNat) (1:UInt8)) Z Z Z Z Z Z Y KX.1 KX.2 ?_);exact nx 2 Z (mQ (oi h0) (Ch eU (((((((GG.set ((95:Int).toNat) (2:UInt8)).set ((34:Int).toNat) (5:UInt8)).set ((35:Int).toNat) (7:UInt8)).set ((10:Int).toNat) (6:UInt8)).set ((32:Int).toNat) (1:UInt8)).set ((9:Int).toNat) (1:UInt8)).set ((13:Int).toNat) (1:UInt8)) Z Z Z Z Z IV) (sr))
   refine lG (λ (KT:Nat×(List UInt8))=>⟨[(0,.ptr 0 0),(1,.ptr 1 0),(22,.it 22 ([123,125,91,93,40,41,44,61,60,62,43,45,42,47,37,33,38,124,63,58,46]:Bk) KT.1)],[(0,((sO 256).map eU).map .p),(1,(KT.2.map eU).map .p)]⟩) (λ m (KT:Nat×(List UInt8))=>ic m KT.1 KT.2) Y (0,Fx) h1 (gE rfl rfl) ?_;rintro m ⟨t37,l38⟩ h1;replace h1:ic (m+1) t37 l38=some GG:=h1;rw [ic] at h1;refine nx 2 rfl (fD (p:=t37<([123,125,91,93,40,41,44,61,60,62,43,45,42,47,37,33,38,124,63,58,46]:Bk).length) [] h1 rfl (λ J2 h1=>?_) λ J2 h1=>?_)
   ·refine cc' h1 λ JW h1=>mO Z (BM Z Z Z Z Z Z J2 JW Z (by repeat (first|apply vX Z|apply ue Z|apply vY Z Z|exact rfl)) Z ?_);refine nx 13 Z (cc' h1 λ FO h1=>?_);refine cc' h1 λ Gm h1=>mO Z (dk Z Z Z Z Z Z Z Z Z FO ?_);refine mO Z (ij (f:=eU) (l:=l38) (b:=(4:UInt8)) Z Z Z Z Z Z Z Z (by have:=(And.intro FO.1 Gm); first|omega|(dsimp only; omega)) ?_);exact nx 1 Z (eX (t37+1,l38.set (((([123,125,91,93,40,41,44,61,60,62,43,45,42,47,37,33,38,124,63,58,46]:Bk).getD t37 0).toNat:Int).toNat) (4:UInt8)) h1 (gE Z Z))
   refine mO Z (Al Z Z Z Z J2 ?_);exact nx 5 Z (eXi _ (oi h1).symm (gE Z Z))
  refine lG (λ (Km:Int×(List UInt8))=>⟨[(0,.ptr 0 0),(1,.ptr 1 0),(3,.p (eK .i32 Km.1))],[(0,((sO 256).map eU).map .p),(1,(Km.2.map eU).map .p)]⟩) (λ m (Km:Int×(List UInt8))=>hZ m Km.1 Km.2) Y (48,o65) h1 (gE rfl rfl) ?_;rintro m ⟨GX,l24⟩ h1;replace h1:hZ (m+1) GX l24=some Fx:=h1;rw [hZ] at h1;refine nx 6 rfl (fD [17] h1 rfl (λ HO h1=>?_) λ HO h1=>?_)
  ·refine nx 6 Z (cc' h1 λ FV h1=>?_);refine cc' h1 λ HM h1=>mO Z (dk Z Z Z Z Z Z Z Z Z FV ?_);refine mO Z (ij (f:=eU) (l:=l24) (b:=(3:UInt8)) Z Z Z Z Z Z Z Z (by have:=(And.intro FV.1 HM); first|omega|(dsimp only; omega)) ?_);exact nx 6 Z (eX (IntKind.wrap .i32 (GX+1),l24.set GX.toNat (3:UInt8)) h1 (gE Z Z))
  exact nx 2 Z (eXi _ (oi h1).symm (gE Z Z))
 refine lG (λ (I7:Int×(List UInt8))=>⟨[(0,.ptr 0 0),(1,.ptr 1 0),(2,.p (eK .i32 I7.1))],[(0,((sO 256).map eU).map .p),(1,(I7.2.map eU).map .p)]⟩) (λ m (I7:Int×(List UInt8))=>hU m I7.1 I7.2) Y (97,sO 256) h1 (gE rfl rfl) ?_;rintro m ⟨c8,l9⟩ h1;replace h1:hU (m+1) c8 l9=some o65:=h1;rw [hU] at h1;refine nx 6 rfl (fD [7] h1 rfl (λ FP h1=>?_) λ FP h1=>?_)
 ·refine nx 9 Z (cc' h1 λ Hh h1=>?_);refine cc' h1 λ HC h1=>mO Z (dk Z Z Z Z Z Z Z Z Z Hh ?_);refine mO Z (ij (f:=eU) (l:=l9) (b:=(2:UInt8)) Z Z Z Z Z Z Z Z (by have:=(And.intro Hh.1 HC); first|omega|(dsimp only; omega)) ?_);refine cc' h1 λ HV h1=>cc' h1 λ HU h1=>mO Z (dk Z Z Z Z Z Z Z Z Z HV ?_);refine mO Z (ij (f:=eU) (l:=l9.set c8.toNat (2:UInt8)) (b:=(2:UInt8)) Z Z Z Z Z Z Z Z (by have:=(And.intro HV.1 HU); first|omega|(dsimp only; omega)) ?_);exact nx 6 Z (eX (IntKind.wrap .i32 (c8+1),(l9.set c8.toNat (2:UInt8)).set ((IntKind.wrap .i32 ((IntKind.wrap .i32 (c8-97))+65)).toNat) (2:UInt8)) h1 (gE Z Z))
 exact nx 2 Z (eXi _ (oi h1).symm (gE Z Z))
theorem rm:nw 64=some ki:=by kernel_rfl
def jA (Ez:Bk):Option aa:=some (.mk Ez 0 (-1) (.mk 0 0 []))
theorem aa.ones (x:aa):PV.onesB (aa.cs x)=true:=by kernel_rfl
theorem lS (Ez:Bk)(r:aa)(h0:jA Ez=some r):aU Tryz.prog 46 [.p (eS Ez)] [] (λ x y=>x=.ptr 2000000 0/\y=[(2000000,(aa.cs r).map .p)]):=by
 unfold jA at h0;refine bT good [6] [6] Tryz.func46 Z Z Z Z Z λ w0 F=>mPo (λ _:aa=>.ptr 2000000 0) (λ v=>[(2000000,(aa.cs v).map .p)]) ?_;refine nx 7 Z ?_;refine oK (rA 64 _ rm) Z trivial Tryz.call81 Z ?_;refine mO Z (gH (cs:=(aa.cs (.mk Ez 0 (-1) (.mk 0 0 []))).map .p) (y:=.p (.agg (aa.cs (.mk Ez 0 (-1) (.mk 0 0 []))))) Z Z Z Z Z Z Z (by kernel_rfl) (by simp only [lM,tF]) ?_);refine mO Z (Ce (aa.cs (.mk Ez 0 (-1) (.mk 0 0 []))) Z Z Z Z (aa.ones _) Z Z ?_);exact nx 4 Z (mQo (oi h0) (ay _) Z Z Z (aA Z (aD _) Z) (sr) ⟨⟨_,Z,aM _⟩,trivial⟩)
end Go.Ab.R06
end
section
namespace Go.Ab
structure PreO (w:World)(g:Gh):Prop where
 ok:Ok0 w g.st
 own:∀ i b,g.ow i=some b->b<w.heap.size/\i<2*M1
 inj:∀ i j b,g.ow i=some b->g.ow j=some b->i=j
 nst:∀ i b,M1<=i->g.ow i=some b->∀ o,¬ g.st b o
def C8 (w:World)(g:Gh)(R:AV->List (Nat×List AV)->Prop)(v:Value)(w':World):Prop :=∃ r obs' g',R r obs'/\ARep w' g' r v/\(∀ p∈obs',iZ w' g' p.1 p.2)/\nG w g w' g'
def yd (P:Program)(f:FuncId)(args:List AV)(Fa:List (Nat×List AV))(R:AV->List (Nat×List AV)->Prop):Prop :=∀ (w:World) (g:Gh) (vs:Array Value) (u:FrameMode),PreO w g->vs.size=args.length->(∀ (i:Nat) c v,args[i]? = some c->vs[i]? = some v->ARep w g c v)->(∀ id cs,look Fa id=some cs->iZ w g id cs) -> CallsD P f vs u w λ e u' w'=>u'=u/\∃ v,e=.returned v/\C8 w g R v w'
theorem DL {P:Program}{tt:List (Nat×TI)}(good:dD P tt){f:FuncId}{fn:Func}{c:Code}{args:List AV}{Fa rob:List (Nat×List AV)}{r:AV}(ts ids:List Nat)(hf:P.funcs[f]? = some fn)(hb:fn.body=some c)
  (hn:Nat.ble args.length fn.ntmps=true) (hnl:Nat.ble fn.ntmps M1=true) (hts:ts.all (λ i=>Nat.blt i M1)=true) (hnd:nodupB ts=true)
  (h:∀ w0 F,awp ⟨P,tt,good,fn.ntmps,hnl,w0,F⟩ c (uA ⟨P,tt,good,fn.ntmps,hnl,w0,F⟩ tt fn ts ids r rob) ⟨ge args,Fa⟩):yd P f args Fa (λ x y=>x.sub r/\leO y rob) :=
 λ _ _ _ _ hp h1 h2 h3=>(callsD_of_wp hf hb (qR good ts ids (n6 hn) hnl hts hnd (λ w0 F=>rL (h w0 F)) hp.ok hp.own hp.inj hp.nst h1 h2 h3)).mono
  λ _ _ _ ⟨hu,v,r,obs',g',he,hR,e1,e2,e3⟩=>⟨hu,v,he,r,obs',g',hR,e1,e2,e3⟩
def Ea:Option Code->Code|some (.seq _ (.seq _ B))=>B|_=>.skip
def AE (P:Program)(fn:Func)(B:Code)(sl:List (Nat×AV))(Fa:List (Nat×List AV))(R:AV->List (Nat×List AV)->Prop):Prop :=∀ (w:World) (g:Gh) (a:Act),PreO w g->a.tmps.size=fn.ntmps->(∀ i,ARep w g ((⟨sl,Fa⟩:AS).get i) (a.tmps.getD i Go.undef))->(∀ id cs,look Fa id=some cs->iZ w g id cs) -> B.wp P (λ e a' w'=>(e=.normal\/e=.ret)/\a'.defers=a.defers/\∃ v,(∀ w2,(results fn a'.tmps).run P w2=.ok v w2)/\C8 w g R v w') a w
theorem Ah {P:Program}{tt:List (Nat×TI)}(good:dD P tt){fn:Func}{B:Code}{t:Nat}{sl:List (Nat×AV)}{Fa rob:List (Nat×List AV)}{r:AV}(ids:List Nat)(hres:fn.results.toList=[.tmp t])(hnl:Nat.ble fn.ntmps M1=true)
  (h:∀ w0 F,awp ⟨P,tt,good,fn.ntmps,hnl,w0,F⟩ B (uA ⟨P,tt,good,fn.ntmps,hnl,w0,F⟩ tt fn [] ids r rob) ⟨sl,Fa⟩):AE P fn B sl Fa (λ x y=>x.sub r/\leO y rob):=by
 intro w g a hp EH Ey hobs
 have hs:St fn.ntmps ⟨w,g.st,g.ow,hp.ok.gl,(λ i b h=>Nat.lt_of_lt_of_le (hp.own i b h).2 uZ),a.defers⟩ (λ b=>b<w.heap.size/\∀ i,g.ow i≠some b) g ⟨sl,Fa⟩ a w :=
  ⟨Z,EH,Ey,hobs,hp.inj,λ i b hi=>⟨(hp.own i b hi).1,λ h=>h.2 i hi⟩,hp.ok.lt,λ b h=>h.1,λ b h=>rfl,Z,Z,Z,ld _,λ b _ o=>Iff.rfl,λ _ _ _=>rfl,j5.refl _ _,λ i b hi h=>hp.nst i b hi h,Ev.refl _ _⟩
 refine wp_mono (rL (h _ _) g a w hs) ?_;rintro e a' w' ⟨g1,s',h3,he,l,r1,obs1,obs',hl,hr,hpk,hm,hR⟩;obtain ⟨v,hv,hvr⟩:=lZ good h3 fn l hl
 have hrun:∀ w2,(results fn a'.tmps).run P w2=.ok (a'.tmps.getD t Go.undef) w2:=λ w2=>by
  rw [uq,Array.mapM_eq_mapM_toList,hres];simp [wk]
 obtain ⟨g',e1,e2,e3⟩:=wn [] ids Z Z hp.own h3 hvr hr hpk hm
 have:v=a'.tmps.getD t Go.undef:=by
  have:=(hrun w').symm.trans hv
  injection this with h1 _
  exact h1.symm
 exact ⟨he,h3.nd,v,λ w2=>by rw [this]; exact hrun w2,_,_,g',hR,e1,e2,e3⟩
theorem xa:∀ {js:List Nat} {q:List AV} {i:Nat} {c:AV},look (js.zip q) i=some c->∃ k:Nat,js[k]? = some i/\q[k]? = some c
 | [],_,_,_,h=>by simp [look] at h
 | _::_,[],_,_,h=>by simp [look] at h
 | j::js,x::q,i,c,h=>by
  rw [List.zip_cons_cons,a6] at h;by_cases e:j=i
  ·rw [if_pos e] at h; cases h; exact ⟨0,by simp [e],rfl⟩
  ·rw [if_neg e] at h;obtain ⟨k,h1,h2⟩:=xa h;exact ⟨k+1,by simpa using h1,by simpa using h2⟩
theorem rO:∀ l:List AV,nb l l
 | []=>trivial
 | x::r=>⟨AV.sub_refl x,rO r⟩
theorem A1 {C:Cx}{fn:Func}{B:Code}{sl:List (Nat×AV)}{ob:List (Nat×List AV)}(ids EL:List Nat)(NB NE:Nat)(js:List Nat){l l':List AV}{Fa qo rob ob':List (Nat×List AV)}{r r':AV}(hnt:C.n=fn.ntmps)
  (hB:AE C.P fn B (js.zip l') qo (λ x y=>x.sub r/\leO y rob)) (hl:kx sl (js.map .tmp)=some l) (hl':AV.mapA.go (lU ids EL) l=some l') (hpk:iM ob ids=some Fa) (hmo:iB (lU ids EL) Fa=some qo) (hqq:leO qo qo)
  (hnd:nodupB ids=true) (hids:ids.all (λ i=>Nat.blt i (2*M1))=true) (hil:Nat.ble ids.length M1=true) (hdl:Nat.ble NE M1=true) (hdis:ids.all (λ i=>!(du EL NB NE i))=true)
  (hvd:nodupB EL=true) (hvl:EL.all (λ i=>Nat.blt i M1)=true) (hvn:Nat.ble EL.length 100000=true) (hr:r.mapA (lH ids NB NE)=some r') (hro:iB (lH ids NB NE) rob=some ob')
  {g:Gh} {a a2:Act} {w:World} (hs:St C.n C.w0 C.F g ⟨sl,ob⟩ a w) (ht:a2.tmps=a.tmps) :
  B.wp C.P (λ e a' w'=>(e=.normal\/e=.ret)/\a'.defers=a2.defers/\∃ v,(∀ w2,(results fn a'.tmps).run C.P w2=.ok v w2)/\∃ g2,St C.n C.w0 C.F g2 ⟨(co (du EL NB NE) ⟨sl,ob⟩).sl,ob'++(co (du EL NB NE) ⟨sl,ob.filter λ p=>!(ids.any (Nat.beq p.1))⟩).ob⟩ a w'/\ARep w' g2 r' v) a2 w:=by
 obtain ⟨a1,a1'⟩:=jc hs _ l hl;have EK:(js.map λ j=>a.eval (.tmp j)).length=l.length:=by simpa using a1.symm
 obtain ⟨gc,⟨k1,k2,k3,k4,k5,k6,k7⟩,hpost⟩:=qA ids EL NB NE hl' (rO l') hpk hmo hqq hnd hids hil hdl hdis hvd hvl hvn hs (avs:=(js.map λ j=>a.eval (.tmp j)).toArray) (by simpa using EK)
  (λ i c v hc hv=>a1' i c v hc (by simpa using hv))
 refine wp_mono (hB w gc a2 ⟨k1,k2,k3,k4⟩ (by rw [ht,hs.sz,hnt]) (λ i=>?_) k7) ?_
 ·unfold AS.get
  cases hq:look (js.zip l') i with
  | none=>exact .undef _
  | some c=>
   obtain ⟨k,h1,h2⟩:=xa hq;simp only [n8];refine k6 k c _ h2 ?_;have:a2.tmps.getD i Go.undef=a.eval (.tmp i):=by rw [ht]; rfl
   rw [this];simp [h1]
 ·rintro e a' w' ⟨he,hd,v,hv,x,y,g',⟨hx,hy⟩,e1,e2,e3⟩
  obtain ⟨g2,f1,f2⟩:=hpost w' v r r' rob ob' g' (hx _ _ _ e1) (λ p hp=>by
   obtain ⟨ds,m1,m2⟩:=sS hy p hp
   exact pS (e2 (p.1,ds) (ia m1)) m2) e3 hr hro
  exact ⟨he,hd,v,hv,g2,f1,f2⟩
theorem DJ {C:Cx}{k:FuncId}{sl:List (Nat×AV)}{ob:List (Nat×List AV)}(ids EL:List Nat)(NB NE:Nat)(j:Nat){x:AV}{l':List AV}{Fa qo rob ob':List (Nat×List AV)}{r r':AV}{u:FrameMode}
  (hD:yd C.P k l' qo (λ x y=>x.sub r/\leO y rob)) (hl:look sl j=some x) (hl':AV.mapA.go (lU ids EL) [x]=some l') (hpk:iM ob ids=some Fa) (hmo:iB (lU ids EL) Fa=some qo) (hqq:leO qo qo)
  (hnd:nodupB ids=true) (hids:ids.all (λ i=>Nat.blt i (2*M1))=true) (hil:Nat.ble ids.length M1=true) (hdl:Nat.ble NE M1=true) (hdis:ids.all (λ i=>!(du EL NB NE i))=true)
  (hvd:nodupB EL=true) (hvl:EL.all (λ i=>Nat.blt i M1)=true) (hvn:Nat.ble EL.length 100000=true) (hr:r.mapA (lH ids NB NE)=some r') (hro:iB (lH ids NB NE) rob=some ob')
  {g:Gh} {a:Act} {w:World} (hs:St C.n C.w0 C.F g ⟨sl,ob⟩ a w) :
  CallsD C.P k #[a.eval (.tmp j)] u w λ e u' w'=>u'=u/\∃ v,e=.returned v/\∃ g2,St C.n C.w0 C.F g2 ⟨(co (du EL NB NE) ⟨sl,ob⟩).sl,ob'++(co (du EL NB NE) ⟨sl,ob.filter λ p=>!(ids.any (Nat.beq p.1))⟩).ob⟩ a w':=by
 have hx:ARep w g x (a.eval (.tmp j)):=bu hs (x:=.tmp j) hl
 obtain ⟨gc,⟨k1,k2,k3,k4,k5,k6,k7⟩,hpost⟩:=qA ids EL NB NE hl' (rO l') hpk hmo hqq hnd hids hil hdl hdis hvd hvl hvn hs (avs:=#[a.eval (.tmp j)]) rfl
  (λ i c v hc hv=>by
   match i,hc,hv with
   | 0,hc,hv=>simp at hc hv; subst hc hv; exact hx)
 refine (hD w gc _ u ⟨k1,k2,k3,k4⟩ k5 k6 k7).mono ?_;rintro e u' w' ⟨hu,v,he,x,y,g',⟨hx,hy⟩,e1,e2,e3⟩
 obtain ⟨g2,f1,_⟩:=hpost w' v r r' rob ob' g' (hx _ _ _ e1) (λ p hp=>by
   obtain ⟨ds,m1,m2⟩:=sS hy p hp
   exact pS (e2 (p.1,ds) (ia m1)) m2) e3 hr hro
 exact ⟨hu,v,he,g2,f1⟩
theorem CQ {P:Program}{tt:List (Nat×TI)}(good:dD P tt){f k:FuncId}{fn:Func}{args:List AV}{Fa rob:List (Nat×List AV)}{c:Value}{R0 R1 R2 B:Code}{rid t j q:Nat}{o1 o2:Oper}{s0 s1 s2:AS}{b:Bool}(ids:List Nat)
  (hf:P.funcs[f]? = some fn) (hb:fn.body=some (.seq R0 (.seq (.seq R1 (.cond (.tmp t) (.seq R2 (.region rid #[o1,o2] false)) .skip)) B)))
  (hn:Nat.ble args.length fn.ntmps=true) (hnl:Nat.ble fn.ntmps M1=true)
  (h0:∀ w0 F,awp ⟨P,tt,good,fn.ntmps,hnl,w0,F⟩ R0 (λ e s=>e=.normal/\s=s0) ⟨ge args,Fa⟩)
  (h1:∀ w0 F,awp ⟨P,tt,good,fn.ntmps,hnl,w0,F⟩ R1 (λ e s=>e=.normal/\s=s1) s0) (hc:evo s1.sl (.tmp t)=some (.p (eB b)))
  (hF:b=false->∃ sE obs1 obs2,iM sE.ob ids=some obs1/\iB (mg []) obs1=some obs2/\leO obs2 rob/\∀ w0 F g a a2 w,St fn.ntmps w0 F g s1 a w->a2.tmps=a.tmps ->
   B.wp P (λ e a' w'=>(e=.normal\/e=.ret)/\a'.defers=a2.defers/\∃ v,(∀ w2,(results fn a'.tmps).run P w2=.ok v w2)/\∃ g2,St fn.ntmps w0 F g2 sE a w'/\ARep w' g2 (.p (.val c)) v) a2 w)
  (hT:b=true->(∀ w0 F,awp ⟨P,tt,good,fn.ntmps,hnl,w0,F⟩ R2 (λ e s=>e=.normal/\s=s2) s1)/\(o1.op=.makeFunc (.func k) #[] #[.tmp j]/\o1.dst=some q/\Nat.blt q fn.ntmps=true/\o1.guard=none/\o2.op=.defer { callee:=.value (.tmp q),args:=#[],argTypes:=#[] }/\o2.dst=none/\o2.guard=none/\Nat.beq j q=false) /\
   (∀ vs w,(callFunc k vs).run P w=.ok (.enter k vs) w)/\∃ sE sD obs1 obs2 x,look s2.sl j=some x/\iM sD.ob ids=some obs1/\iB (mg []) obs1=some obs2/\leO obs2 rob /\
    (∀ w0 F g a a2 w,St fn.ntmps w0 F g ⟨(q,.func (.func k) [x])::s2.sl,s2.ob⟩ a w->a2.tmps=a.tmps ->
     B.wp P (λ e a' w'=>(e=.normal\/e=.ret)/\a'.defers=a2.defers/\∃ v,(∀ w2,(results fn a'.tmps).run P w2=.ok v w2)/\∃ g2,St fn.ntmps w0 F g2 sE a w'/\ARep w' g2 (.p (.val c)) v) a2 w) /\
    ∀ w0 F g a w u,St fn.ntmps w0 F g sE a w->CallsD P k #[a.eval (.tmp j)] u w λ e u' w'=>u'=u/\∃ v,e=.returned v/\∃ g2,St fn.ntmps w0 F g2 sD a w') :
  aU P f args Fa (λ x y=>x=.p (.val c)/\y=rob):=by
 refine aU.of_sub ?_;intro w g vs hlt hown hinj hnst k1 k2 hobs;refine calls_of_wp_defers hf hb ?_;have hn':=n6 hn
 have hs:St fn.ntmps ⟨w,g.st,g.ow,hlt.gl,(λ i b h=>Nat.lt_of_lt_of_le (hown i b h).2 uZ),[]⟩ (λ b=>b<w.heap.size/\∀ i,g.ow i≠some b) g ⟨ge args,Fa⟩ { tmps:=vs++Array.replicate (fn.ntmps-vs.size) Go.undef,defers:=[] } w:=by
  refine ⟨Z,?_,?_,hobs,hinj,?_,hlt.lt,?_,?_,Z,Z,Z,ld _,λ b _ o=>Iff.rfl,λ _ _ _=>rfl,j5.refl _ _,λ i b hi h=>hnst i b hi h,Ev.refl _ _⟩
  ·simp only [Array.size_append,Array.size_replicate]; omega
  ·intro i;have:=mK args 0 i;simp only [AS.get,ge,this,Nat.zero_le,if_true,Nat.sub_zero]
   cases ha:args[i]? with
   | none=>exact .undef _
   | some x=>
    have hi:i<args.length:=(List.getElem?_eq_some_iff.1 ha).1;have hi2:i<vs.size:=by omega
    have e:(vs++Array.replicate (fn.ntmps-vs.size) Go.undef).getD i Go.undef=vs[i]:=by
     simp [Array.getD_eq_getD_getElem?,Array.getElem?_append,hi2]
    simp only [n8];rw [e];exact k2 i x _ ha (Array.getElem?_eq_getElem hi2)
  ·intro i b hi; exact ⟨(hown i b hi).1,λ h=>h.2 i hi⟩
  ·intro b h; exact h.1
  ·intro b h; rfl
 -- behind everything: what is handed back
 have fin:∀ {sE:AS} {obs1 obs2:List (Nat×List AV)} {a:Act} {w':World} {g2:Gh} {v:Value},iM sE.ob ids=some obs1->iB (mg []) obs1=some obs2->leO obs2 rob ->
   St fn.ntmps ⟨w,g.st,g.ow,hlt.gl,(λ i b h=>Nat.lt_of_lt_of_le (hown i b h).2 uZ),[]⟩ (λ b=>b<w.heap.size/\∀ i,g.ow i≠some b) g2 sE a w'->ARep w' g2 (.p (.val c)) v ->
   ∃ v1 r obs' g',Ending.returned v=.returned v1/\(AV.sub r (.p (.val c))/\leO obs' rob)/\ARep w' g' r v1/\(∀ p∈obs',iZ w' g' p.1 p.2)/\nG w g w' g':=by
  intro sE obs1 obs2 a w' g2 v p1 p2 p3 hS hv;obtain ⟨g',e1,e2,e3⟩:=wn [] ids Z Z hown hS hv rfl p1 p2;exact ⟨v,_,_,g',rfl,⟨AV.sub_refl _,p3⟩,e1,e2,e3⟩
 refine wp_seq (wp_mono (h0 _ _ g _ w hs) ?_);rintro e a0 w0 ⟨g0,s0',hs0,rfl,rfl⟩;refine wp_seq (wp_seq (wp_mono (h1 _ _ g0 a0 w0 hs0) ?_));rintro e a1 w1 ⟨g1,s1',hs1,rfl,rfl⟩;have hcv:a1.eval (.tmp t)=.bool b:=ce hs1 hc
 cases hbb:b with
 | false=>
  subst hbb;refine wp_cond_false hcv (wp_skip ?_);obtain ⟨sE,obs1,obs2,p1,p2,p3,hB⟩:=hF rfl;refine wp_mono (hB _ _ g1 a1 a1 w1 hs1 rfl) ?_;rintro e a' w' ⟨he,hd,v,hv,g2,hS,hr⟩;have hd':a'.defers=[]:=hd.trans hs1.nd;rcases he with rfl|rfl
  ·simp only [bodyPostD,hd',Leaves]; exact ⟨v,hv w',fin p1 p2 p3 hS hr⟩
  ·simp only [bodyPostD,hd',Leaves]; exact ⟨v,hv w',fin p1 p2 p3 hS hr⟩
 | true=>
  subst hbb;obtain ⟨h2,⟨m1,m2,m3,m4,m5,m6,m7,m8⟩,hen,sE,sD,obs1,obs2,x,hj,p1,p2,p3,hB,hD⟩:=hT rfl;refine wp_cond_true hcv (wp_seq (wp_mono (h2 _ _ g1 a1 w1 hs1) ?_));rintro e a2 w2 ⟨g2,s2',hs2,rfl,rfl⟩;refine wp_region ?_;have hx:ARep w2 g2 x (a2.eval (.tmp j)):=bu hs2 (x:=.tmp j) hj;have hq:q<fn.ntmps:=dg ▸ m3;have e1:(execOp a2.eval o1).run P w2=.ok (.value (.func (.func k) #[] #[a2.eval (.tmp j)])) w2:=by simp [execOp,m1,Instr.makeFunc,Act.eval]
  have hs3:=hs2.put (d:=some q) (λ t ht=>by cases ht; exact hq) (x:=.func (.func k) [x]) (v:=.func (.func k) #[] #[a2.eval (.tmp j)]) (.func rfl λ i c v hc hv=>by
   match i,hc,hv with
   | 0,hc,hv=>simp at hc hv; subst hc hv; exact hx)
  obtain ⟨a3,ha3⟩:∃ a3,a3=a2.put (some q) (.func (.func k) #[] #[a2.eval (.tmp j)]):=⟨_,rfl⟩
  rw [<- ha3] at hs3
  have hqv:a3.eval (.tmp q)=.func (.func k) #[] #[a2.eval (.tmp j)]:=by
   have:q<a2.tmps.size:=by rw [hs2.sz]; exact hq
   rw [ha3]; simp [Act.put,Act.eval,Array.getD,this]
  have hjq:a3.eval (.tmp j)=a2.eval (.tmp j):=by
   have E2:q≠j:=λ e=>by subst e; simp at m8
   rw [ha3]; simp only [Act.put,Act.eval,Array.getD_eq_getD_getElem?,Array.getElem?_setIfInBounds,if_neg E2]
  have e2:(execOp a3.eval o2).run P w2=.ok (.defer { target:=.fn (.func k) #[a2.eval (.tmp j)],args:=#[] }) w2:=by simp [execOp,m5,resolve,hqv,Deferred.ofValue]
  have hr:List.range (#[o1,o2]:Array Oper).size=[0,1]:=rfl;rw [hr];have g0':(#[o1,o2]:Array Oper)[0]? = some o1:=rfl;have g1':(#[o1,o2]:Array Oper)[1]? = some o2:=rfl;simp only [wpOps,g0',g1',Region.wanted,m4,m7,if_true];refine .inl ?_;unfold Oper.wp;rw [e1];simp only [Oper.upon,m2];rw [<- ha3];refine .inl ?_;rw [e2];simp only [m6,Act.put];refine wp_mono (hB _ _ g2 a3 { a3 with defers:={ target:=.fn (.func k) #[a2.eval (.tmp j)],args:=#[] }::a3.defers } w2 hs3 rfl) ?_;rintro e a' w' ⟨he,hd,v,hv,g3,hS,hrv⟩;have hnd:a3.defers=[]:=hs3.nd;rw [hnd] at hd
  have key:Leaves P fn a'.tmps (λ e w'=>∃ v r obs' g',e=.returned v/\(AV.sub r (.p (.val c))/\leO obs' rob)/\ARep w' g' r v/\(∀ p∈obs',iZ w' g' p.1 p.2)/\nG w g w' g') a'.defers .returning w':=by
   rw [hd];refine leaves_cons (f:=k) (args:=#[a2.eval (.tmp j)]) G (by simp [invoke,hen]) ?_;have:=hD _ _ g3 a3 w' .returning hS;rw [hjq] at this;refine this.mono ?_;rintro e u' w'' ⟨hu,v2,he2,g4,hS4⟩;subst hu he2;simp only [settle,Leaves];refine ⟨v,hv w'',fin p1 p2 p3 hS4 ?_⟩
   cases hrv with
   | p hrv=>cases hrv; exact .p (.val _)
  rcases he with rfl|rfl
  ·exact key
  ·exact key
theorem mR {C:Cx}{c:Code}{s t:AS}(h:M C (λ e s=>e=.normal/\s=t) ⟨.cd c,[],s⟩):awp C c (λ e s=>e=.normal/\s=t) s:=rL h
theorem mE {C:Cx}{s t:AS}(h:cB C s t):M C (λ e s=>e=.normal/\s=t) ⟨.ex .normal,[],s⟩:=⟨t,h,Z,Z⟩
end Go.Ab
end
section
namespace Go.Ab.R06
open Go.Proofs Go.Ab Go.Ab.RB
attribute [local irreducible] awp gg ba aF aU AV.sub M cB
theorem mZ (x:aa):yd Tryz.prog 111 [.ptr 1000000 0] [(1000000,[.ptr 1000001 0]),(1000001,(aa.cs x).map .p)] (λ a b=>a.sub (.tuple [])/\leO b [(1000000,[.ptr 1000001 0]),(1000001,(aa.cs (.mk x.fs x.fat (-1) x.AT)).map .p)]):=by
 refine DL good [] [1000000,1000001] Tryz.func111 Z Z Z Z Z λ w0 F=>mPo (v0:=aa.mk x.fs x.fat (-1) x.AT) (λ _:aa=>.tuple []) (λ v=>[(1000000,[.ptr 1000001 0]),(1000001,(aa.cs v).map .p)]) ?_;refine nx 4 Z (mO Z (fg Z Z Z Z Z Z Z Z (aa.b_outer _) (aa.u_outer _) ?_));exact nx 1 Z (xz Z (ay _) Z Z Z (aA Z Z (aA Z (aD _) Z)) (sr) ⟨⟨_,Z,⟨sr,trivial⟩⟩,⟨_,Z,aM _⟩,trivial⟩)
end Go.Ab.R06
end
section
namespace Go.Ab
theorem zg {w:World}{g:Gh}{tok sz ty:Nat}{es:List PV}{b off cap:Nat}(h:ARep w g (.vec tok sz ty es) (.slice (some ⟨b,off,none⟩) es.length cap))(hc:es.length+1<=cap) :
  ARep w g (.vecp tok sz ty es) (.slice (some ⟨b,off,none⟩) (es.length+1) cap):=by
 generalize hv:Value.slice (some ⟨b,off,none⟩) es.length cap=v at h
 cases h with
 | vecn=>cases hv
 | vece _ _ a=>injection hv with _ _ h3; omega
 | vec how hb ER EH ES hr hty=>
  injection hv with h1 h2 h3
  injection h1 with h1
  injection h1 with h4 h5
  subst h3 h4 h5;exact .vecp how hb ER hc EH ES hr hty
section
variable {C:Cx} {o:Oper} {K:AS->Prop} {sl:List (Nat×AV)} {ob:List (Nat×List AV)} {d:Nat}
theorem nK (ty0:Nat){es ys:List PV}{t tx e:TypeId}{i ie:TI}{y:Operand}(D:Nat->Bool)(hDl:∀ i,D i=true->i<M1)(hDd:D d=true)(hy1:ys.length=1)
  (hi:look C.tt t=some i) (EP:i.k=.slice e) (hie:look C.tt e=some ie)
  (hS:uQ C sl ob tx y ie.size ys) (hzl:ie.zero.length=ie.size)
  (EK:(es.length+ys.length)*ie.bytes<=140737488355328) (hlen':es.length+ys.length<=9223372036854775807)
  {g:Gh} {a:Act} {w:World} (hs:St C.n C.w0 C.F g ⟨sl,ob⟩ a w) (base:Option Addr) (cap:Nat) (olds:List Value)
  (hold:(Builtin.firstCells ie.size es.length (.slice base es.length cap)).run C.P w.drew=.ok olds.toArray w.drew) (hol:olds.length=es.length*ie.size)
  (hes:∀ e,e∈es->e.cells.length=ie.size)
  (hoc:∀ (i:Nat) y (j:Nat) x,es[i]? = some y->y.cells[j]? = some x->x.one=true/\∃ u,olds[i*ie.size+j]? = some u/\PRep w g.st x u)
  (hg:cap<es.length+ys.length) (ty:TypeId) (hn:Nat.blt d C.n=true) (hty:ty0=0\/ty0=e+1) :
  ∃ v w' g',(Builtin.append_ #[t,tx] ty #[.slice base es.length cap,a.eval y]).run C.P w=.ok v w' /\
   St C.n C.w0 C.F g' ⟨(d,.vecp d ie.size ty0 es)::(co D ⟨sl,ob⟩).sl,(co D ⟨sl,ob⟩).ob⟩ (a.put (some d) v) w':=by
 obtain ⟨u,h1,h2⟩:=bF C.good hi;have h3:=bJ (h2.trans EP);subst h3;obtain ⟨info,hf1,hf2,hf3,z,hf4,hf5⟩:=gX C.good hie;obtain ⟨news,hsrc,hnews⟩:=hS g a w hs;have hfit:=growslice_fits (bytes:=ie.bytes) hg EK;have hrun:=run_append_grow_src w t tx ty e info z h1 hf1 hf4 base es.length cap olds (by rw [hf2]; exact hold) (a.eval y) ys.length news (by rw [hf2]; exact hsrc) hg O (by rw [hf3]; exact hfit);obtain ⟨q,hq⟩:∃ q,q=grownCap w (es.length+ys.length) cap e:=⟨_,rfl⟩
 rw [<- hq] at hrun
 have hqn:es.length+ys.length<=q:=by
  rw [hq]; unfold grownCap; simp only [Question.cut]; omega
 have hzs:z.cells.size=ie.size:=by rw [<- hzl,<- hf5,ur]
 obtain ⟨c,hc⟩:∃ c,c=(olds++news).toArray++Builtin.zeroCells z.cells (q-(es.length+ys.length)):=⟨_,rfl⟩
 rw [<- hc] at hrun
 have ER:c.size=q*ie.size:=by
  rw [hc];simp only [Array.size_append,List.size_toArray,qr,hol,hsrc.newsLen,size_zeroCells,hzs];rw [<- n7,<- n7]; congr 1; omega
 have hget:∀ m,m<es.length*ie.size->c[m]? = olds[m]?:=by
  intro m hm;rw [hc,Array.getElem?_append];simp only [List.size_toArray,qr,hol,hsrc.newsLen];rw [if_pos O,List.getElem?_toArray,List.getElem?_append,hol,if_pos hm]
 have hf:=hs.drew.fresh D hDl d hDd (λ o=>o<es.length*ie.size) c e
 have hv:ARep (w.drew.alloc (.cells c e)) ⟨λ b o=>g.st b o\/(b=w.drew.heap.size/\o<es.length*ie.size),λ i=>if i=d then some w.drew.heap.size else if D i then none else g.ow i⟩
   (.vec d ie.size ty0 es) (.slice (some ⟨w.drew.heap.size,0,none⟩) es.length q):=by
  refine A9 G dU ER O hes (λ o=>⟨λ h=>?_,λ h=>.inr ⟨Z,h⟩⟩) (λ i y j x hy hx=>?_) hty
  ·rcases h with h|h
   ·exact absurd (hs.lt _ _ h) (Nat.lt_irrefl _)
   ·exact h.2
  ·have EN:=kF (w:=w.drew) (T:=λ o=>o<es.length*ie.size) (ob:=.cells c e) hs.drew.lt;have hcl:=hes y (List.mem_of_getElem? hy);have hjl:j<ie.size:=by rw [<- hcl]; exact (List.getElem?_eq_some_iff.1 hx).1
   have hil:i<es.length:=(List.getElem?_eq_some_iff.1 hy).1;have hm1:(i+1)*ie.size<=es.length*ie.size:=ro _ O;rw [n7] at hm1;obtain ⟨k1,u,hu,hr⟩:=hoc i y j x hy hx;refine ⟨k1,u,?_,(PRep.mono (w:=w) (w':=w.drew) (st:=g.st) (st':=g.st) (λ b o h=>⟨h,rfl⟩) hr).mono EN⟩;rw [hget _ O]; exact hu
 have hp:=hf.put (d:=some d) (λ t ht=>by cases ht; exact dg ▸ hn) (zg hv O);rw [hy1] at hrun;exact ⟨_,_,_,hrun,hp⟩
theorem wu {t tx e:TypeId}{x y:Operand}{k sz ty:Nat}{es:List PV}{ys:List PV}{i ie:TI}(ho:o.op=.call { callee:=.builtin .append,args:=#[x,y],argTypes:=#[t,tx] })(hd:o.dst=some d)(hn:Nat.blt d C.n=true)
  (hi:look C.tt t=some i) (EP:i.k=.slice e) (hie:look C.tt e=some ie) (hx:evo sl x=some (.vec k sz ty es)) (hk:Nat.blt k M1=true) (hiz:ie.size=sz) (hy1:ys.length=1)
  (hS:uQ C sl ob tx y ie.size ys) (_EH:∀ y∈ys,y.cells.length=ie.size) (h0:Nat.blt 0 ie.size=true) (hzl:Nat.beq ie.zero.length ie.size=true)
  (EK:(es.length+1)*ie.bytes<=140737488355328) (hlen':es.length+1<=9223372036854775807) (hty:(Nat.beq ty 0||Nat.beq ty (e+1))=true)
  (hK:K ⟨(d,.vecp d sz ty es)::(co (λ i=>Nat.beq i k||Nat.beq i d) ⟨sl,ob⟩).sl,(co (λ i=>Nat.beq i k||Nat.beq i d) ⟨sl,ob⟩).ob⟩):ba C o K ⟨sl,ob⟩:=by
 subst hiz;rw [<- hy1] at EK hlen';have h0':0<ie.size:=by simpa using h0
 have hzl':=cl hzl;have hk':k<M1:=dg ▸ hk;have hdl:d<M1:=by have h1:=n6 C.nl; have h2:d<C.n:=dg ▸ hn; omega
 have hty':=A8 hty
 have hDl:∀ i,(Nat.beq i k||Nat.beq i d)=true->i<M1:=by
  intro i hi;simp only [Bool.or_eq_true] at hi;rcases hi with hi|hi <;> (have:=cl hi; omega)
 intro g a w hs;have hxr:=bu hs hx;generalize hxv:a.eval x=xv at hxr
 have hrun0:∀ v w',(Builtin.append_ #[t,tx] o.type #[xv,a.eval y]).run C.P w=.ok v w'->(execOp a.eval o).run C.P w=.ok (.value v) w':=by
  intro v w' h;rw [fG ho];simp [builtin,hxv,h]
 cases hxr with
 | vecn=>
  obtain ⟨v,w',g',hr,ES⟩:=nK ty (es:=[]) (λ i=>Nat.beq i k||Nat.beq i d) hDl G hy1 hi EP hie hS hzl' (by simpa using EK) (by simpa using hlen') hs none 0 []
   (run_firstCells_none w.drew ie.size 0 0 0) G G G (by simp [hy1]) o.type hn hty'
  unfold Oper.wp;rw [hrun0 _ _ hr];simp only [Oper.upon,hd];exact ⟨g',_,ES,hK⟩
 | vece tok sz a0=>
  obtain ⟨v,w',g',hr,ES⟩:=nK 0 (es:=[]) (λ i=>Nat.beq i k||Nat.beq i d) hDl G hy1 hi EP hie hS hzl' (by simpa using EK) (by simpa using hlen') hs (some a0) 0 []
   (run_firstCells_some w.drew ie.size 0 a0 0 0 [] G G) G G G (by simp [hy1]) o.type hn hty'
  unfold Oper.wp;rw [hrun0 _ _ hr];simp only [Oper.upon,hd];exact ⟨g',_,ES,hK⟩
 | vec how hb ER hsz' ES hr hty0=>
  rename_i b off cap c e0;have hinv:=q7 hsz' hb hr;have hcapE:es.length<=cap:=by cases hr with|nile _=>exact ld _|slice _ _ hcap=>exact hcap
  by_cases hroom:es.length+ys.length<=cap
  ·obtain ⟨u,h1,h2⟩:=bF C.good hi;have h3:=bJ (h2.trans EP);subst h3;obtain ⟨info,hf1,hf2,hf3,z,hf4,hf5⟩:=gX C.good hie;obtain ⟨news,hsrc,hnews⟩:=hS g a w hs
   have hfit:(off+es.length*ie.size)+news.length<=c.size:=by
    rw [hsrc.newsLen,ER,Nat.add_assoc,<- n7]; exact Nat.add_le_add_left (ro _ hroom) _
   have hstc:=run_storeCells_at C.P b (off+es.length*ie.size) e0 news 0 c w hb (by simpa using hfit) hsrc.one;simp only [Nat.add_zero] at hstc;obtain ⟨c',hc'⟩:∃ c',c'=(c.toList.take (off+es.length*ie.size)++news++c.toList.drop (off+es.length*ie.size+news.length)).toArray:=⟨_,rfl⟩
   rw [<- hc'] at hstc;have hrr:=nZ t tx o.type e info h1 hf1 b off es.length cap (a.eval y) ys.length news (by rw [hf2]; exact hsrc) hroom (by rw [hf2]; exact hstc)
   have EM:∀ j,c'[j]? = if off+es.length*ie.size<=j/\j<off+es.length*ie.size+news.length then news[j-(off+es.length*ie.size)]? else c[j]?:=by
    intro j;rw [hc'];have:=iy c.toList news (off+es.length*ie.size) (by simpa using hfit) j;simpa using this
   have hcs':c'.size=off+cap*ie.size:=by rw [<- ER,hc']; simp; omega
   have hin:=hs.inplace (λ i=>Nat.beq i k||Nat.beq i d) hDl (k:=k) (d:=d) how G G  hb (c':=c') (hcs'.trans ER.symm) (λ o h=>by
    have:=(ES o).1 h
    rw [EM o,if_neg O]) (λ o=>o<off+es.length*ie.size) (λ o h=>(ES o).1 h)
   have hEv:Ev w g.st (w.setRow b c') (λ b' o=>(b'=b/\o<off+es.length*ie.size)\/(b'≠b/\g.st b' o)):=by
    intro b' o h;by_cases e:b'=b
    ·subst e;have h5:=(ES o).1 h;refine ⟨.inl ⟨rfl,h5⟩,?_⟩;simp only [World.cell?,hb,setRow_heap w b' c c' _ (0,0) hb];have:=EM o;rw [if_neg O] at this;simpa using this
    ·exact ⟨.inr ⟨e,h⟩,by simp only [World.cell?,setRow_other w b b' c' e]⟩
   have hv:ARep (w.setRow b c') ⟨λ b' o=>(b'=b/\o<off+es.length*ie.size)\/(b'≠b/\g.st b' o),λ i=>if i=d then some b else if (Nat.beq i k||Nat.beq i d) then none else g.ow i⟩
     (.vec d ie.size ty es) (.slice (some ⟨b,off,none⟩) es.length cap):=by
    refine s6 G (setRow_heap w b c c' e0 (0,0) hb) hcs' hcapE hsz' (λ o=>⟨λ h=>?_,λ h=>.inl ⟨Z,h⟩⟩) (λ i y j x hy hx=>?_) hty0
    ·rcases h with h|h
     ·exact h.2
     ·exact absurd Z h.1
    ·have hcl:=hsz' y (List.mem_of_getElem? hy);have hjl:j<ie.size:=by rw [<- hcl]; exact (List.getElem?_eq_some_iff.1 hx).1
     have hil:i<es.length:=(List.getElem?_eq_some_iff.1 hy).1;obtain ⟨k1,u,hu,hr⟩:=hinv i y j x hy hx;have hm2:(i+1)*ie.size<=es.length*ie.size:=ro _ O;rw [n7] at hm2;refine ⟨k1,u,?_,hr.mono hEv⟩;rw [EM,if_neg O]; exact hu
   have hp:=hin.put (d:=some d) (λ t ht=>by cases ht; exact dg ▸ hn) (zg hv O);rw [hy1] at hrr;unfold Oper.wp;rw [hrun0 _ _ hrr];simp only [Oper.upon,hd];exact ⟨_,_,hp,hK⟩
  ·obtain ⟨olds,hol,hocell⟩:∃ olds:List Value,olds.length=es.length*ie.size/\∀ m,m<es.length*ie.size->olds[m]? = c[off+m]? :=
    ⟨((c.toList.drop off).take (es.length*ie.size)),by
     rw [sm,List.length_drop,show c.toList.length=off+cap*ie.size from ur.trans ER]
     have:=ro ie.size hcapE; omega,λ m hm=>by rw [List.getElem?_take,if_pos hm,List.getElem?_drop,Array.getElem?_toList]⟩
   have hold:(Builtin.firstCells ie.size es.length (.slice (some ⟨b,off,none⟩) es.length cap)).run C.P w.drew=.ok olds.toArray w.drew:=by
    refine run_firstCells_some w.drew ie.size es.length ⟨b,off,none⟩ es.length cap olds hol (λ j v hv=>?_);have hj:j<es.length*ie.size:=by rw [<- hol]; exact (List.getElem?_eq_some_iff.1 hv).1
    rw [add_lit,World.cell?_drew];simp only [World.cell?,hb];rw [<- hocell j hj]; simpa using hv
   obtain ⟨v,w',g',hr',hst'⟩:=nK ty (es:=es) (λ i=>Nat.beq i k||Nat.beq i d) hDl G hy1 hi EP hie hS hzl' EK hlen' hs (some ⟨b,off,none⟩) cap olds
    hold hol hsz' (λ i y j x hy hx=>by
     obtain ⟨k1,u,hu,hr⟩:=hinv i y j x hy hx;have hi:i<es.length:=(List.getElem?_eq_some_iff.1 hy).1;have hj:j<ie.size:=by rw [<- hsz' y (List.mem_of_getElem? hy)]; exact (List.getElem?_eq_some_iff.1 hx).1
     have hm2:(i+1)*ie.size<=es.length*ie.size:=ro _ O;rw [n7] at hm2
     exact ⟨k1,u,by rw [hocell _ O,<- Nat.add_assoc]; exact hu,hr⟩) O o.type hn hty'
   unfold Oper.wp;rw [hrun0 _ _ hr'];simp only [Oper.upon,hd];exact ⟨g',_,hst',hK⟩
theorem nP {α:Type}(f:α->PV)(l0:List α){z:PV}{t tx e e':TypeId}{x y:Operand}{k sz ty:Nat}{i ie j:TI}(ho:o.op=.call { callee:=.builtin .append,args:=#[x,y],argTypes:=#[t,tx] })(hd:o.dst=some d)(hn:Nat.blt d C.n=true)
  (hi:look C.tt t=some i) (EP:i.k=.slice e) (hie:look C.tt e=some ie) (hj:look C.tt tx=some j) (hjk:j.k=.slice e') (hx:evo sl x=some (.vec k sz ty (l0.map f))) (hk:Nat.blt k M1=true) (hiz:ie.size=sz)
  (hy:evo sl y=some (.p (eL (λ x:PV=>x) [z]))) (EH:Nat.beq z.cells.length ie.size=true) (h0:Nat.blt 0 ie.size=true) (hzl:Nat.beq ie.zero.length ie.size=true) (hby:Nat.blt 0 ie.bytes=true)
  (hty:(Nat.beq ty 0||Nat.beq ty (e+1))=true) (EK:(l0.length+1)*ie.bytes<=140737488355328)
  (hK:K ⟨(d,.vecp d sz ty (l0.map f))::(co (λ i=>Nat.beq i k||Nat.beq i d) ⟨sl,ob⟩).sl,(co (λ i=>Nat.beq i k||Nat.beq i d) ⟨sl,ob⟩).ob⟩):ba C o K ⟨sl,ob⟩:=by
 have hby':1<=ie.bytes:=Nat.succ_le_of_lt (by simpa using hby);have h1:(l0.length+1)*1<=(l0.length+1)*ie.bytes:=Nat.mul_le_mul_left _ hby';have hs':∀ y∈[z],y.cells.length=ie.size:=λ y hy=>by rw [List.mem_singleton.1 hy]; exact cl EH
 exact wu (ys:=[z]) ho hd hn hi EP hie hx hk hiz Z (pI hj hjk hy Z hs' (by simpa using h0)) hs' h0 hzl (by rw [d3]; exact EK) (by rw [d3]; omega) hty hK
theorem l4 {t e:TypeId}{x y:Operand}{i ie:TI}{tok sz ty:Nat}{es:List PV}{k:IntKind}{n:Int}(ho:o.op=.indexAddr t x y)(hd:o.dst=some d)(hn:Nat.blt d C.n=true)
  (hi:look C.tt t=some i) (EP:i.k=.slice e) (hie:look C.tt e=some ie) (hiz:ie.size=sz) (hx:evo sl x=some (.vecp tok sz ty es)) (hy:evo sl y=some (.p (.val (.int k n)))) (hnn:n=(es.length:Int))
  (hK:K ⟨(d,.elp tok sz)::sl,ob⟩):ba C o K ⟨sl,ob⟩:=by
 subst hiz hnn;obtain ⟨u,h1,h2⟩:=bF C.good hi;have h3:=bJ (h2.trans EP);subst h3;refine ok_one hd hn (λ g a w hs=>?_) hK;have h5:=bu hs hx;generalize hv:a.eval x=v at h5
 cases h5 with
 | vecp how hb ER hcap EH ES hr hty=>
  rename_i b off cap c e0;refine ⟨.pointer (some ⟨b,off+es.length*ie.size,none⟩),?_,.elp how hb ?_ ES⟩
  ·have h6:(es.length:Int)<((es.length+1:Nat):Int):=by omega
   simp [execOp,ho,hv,ce hs hy,Instr.indexAt,asIntOf,run_underlying h1,run_sizeOf C.good hie,add_lit]
  ·rw [ER];have:=ro ie.size hcap;rw [n7,Nat.one_mul] at this;omega
def upP (tok sz:Nat)(z:PV)(x:AV):AV:=match x with
 | .vecp t s ty es=>bif Nat.beq t tok&&Nat.beq s sz then .vec t s ty (es++[z]) else .undef
 | x=>x.dem (Nat.beq · tok)
def upPS (tok sz:Nat)(z:PV):List (Nat×AV)->Option (List (Nat×AV))
 | []=>some []
 | (i,x)::r=>(match frc (upP tok sz z x) with
  | some y=>(match upPS tok sz z r with|some l=>some ((i,y)::l)|none=>none)
  | none=>none)
def CO (tok sz:Nat)(z:PV):List AV->Option (List AV)
 | []=>some []
 | x::r=>(match frc (upP tok sz z x) with
  | some y=>(match CO tok sz z r with|some l=>some (y::l)|none=>none)
  | none=>none)
theorem yW {tok sz:Nat}{z:PV}:∀ {l l':List AV},CO tok sz z l=some l'->l'=l.map (upP tok sz z)
 | [],l',h=>by cases h; rfl
 | x::r,l',h=>by
  unfold CO at h;split at h
  ·rename_i y hy;split at h
   ·rename_i m hm; cases h; rw [qt hy,yW hm]; rfl
   ·cases h
  ·cases h
def zR (tok sz:Nat)(z:PV):List (Nat×List AV)->Option (List (Nat×List AV))
 | []=>some []
 | (i,cs)::r=>(match Nat.beq i tok with
  | true=>zR tok sz z r
  | false=>(match CO tok sz z cs with
   | some ds=>(match zR tok sz z r with|some l=>some ((i,ds)::l)|none=>none)
   | none=>none))
theorem rN {tok sz:Nat}{z:PV}:∀ {l l':List (Nat×List AV)},zR tok sz z l=some l'->∀ id cs,look l' id=some cs->id≠tok/\∃ ds,look l id=some ds/\cs=ds.map (upP tok sz z)
 | [],l',h,id,cs,hc=>by cases h; cases hc
 | (i,xs)::r,l',h,id,cs,hc=>by
  unfold zR at h;split at h
  ·rename_i hb;obtain ⟨h1,ds,h2,h3⟩:=rN h id cs hc;have hi:=cl hb;refine ⟨h1,ds,?_,h3⟩;rw [a6,if_neg (λ e'=>h1 O)];exact h2
  ·rename_i hb;have hi:i≠tok:=λ e=>by subst e; simp at hb
   split at h
   ·rename_i ds hds;split at h
    ·rename_i m hm
     cases h
     rw [a6] at hc ⊢;by_cases e1:i=id
     ·subst e1;rw [if_pos rfl] at hc ⊢
      cases hc
      exact ⟨hi,xs,Z,yW hds⟩
     ·rw [if_neg e1] at hc ⊢;exact rN hm id cs hc
    ·cases h
   ·cases h
theorem Co {t:TypeId}{x v:Operand}{i:TI}{tok sz:Nat}{z:PV}{Y0z:AV}{sl':List (Nat×AV)}{ob':List (Nat×List AV)}(ho:o.op=.store t x v)(hd:o.dst=none)
  (hi:look C.tt t=some i) (hiz:i.size=sz) (hx:evo sl x=some (.elp tok sz)) (hv:evo sl v=some Y0z) (hY:Y0z.sub (.p z)) (hc:(AV.p z).cellsA=some (z.cells.map .p)) (hcl:Nat.beq z.cells.length sz=true) (htok:Nat.blt tok M1=true)
  (h1:sl'=sl.map λ p=>(p.1,upP tok sz z p.2)) (h2:zR tok sz z ob=some ob') (hK:K ⟨sl',ob'⟩):ba C o K ⟨sl,ob⟩:=by
 subst hiz h1;have htl:tok<M1:=dg ▸ htok;have hcl':=cl hcl;intro g a w hs;have h5:=bu hs hx;have h6:ARep w g (.p z) (a.eval v):=hY _ _ _ (bu hs hv);obtain ⟨hs1,hs2⟩:=kr hc h6;rw [d3] at hs1;generalize EN:a.eval x=u at h5
 cases h5 with
 | elp how k2 hp ES=>
  rename_i b p c e
  have ET:∀ u∈(a.eval v).cells.toList,u.oneCell'=true:=by
   intro u hu;obtain ⟨j,hj,rfl⟩:=List.getElem_of_mem hu;simp only [ur] at hj;exact (hs2 j ((z.cells.map AV.p)[j]'(by simp; omega)) _ (List.getElem?_eq_getElem (by simp; omega)) (by simp [hj])).2
  have hstc:=run_storeCells_at C.P b p e (a.eval v).cells.toList 0 c w k2 (by simp; omega) ET;simp only [Nat.add_zero,ur] at hstc;obtain ⟨c',hc'⟩:∃ c',c'=(c.toList.take p++(a.eval v).cells.toList++c.toList.drop (p+(a.eval v).cells.size)).toArray:=⟨_,rfl⟩
  rw [<- hc'] at hstc;have hsz':=run_sizeOf C.good hi w;have E2:(a.eval v).cells.size=i.size:=hs1.trans hcl';unfold Oper.wp
  have hrun:(execOp a.eval o).run C.P w=.ok .skip (w.setRow b c'):=by
   simp [execOp,ho,EN,Instr.storeAt,Instr.sureAddr,storeVar,hsz',E2,hstc]
  rw [hrun];simp only [Oper.upon,hd,Act.put]
  have EM:∀ j,c'[j]? = if p<=j/\j<p+i.size then (a.eval v).cells[j-p]? else c[j]?:=by
   intro j;rw [hc'];have:=iy c.toList (a.eval v).cells.toList p (by simp; omega) j;simp only [ur,Array.getElem?_toList,E2] at this;simpa [E2] using this
  have hsize':c'.size=c.size:=by
   rw [hc']; simp; omega
  obtain ⟨g',hg'⟩:∃ g':Gh,g'=⟨λ b' o=>(b'=b/\o<p+i.size)\/(b'≠b/\g.st b' o),g.ow⟩:=⟨_,rfl⟩
  have hst':∀ b' o,g'.st b' o↔(b'=b/\o<p+i.size)\/(b'≠b/\g.st b' o):=λ b' o=>by rw [hg']
  have how':g'.ow=g.ow:=by rw [hg']
  have hev':Ev w g.st (w.setRow b c') g'.st:=by
   intro b2 o2 h2;by_cases e1:b2=b
   ·subst e1;have:=(ES o2).1 h2;refine ⟨(hst' _ _).2 (.inl ⟨rfl,by omega⟩),?_⟩;simp only [World.cell?,k2,setRow_heap w b2 c c' e (0,0) k2];have h7:=EM o2;rw [if_neg O] at h7;simpa using h7
   ·exact ⟨(hst' _ _).2 (.inr ⟨e1,h2⟩),by simp only [World.cell?,setRow_other w b b2 c' e1]⟩
  have IT:∀ id b2,Nat.beq id tok=false->g.ow id=some b2->b2≠b:=λ id b2 hD h e=>by
   subst e;have:=hs.inj id tok b2 h how;subst this;simp at hD
  have hE:EvO (Nat.beq · tok) w g (w.setRow b c') g':=by
   refine ⟨hev',λ id b2 _ h=>by rw [how']; exact h,λ id b2 c2 e2 hD h h2=>⟨c2,(setRow_other w b b2 c' (IT id b2 hD h)).trans h2,Z⟩,λ id b2 o2 hD h h3=>?_,λ id b2 es2 k2' hD h h2=>(setRow_other w b b2 c' (IT id b2 hD h)).trans h2,λ i hi=>?_,λ id b2 o2 hD h _=>setRow_other w b b2 c' (IT id b2 hD h)⟩
   ·rcases (hst' _ _).1 h3 with h4|h4
    ·exact absurd h4.1 (IT id b2 hD h)
    ·exact h4.2
   ·cases hq:Nat.beq i tok
    ·rfl
    ·have:=cl hq; have:=si hi; omega
  have hup:∀ {y:AV} {u:Value},ARep w g y u->ARep (w.setRow b c') g' (upP tok i.size z y) u:=by
   intro y u h;unfold upP;split
   ·rename_i t s ty es
    cases hq:(Nat.beq t tok&&Nat.beq s i.size)
    ·exact .undef _
    ·simp only [ph] at hq;have e1:=cl hq.1;have e2:=cl hq.2;subst e1 e2;rw [cond_true]
     cases h with
     | vecp how2 hb2 hcs2 hcap2 hsz2 hst2 hr2 hty2=>
      rename_i b2 off cap c2 e2;rw [how] at how2; cases how2;rw [k2] at hb2; cases hb2
      have hpo:p=off+es.length*i.size:=by
       rcases Nat.lt_trichotomy p (off+es.length*i.size) with h7|h7|h7
       ·have:=(ES p).1 ((hst2 p).2 h7); omega
       ·exact h7
       ·have:=(hst2 (off+es.length*i.size)).1 ((ES _).2 h7); omega
      have hinv:=q7 hsz2 k2 hr2;have EK:(es++[z]).length=es.length+1:=by simp
      have:=s6 (w:=w.setRow b c') (g:=g') (tok:=t) (es:=es++[z]) (cap:=cap) (by rw [how']; exact how) (setRow_heap w b c c' e (0,0) k2) (hsize'.trans hcs2) (by rw [EK]; exact hcap2) (λ x hx=>by
       rcases List.mem_append.1 hx with hx|hx
       ·exact hsz2 x hx
       ·rw [List.mem_singleton.1 hx]; exact hcl') (λ o=>by
       rw [hst',EK,n7,Nat.one_mul]
       exact ⟨λ h=>h.elim (λ h=>by omega) (λ h=>absurd Z h.1),λ h=>.inl ⟨Z,by omega⟩⟩) (λ k y j x hy hx=>?_) hty2
      ·rw [EK] at this; exact this
      ·have hcl2:y.cells.length=i.size:=by
        rcases List.mem_append.1 (List.mem_of_getElem? hy) with hx|hx
        ·exact hsz2 y hx
        ·rw [List.mem_singleton.1 hx]; exact hcl'
       have hjl:j<i.size:=by rw [<- hcl2]; exact (List.getElem?_eq_some_iff.1 hx).1
       rw [List.getElem?_append] at hy;split at hy
       ·rename_i hlt;obtain ⟨q1,u,hu,hr⟩:=hinv k y j x hy hx;have hm2:(k+1)*i.size<=es.length*i.size:=ro _ O;rw [n7] at hm2;refine ⟨q1,u,?_,hr.mono hev'⟩;rw [EM,if_neg O]; exact hu
       ·rename_i hge
        have hk0:k-es.length=0:=by
         have:=(List.getElem?_eq_some_iff.1 hy).1;simp at this; omega
        rw [hk0] at hy;simp only [List.getElem?_cons_zero,bt] at hy;subst hy;have hke:k=es.length:=by omega
        subst hke;have hjc:j<(a.eval v).cells.size:=by omega
        have h8:=hs2 j (.p x) _ (by simp [hx]) (Array.getElem?_eq_getElem hjc);refine ⟨?_,(a.eval v).cells[j],?_,?_⟩
        ·have h9:PV.onesB z.cells=true\/z.one=true:=by
          cases z with
          | agg cs=>
           simp only [AV.cellsA] at hc
           cases ho:PV.onesB cs
           ·rw [ho] at hc; cases hc
           ·exact .inl ho
          | val _=>
           simp only [AV.cellsA] at hc;rename_i v0
           cases ho:v0.oneCell'
           ·rw [ho] at hc; cases hc
           ·exact .inr ho
          | slice _=>exact .inr Z
          | ifc=>exact .inr Z
          | aint _=>exact .inr Z
         rcases h9 with h9|h9
         ·exact ib h9 x (List.mem_of_getElem? hx)
         ·have:z.cells=[z]:=by cases z <;> first|rfl|(simp [PV.one] at h9)
          rw [this] at hx;have:=(List.getElem?_eq_some_iff.1 hx).1;simp at this;subst this;simp at hx;rw [<- hx]; exact h9
        ·rw [EM,if_pos ⟨by omega,by omega⟩,hpo];rw [show off+es.length*i.size+j-(off+es.length*i.size)=j by omega];exact Array.getElem?_eq_getElem hjc
        ·cases h8.1 with
         | p hr=>exact hr.mono hev'
   ·exact h.dem hE
  refine ⟨g',⟨sl.map λ p=>(p.1,upP tok i.size z p.2),ob'⟩,?_,hK⟩;refine ⟨hs.nd,hs.sz,λ j=>?_,λ id' cs' h'=>?_,by rw [how']; exact hs.inj,λ j b2 h=>?_,λ b2 o2 h=>?_,hs.fl,λ b2 h=>?_,hs.os,hs.out,hs.tape,?_,λ b2 h o2=>?_,by rw [how']; exact hs.owf,hs.shf.next (λ _ b c e _ _ h=>(nM k2 hsize').1 b c e h),λ j b2 hj h o2 h3=>?_,hs.ev0.trans hev'⟩
  ·have h:=hs.sl j;simp only [AS.get,gQ];simp only [AS.get] at h
   cases hl:look sl j with
   | none=>simp only [Option.map_none,Option.getD_none]; exact .undef _
   | some x=>rw [hl] at h; simpa using hup h
  ·obtain ⟨hne',ds,m1,rfl⟩:=rN h2 id' cs' h';obtain ⟨b2,c2,e2,n1,n2,n3,n4,n5⟩:=hs.ob id' ds m1
   have hD:Nat.beq id' tok=false:=by
    cases hq:Nat.beq id' tok
    ·rfl
    ·exact absurd (cl hq) hne'
   have hb2:=IT id' b2 hD n1;refine ⟨b2,c2,e2,by rw [how']; exact n1,(setRow_other w b b2 c' hb2).trans n2,by simpa using n3,λ o2 h3=>?_,λ j y hy=>?_⟩
   ·rcases (hst' _ _).1 h3 with h4|h4
    ·exact hb2 h4.1
    ·exact n4 o2 h4.2
   ·simp only [List.getElem?_map,mv] at hy;obtain ⟨y0,hy0,rfl⟩:=hy;obtain ⟨u,hu,hr⟩:=n5 j y0 hy0;exact ⟨u,hu,hup hr⟩
  ·rw [how'] at h;have:=hs.own j b2 h; exact ⟨by simpa using this.1,this.2⟩
  ·rcases (hst' _ _).1 h with h4|h4
   ·have:=(hs.own tok b how).1; rw [h4.1]; simpa using this
   ·have:=hs.lt b2 o2 h4.2; simpa using this
  ·have E2:b2≠b:=λ e=>(hs.own tok b how).2 (e ▸ h);exact (setRow_other w b b2 c' E2).trans (hs.fr b2 h)
  ·have:=hs.size; simpa using this
  ·have E2:b2≠b:=λ e=>(hs.own tok b how).2 (e ▸ h)
   exact ⟨λ h3=>by
    rcases (hst' _ _).1 h3 with h4|h4
    ·exact absurd h4.1 E2
    ·exact (hs.stf b2 h o2).1 h4.2,λ h3=>(hst' _ _).2 (.inr ⟨E2,(hs.stf b2 h o2).2 h3⟩)⟩
  ·rcases (hst' _ _).1 h3 with h4|h4
   ·have h7:g.ow j=some b2:=(hs.owf j hj (C.w0.lo j b2 h)).trans h;have:=hs.inj j tok b2 h7 (by rw [h4.1]; exact how);omega
   ·exact hs.nst j b2 hj h o2 h4.2
theorem rK {t:TypeId}{x v:Operand}{i:TI}{tok sz:Nat}{z:PV}{sl':List (Nat×AV)}{ob':List (Nat×List AV)}(ho:o.op=.store t x v)(hd:o.dst=none)
  (hi:look C.tt t=some i) (hiz:i.size=sz) (hx:evo sl x=some (.elp tok sz)) (hv:evo sl v=some (.p z)) (hc:(AV.p z).cellsA=some (z.cells.map .p)) (hcl:Nat.beq z.cells.length sz=true) (htok:Nat.blt tok M1=true)
  (h1:sl'=sl.map λ p=>(p.1,upP tok sz z p.2)) (h2:zR tok sz z ob=some ob') (hK:K ⟨sl',ob'⟩):ba C o K ⟨sl,ob⟩:=Co ho hd hi hiz hx hv (AV.sub_refl _) hc hcl htok h1 h2 hK
end
def rx (c:Nat)(imp:List Nat):gw->gw->Prop|(k,d,v)::r,(k',d',v')::r'=>(k=k'/\d=d'/\(imp.any (Nat.beq k)=true\/v c=v' c))/\rx c imp r r'|[],[]=>True|_,_=>False
theorem rT {c:Nat}{imp:List Nat}:∀ {r1 r2:gw},rx c imp r1 r2->∀ k p,imp.any (Nat.beq k)=false->dz r2 k=some p->∃ v,dz r1 k=some (p.1,v)/\v c=p.2 c
 | [],[],_,k,p,_,h=>by cases h
 | (k1,d1,v1)::r,(k2,d2,v2)::r',⟨⟨e1,e2,e3⟩,hr⟩,k,p,hk,h=>by
  subst e1 e2;simp only [dz] at h ⊢
  cases hb:Nat.beq k1 k
  ·rw [hb,cond_false] at h;rw [cond_false];exact rT hr k p hk h
  ·rw [hb,cond_true] at h
   cases h
   rw [cond_true];have:=cl hb;subst this;exact ⟨v1,rfl,e3.resolve_left (by rw [hk]; exact λ h=>by cases h)⟩
 | [],_::_,h,_,_,_,_=>h.elim
 | _::_,[],h,_,_,_,_=>h.elim
theorem vM {C:Cx}{ops:Array Oper}{S1 S2:gb}{c k:Nat}{r1 r2:gw}{imp:List Nat}(h1:lks (ed r2 S2.m++S2.bas S2.m) ((ed r1 S1.m++S1.bas S1.m).map (·.1))=some ((ed r1 S1.m++S1.bas S1.m).map (·.2)))
  (h2:lkE (S1.obj S1.m) (S2.obj S2.m) (S1.obj S1.m)) (h3:rx c imp r1 r2) :
  DS C ops S2 (λ rev2=>(⟨ed rev2 S2.m++S2.bas S2.m,S2.obj S2.m⟩:AS).le ⟨ed r1 S1.m++S1.bas S1.m,S1.obj S1.m⟩/\rx c imp r1 rev2) [] k r2:=by
 refine ⟨⟨λ j x h=>?_,λ id cs h=>⟨cs,(xO h2 id cs h).trans h,ld _,λ i c d a b=>by rw [a] at b; cases b; exact AV.sub_refl _⟩⟩,h3⟩;have:=wj h1 j x h;unfold AS.get;rw [this];exact AV.sub_refl _
theorem yz {C:Cx}{id:Nat}{ops:Array Oper}{Q:Exit->AS->Prop}{sl:List (Nat×AV)}{ob:List (Nat×List AV)}(S1 S2:gb){k0 k1 k2:Nat}{r:List Nat}(hm:C.P.follows .mixedOrders=true)
  (hi1:S1.imp=k0::k1::k2::r) (hi2:S2.imp=k0::k2::k1::r) (hlen1:S1.imp.length=S1.m) (hlen2:S2.imp.length=S2.m) (hob1:S1.obj 0=ob) (hob2:S2.obj 1=S1.obj 1) (hb:fy sl (S1.bas 0)) (hb2:S2.bas 1=S1.bas 1)
  (hbas1:∀ j,j<S1.m->fy (trL (S1.D j) (S1.bas j)) (S1.bas (j+1))) (hbas2:∀ j,j<S2.m->fy (trL (S2.D j) (S2.bas j)) (S2.bas (j+1)))
  (hnd:nodupB (k0::k1::k2::r)=true) (hin:(k0::k1::k2::r).all (λ i=>Nat.blt i ops.size)=true) (hch1:chainB ops (k0::k1::r)=true) (hch2:chainB ops (k0::k2::r)=true)
  (hord:(ops.toList.zipIdx.all λ p=>p.1.after.toList.all λ e=>!(Region.binds .any e)||Nat.blt e.on p.2)=true)
  (h:DS C ops S1 (λ rev1=>Q .normal ⟨ed rev1 S1.m++S1.bas S1.m,S1.obj S1.m⟩/\DS C ops S2 (λ rev2=>(⟨ed rev2 S2.m++S2.bas S2.m,S2.obj S2.m⟩:AS).le ⟨ed rev1 S1.m++S1.bas S1.m,S1.obj S1.m⟩/\rx 1 (k1::k2::r) rev1 rev2) ops.toList 0 []) ops.toList 0 []):awp C (.region id ops true) Q ⟨sl,ob⟩:=by
 intro g a w hs
 have hnd2:nodupB S2.imp=true:=by
  rw [hi2];simp only [nodupB,List.any_cons,Bool.not_or,ph,Bool.not_eq_true'] at hnd ⊢;obtain ⟨⟨b1,b2,b3⟩,⟨a1,a2⟩,a3,a4⟩:=hnd;refine ⟨⟨b2,b1,b3⟩,⟨?_,a3⟩,a2,a4⟩
  cases hq:Nat.beq k2 k1
  ·rfl
  ·rw [cl hq] at a1; rw [Nat.beq_refl] at a1; cases a1
 have hin2:S2.imp.all (λ i=>Nat.blt i ops.size)=true:=by
  rw [hi2];simp only [List.all_cons,ph] at hin ⊢;exact ⟨hin.1,hin.2.2.1,hin.2.1,hin.2.2.2⟩
 obtain ⟨fin1,⟨hf1,h2⟩,hP1⟩:=wM.mk' hlen1 hbas1 (by rw [hi1]; exact hnd) (by rw [hi1]; exact hin) hord h;obtain ⟨fin2,⟨hf2,hag⟩,hP2⟩:=wM.mk' hlen2 hbas2 hnd2 hin2 hord h2
 have chain:∀ (x y:Nat) (S:gb),S.imp=k0::x::y::r->chainB ops (k0::y::r)=true->chainB ops (k0::x::r)=true->∀ (listed:Array Bool) (j i q:Nat),zj ops S listed j->i∈Region.ready .any ops listed->S.imp[q]? = some i->j<q->q=2/\j=1:=by
  intro x y S hS hcy hcx listed j i q hI hi hq hjq;obtain ⟨h1,o,ho,hafter⟩:=mem_ready.1 hi
  have use:∀ z zi,S.imp[z]? = some zi->mq ops 4 o zi=true->z<j:=by
   intro z zi hz hb;exact (hI.2.1 z zi hz).1 (jU hI.2.2 4 o zi hb hafter)
  match q,hq,hjq with
  | 0,_,hjq=>omega
  | 1,hq,hjq=>
   exfalso;rw [hS] at hq;have b1:=kz hcx 0 k0 i o Z (by simpa using hq) ho;have:=use 0 k0 (by rw [hS]; rfl) b1;omega
  | 2,hq,hjq=>
   rw [hS] at hq;have b1:=kz hcy 0 k0 i o rfl (by simpa using hq) ho;have:=use 0 k0 (by rw [hS]; rfl) b1;exact ⟨rfl,by omega⟩
  | q+3,hq,hjq=>
   exfalso;rw [hS] at hq;simp only [List.getElem?_cons_succ] at hq;have hql:q<r.length:=(List.getElem?_eq_some_iff.1 hq).1
   cases q with
   | zero=>
    have b1:=kz hcy 1 y i o Z (by simpa using hq) ho;have:=use 2 y (by rw [hS]; rfl) b1;omega
   | succ q=>
    have b1:=kz hcy (q+2) r[q] i o (by simp [List.getElem?_eq_getElem (show q<r.length by omega)]) (by simpa using hq) ho;have:=use (q+3) r[q] (by rw [hS]; simp [List.getElem?_eq_getElem (show q<r.length by omega)]) b1;omega
 have two:=nV hP2 hf2 hf1 2 (λ fuel listed g a w sl' j hj Gz i q hi hq hjq=>by
  have:=chain k2 k1 S2 hi2 hch1 hch2 listed j i q Gz.inv hi hq hjq; omega)
 refine wp_region_any hm ?_;refine (nV hP1 (AS.le_refl _) hf1 0 ?_).1 _ _ g a _ sl 0 (Nat.zero_le _) (PAt.start hb (by rw [hob1]; exact hs.drew));intro fuel listed g a w sl' j _ Gz i q hi hq hjq;obtain ⟨rfl,rfl⟩:=chain k1 k2 S1 hi1 hch2 hch1 listed j i q Gz.inv hi hq hjq;have EP:i=k2:=by rw [hi1] at hq; simpa using hq.symm
 subst EP
 have hno:∀ k,(k1::i::r).any (Nat.beq k)=true->listed.getD k false=false:=by
  intro k hk;obtain ⟨x,hx,hkx⟩:=List.any_eq_true.1 hk;have:=cl hkx;subst this;obtain ⟨z,hz⟩:=List.mem_iff_getElem?.1 hx;have:=Gz.inv.2.1 (z+1) k (by rw [hi1]; simpa using hz)
  cases hl:listed.getD k false with
  | false=>rfl
  | true=>have:=this.1 hl; omega
 have hm2:1<=S2.m:=by rw [<- hlen2,hi2]; simp
 refine two.2 fuel listed g a w sl' 1 i (.inr ⟨ld _,by rw [hi2]; rfl⟩) hi ⟨Gz.sz,Gz.un,⟨hm2,λ z k hz=>?_,Gz.inv.2.2⟩,⟨λ z x hx=>Gz.kn.1 z x (by rw [<- hb2]; exact hx),λ k p hk hp=>?_⟩,by rw [hob2]; exact Gz.st⟩
 ·cases z with
  | zero=>
   have hz0:k=k0:=by rw [hi2] at hz; simpa using hz.symm
   subst hz0;have:=Gz.inv.2.1 0 k (by rw [hi1]; rfl);exact this
  | succ z=>
   constructor
   ·intro hl
    have hmem:k∈(k1::i::r):=by
     have:=List.mem_of_getElem? (show (i::k1::r)[z]? = some k by rw [hi2] at hz; simpa using hz);simp only [List.mem_cons] at this ⊢;rcases this with h|h|h
     ·exact .inr (.inl h)
     ·exact .inl h
     ·exact .inr (.inr h)
    rw [hno k (List.any_eq_true.2 ⟨k,hmem,by simp⟩)] at hl
    cases hl
   ·intro h; omega
 ·have hk':(k1::i::r).any (Nat.beq k)=false:=by
   cases hq:(k1::i::r).any (Nat.beq k) with
   | false=>rfl
   | true=>rw [hno k hq] at hk; cases hk
  obtain ⟨v,hv1,hv2⟩:=rT hag k p hk' hp;have:=Gz.kn.2 k _ hk hv1;rw [<- hv2]; exact this
theorem mSP {C:Cx}{Q:Exit->AS->Prop}{k:List Fr}{ops:Array Oper}{sl:List (Nat×AV)}{ob:List (Nat×List AV)}(S1 S2:gb){id k0 k1 k2:Nat}{r:List Nat}(hm:C.P.follows .mixedOrders=true)
  (hi1:S1.imp=k0::k1::k2::r) (hi2:S2.imp=k0::k2::k1::r) (hlen1:S1.imp.length=S1.m) (hlen2:S2.imp.length=S2.m) (hob1:S1.obj 0=ob) (hob2:S2.obj 1=S1.obj 1) (hb:fy sl (S1.bas 0)) (hb2:S2.bas 1=S1.bas 1)
  (hbas1:∀ j,j<S1.m->fy (trL (S1.D j) (S1.bas j)) (S1.bas (j+1))) (hbas2:∀ j,j<S2.m->fy (trL (S2.D j) (S2.bas j)) (S2.bas (j+1)))
  (hnd:nodupB (k0::k1::k2::r)=true) (hin:(k0::k1::k2::r).all (λ i=>Nat.blt i ops.size)=true) (hch1:chainB ops (k0::k1::r)=true) (hch2:chainB ops (k0::k2::r)=true)
  (hord:(ops.toList.zipIdx.all λ p=>p.1.after.toList.all λ e=>!(Region.binds .any e)||Nat.blt e.on p.2)=true)
  (h:DS C ops S1 (λ rev1=>M C Q ⟨.ex .normal,k,⟨ed rev1 S1.m++S1.bas S1.m,S1.obj S1.m⟩⟩/\DS C ops S2 (λ rev2=>(⟨ed rev2 S2.m++S2.bas S2.m,S2.obj S2.m⟩:AS).le ⟨ed rev1 S1.m++S1.bas S1.m,S1.obj S1.m⟩/\rx 1 (k1::k2::r) rev1 rev2) ops.toList 0 []) ops.toList 0 []) :
  M C Q ⟨.cd (.region id ops true),k,⟨sl,ob⟩⟩ :=
 yz S1 S2 hm hi1 hi2 hlen1 hlen2 hob1 hob2 hb hb2 hbas1 hbas2 hnd hin hch1 hch2 hord h
end Go.Ab
end
section
namespace Go.Ab.R06
open Go.Proofs Go.Ab Go.Ab.RB
attribute [local irreducible] awp gg ba aF aU AV.sub M cB
def jD (Kx:Int):Option Bool :=(if (-9007199254740992)<=Kx then some (decide (Kx<=9007199254740992))else some false : Option Bool).bind λ t2=>some t2
theorem oN (Kx:Int)(r:Bool)(h0:jD Kx=some r):aF Tryz.prog 213 [eI Kx] (·=.p (eB r)):=by
 unfold jD at h0;refine aZ good Tryz.func213 Z Z Z λ w0=>mP (λ v:Bool=>.p (eB v)) ?_;refine nx 5 Z (bd h0 λ o4 h1 h0=>?_);refine kN o4 (λ v5=>⟨[(2,.p (eB v5))],[]⟩) ?_ ?_
 ·exact nx 2 Z (mQ (oi h0) Z (sr))
 refine nx 4 Z (fD [4,5] h1 Z (λ c1 h1=>?_) λ c1 h1=>?_)
 ·exact nx 5 Z (eX _ (oi h1).symm (gE Z Z))
 exact nx 5 Z (eX _ (oi h1).symm (gE Z Z))
def fT (s7:Bk):Nat->Int->Option (Unit⊕Bool)|0,_=>none|m+1,F5=>if F5<(s7.length:Int) then(ck ((0:Int)<=F5/\F5<(s7.length:Int))<|if byt s7 F5<48 then some true else ck ((0:Int)<=F5/\F5<(s7.length:Int))<|some (decide (57<byt s7 F5)) : Option Bool).bind λ t21=>if t21=true then some (.inr false)else ck (inR (F5+1))<|fT s7 m (F5+1)else some (.inl ())
def lg (n:Nat)(Ez:Bk):Option Bool :=jn ((if 0<(Ez.length:Int) then ck ((0:Int)<=0/\0<(Ez.length:Int))<|some (decide (byt Ez 0=45))else some false : Option Bool).bind λ t3=>if t3=true then ck ((0:Int)<=1/\1<=(Ez.length:Int)/\(Ez.length:Int)<=(Ez.length:Int))<|if sub Ez 1 (Ez.length:Int)=([48]:Bk) then some (.inr false)else some (.inl (sub Ez 1 (Ez.length:Int)))else some (.inl Ez) : Option (Bk⊕Bool)) λ s7=>jn (fT s7 n 0) λ _Hk=>(if s7=([]:Bk) then some false else ck ((0:Int)<=0/\0<(s7.length:Int))<|if byt s7 0=48 then some (decide ((s7.length:Int)=1))else some true : Option Bool).bind λ GM=>some GM
theorem p9 (n:Nat)(Ez:Bk)(r:Bool)(h0:lg n Ez=some r):aF Tryz.prog 238 [eS Ez] (·=.p (eB r)):=by
 unfold lg at h0;refine aZ good Tryz.func238 Z Z Z λ w0=>mP (λ v:Bool=>.p (eB v)) ?_;refine nx 5 rfl ?_;obtain ⟨Jk,h1,E3,hR0⟩:=bR h0;refine kX (λ HY:Bk=>Jk=.inl HY) (λ HY=>⟨[(0,.p (eS HY))],[]⟩) (λ HY hv=>?_) ?_
 ·have h0:=E3 _ hv;refine nx 5 rfl (oLs rfl ?_);refine nx 3 rfl ?_;obtain ⟨Jj,h1,E3,hR0⟩:=bR h0;refine kEx 0 (λ v37:Unit=>Jj=.inl v37) (λ v37=>⟨[(0,.p (eS HY))],[]⟩) (λ v37 hv=>?_) ?_
  ·have h0:=E3 _ hv;refine nx 2 Z (bd h0 λ Jz h1 h0=>?_);refine kN Jz (λ I'=>⟨[(2,.p (eB I'))],[]⟩) ?_ ?_
   ·exact nx 2 Z (mQ (oi h0) Z (sr))
   refine nx 2 Z (oS Z Z ?_);refine nx 1 Z (fN [33,34] h1 Z (λ HO h1=>?_) λ HO h1=>?_)
   ·exact nx 11 Z (eX _ (oi h1).symm (gE Z Z))
   refine nx 1 Z (oI h1 Z λ FV h1=>?_);refine nx 2 Z (fN [37,38] h1 Z (λ HW h1=>?_) λ HW h1=>?_)
   ·refine nx 1 Z (oLs Z ?_);exact nx 5 Z (eX _ (oi h1).symm (gE Z Z))
   exact nx 7 Z (eX _ (oi h1).symm (gE Z Z))
  refine lG (λ (KI:Int)=>⟨[(0,.p (eS HY)),(17,.p (eI (HY.length:Int))),(18,.p (eI KI))],[]⟩) (λ m (KI:Int)=>fT HY m KI) Y 0 h1 (gE rfl rfl) ?_;rintro m F5 h1;replace h1:fT HY (m+1) F5=some Jj:=h1;rw [fT] at h1;refine nx 5 rfl (fD [19] h1 rfl (λ Fc h1=>?_) λ Fc h1=>?_)
  ·refine nx 10 Z (bd h1 λ JM h2 h1=>?_);refine kN JM (λ MP=>⟨[(0,.p (eS HY)),(17,.p (eI (HY.length:Int))),(18,.p (eI F5)),(30,.p (eB MP))],[]⟩) ?_ ?_
   ·refine nx 1 Z (fB [30] h1 Z (λ J5 h1=>?_) λ J5 h1=>?_)
    ·exact nx 6 Z (mQ (hR0 _ (oi h1).symm) Z (sr))
    refine nx 3 Z (oA h1 Z Z λ FK h1=>?_);exact nx 2 Z (eX (F5+1) h1 (gE Z Z))
   refine nx 3 Z (oI h2 Z λ Hg h2=>?_);refine nx 2 Z (fD [24,25] h2 Z (λ HE h2=>?_) λ HE h2=>?_)
   ·exact nx 6 Z (eX _ (oi h2).symm (gE Z Z))
   refine nx 2 Z (oI h2 Z λ Fv h2=>?_);exact nx 3 Z (eX _ (oi h2).symm (gE Z Z))
  exact nx 2 Z (eXi _ (oi h1).symm (gE Z Z))
 refine nx 1 Z (bd h1 λ KM h2 h1=>?_);refine kN KM (λ Kf=>⟨[(0,.p (eS Ez)),(11,.p (eB Kf))],[]⟩) ?_ ?_
 ·refine nx 1 Z (fB [11] h1 Z (λ c4 h1=>?_) λ c4 h1=>?_)
  ·refine nx 4 Z (oP h1 Z Z Z λ JV h1=>?_);refine nx 5 Z (oS Z Z ?_);refine nx 1 Z (fD [15] h1 Z (λ c6 h1=>?_) λ c6 h1=>?_)
   ·exact nx 6 Z (mQ (hR0 _ (oi h1).symm) Z (sr))
   exact nx 2 Z (eX _ (oi h1).symm (gE Z Z))
  exact nx 2 Z (eX _ (oi h1).symm (gE Z Z))
 refine nx 2 Z (oLs Z ?_);refine nx 2 Z (fD [6,7] h2 Z (λ c1 h2=>?_) λ c1 h2=>?_)
 ·refine nx 1 Z (oI h2 Z λ Hm h2=>?_);exact nx 3 Z (eX _ (oi h2).symm (gE Z Z))
 exact nx 5 Z (eX _ (oi h2).symm (gE Z Z))
def ov (n:Nat)(Ez:Bk):Option (Int×Int) :=(lg n Ez).bind λ r1=>if (!r1)=true then some (0,2)else(nY Ez 10 64).bind λ r4=>(if r4.2=true then some true else(jD r4.1).bind λ r7=>some (!r7) : Option Bool).bind λ t9=>if t9=true then some (0,5)else some (r4.1,0)
theorem sF (n:Nat)(Ez:Bk)(r:Int×Int)(h0:ov n Ez=some r):aF Tryz.prog 228 [eS Ez] (·=.tuple [.p (eI r.1),.p (eI r.2)]):=by
 unfold ov at h0;refine aZ good Tryz.func228 Z Z Z λ w0=>mP (λ v:Int×Int=>.tuple [.p (eI v.1),.p (eI v.2)]) ?_;refine nx 9 Z (bd h0 λ r1 e2 h0=>?_);refine oK (p9 _ Ez _ e2) Z ⟨sr,trivial⟩ Tryz.call238 Z (nx 2 Z ?_);refine fB [8] h0 Z (λ c3 h0=>?_) λ c3 h0=>?_
 ·exact nx 7 Z (mQ (oi h0) Z (aG ⟨sr,sr,trivial⟩))
 refine nx 5 Z (bd h0 λ r4 e5 h0=>?_);refine oK (pY Ez 10 64 _ e5) Z ⟨sr,sr,sr,trivial⟩ Tryz.call239 (zW (rZ Z (rZ (DV _) xC))) (nx 8 Z ?_);refine bd h0 λ LZ h1 h0=>kN LZ (λ JH=>⟨[(4,.p (eI r4.1)),(20,.p (eB JH))],[]⟩) ?_ ?_
 ·refine nx 1 Z (fB [20] h0 Z (λ FP h0=>?_) λ FP h0=>?_)
  ·exact nx 7 Z (mQ (oi h0) Z (aG ⟨sr,sr,trivial⟩))
  exact nx 9 Z (mQ (oi h0) Z (aG ⟨sr,sr,trivial⟩))
 refine nx 2 Z (mO Z (Dr Z Z Z Z Z Z (.inr ⟨Z,Z⟩) ?_));refine nx 1 Z (fB [15,16] h1 Z (λ c6 h1=>?_) λ c6 h1=>?_)
 ·exact nx 5 Z (eX _ (oi h1).symm (gE Z Z))
 refine nx 1 Z (bd h1 λ r7 e8 h1=>?_);refine oK (oN r4.1 _ e8) Z ⟨sr,trivial⟩ Tryz.call213 Z (nx 3 Z ?_);exact eX _ (oi h1).symm (gE Z Z)
def eT (Ez:Bk):Nat->Int->Int->Option (Int×Int)|0,_,_=>none|m+1,n11,i12=>(if i12<(Ez.length:Int) then some (decide (i12<6))else some false : Option Bool).bind λ HR=>if HR=true then ck ((0:Int)<=i12/\i12<(Ez.length:Int))<|(strings_IndexByte ([48,49,50,51,52,53,54,55,56,57,97,98,99,100,101,102]:Bk) (byt Ez i12)).bind λ Fj=>if Fj<0 then some (n11,i12)else ck (inR (i12+1))<|eT Ez m (IntKind.wrap .i32 ((IntKind.wrap .i32 (16*n11))+(IntKind.wrap .i32 (Fj)))) (i12+1)else some (n11,i12)
def kf (n:Nat)(Ez:Bk):Option (Int×Int×Int) :=(eT Ez n 0 0).bind λ Kr=>if Kr.2=(Ez.length:Int) then some (0,0,40)else(ck ((0:Int)<=Kr.2/\Kr.2<(Ez.length:Int))<|if byt Ez Kr.2=125 then if Kr.2=0 then some true else if 1<Kr.2 then ck ((0:Int)<=0/\0<(Ez.length:Int))<|if byt Ez 0=48 then some true else(iv Kr.1).bind λ Hd=>some (!Hd)else(iv Kr.1).bind λ E'=>some (!E')else some true : Option Bool).bind λ t36=>if t36=true then some (0,0,2)else ck (inR (Kr.2+1))<|some (Kr.1,Kr.2+1,0)
theorem oX (n:Nat)(Ez:Bk)(r:Int×Int×Int)(h0:kf n Ez=some r):aF Tryz.prog 165 [eS Ez] (·=.tuple [.p (eK .i32 r.1),.p (eI r.2.1),.p (eI r.2.2)]):=by
 unfold kf at h0;refine aZ good Tryz.func165 Z Z Z λ w0=>mP (λ v:Int×Int×Int=>.tuple [.p (eK .i32 v.1),.p (eI v.2.1),.p (eI v.2.2)]) ?_;refine nx 13 Z (bd h0 λ H9 h1 h0=>?_);refine kE 0 H9 (λ HX=>⟨[(0,.p (eS Ez)),(5,.p (eK .i32 HX.1)),(6,.p (eI HX.2))],[]⟩) ?_ ?_
 ·refine nx 6 Z (oLs Z ?_);refine nx 2 Z (fD [32] h0 Z (λ HO h0=>?_) λ HO h0=>?_)
  ·exact nx 8 Z (mQ (oi h0) Z (aG ⟨sr,sr,sr,trivial⟩))
  refine nx 4 Z (bd h0 λ LY h1 h0=>?_);refine kN LY (λ LF=>⟨[(5,.p (eK .i32 H9.1)),(6,.p (eI H9.2)),(54,.p (eB LF))],[]⟩) ?_ ?_
  ·refine nx 1 Z (fB [54] h0 Z (λ c37 h0=>?_) λ c37 h0=>?_)
   ·exact nx 8 Z (mQ (oi h0) Z (aG ⟨sr,sr,sr,trivial⟩))
   refine nx 6 Z (oA h0 Z Z λ L6 h0=>?_);exact nx 5 Z (mQ (oi h0) Z (aG ⟨sr,sr,sr,trivial⟩))
  refine nx 3 Z (oI h1 Z λ FV h1=>?_);refine nx 2 Z (fN [36,37] h1 Z (λ HW h1=>?_) λ HW h1=>?_)
  ·refine nx 4 Z (fD [39,40,41] h1 Z (λ Lh h1=>?_) λ Lh h1=>?_)
   ·exact nx 14 Z (eX _ (oi h1).symm (gE Z Z))
   refine nx 3 Z (fD [43,44] h1 Z (λ Jt h1=>?_) λ Jt h1=>?_)
   ·refine nx 1 Z (oI h1 Z λ JX h1=>?_);refine nx 4 Z (fD [47,48,49,50] h1 Z (λ J4 h1=>?_) λ J4 h1=>?_)
    ·exact nx 5 Z (eX _ (oi h1).symm (gE Z Z))
    refine nx 1 Z (bd h1 λ Hd KD h1=>?_);refine oK (jF H9.1 _ KD) Z ⟨sr,trivial⟩ Tryz.call191 Z (nx 3 Z ?_);exact eX _ (oi h1).symm (gE Z Z)
   refine nx 7 Z (bd h1 λ E' Ml h1=>?_);refine oK (jF H9.1 _ Ml) Z ⟨sr,trivial⟩ Tryz.call191 Z (nx 3 Z ?_);exact eX _ (oi h1).symm (gE Z Z)
  exact nx 18 Z (eX _ (oi h1).symm (gE Z Z))
 refine lG (λ (Ie:Int×Int)=>⟨[(0,.p (eS Ez)),(5,.p (eK .i32 Ie.1)),(6,.p (eI Ie.2))],[]⟩) (λ m (Ie:Int×Int)=>eT Ez m Ie.1 Ie.2) Y (0,0) h1 (gE rfl rfl) ?_;rintro m ⟨n11,i12⟩ h1;replace h1:eT Ez (m+1) n11 i12=some H9:=h1;rw [eT] at h1;refine nx 2 rfl (bd h1 λ MB h2 h1=>?_);refine kN MB (λ MO=>⟨[(0,.p (eS Ez)),(5,.p (eK .i32 n11)),(6,.p (eI i12)),(15,.p (eB MO))],[]⟩) ?_ ?_
 ·refine nx 1 Z (fB [15] h1 Z (λ Gw h1=>?_) λ Gw h1=>?_)
  ·refine nx 8 Z (oI h1 Z λ GT h1=>?_);refine bd h1 λ Fj JZ h1=>oK (gM ([48,49,50,51,52,53,54,55,56,57,97,98,99,100,101,102]:Bk) (byt Ez i12) _ JZ) Z ⟨sr,sr,trivial⟩ Tryz.call82 Z (nx 8 Z ?_);refine fD [23] h1 Z (λ HE h1=>?_) λ HE h1=>?_
   ·exact nx 2 Z (eXi _ (oi h1).symm (gE Z Z))
   refine nx 12 Z (oA h1 Z Z λ Fv h1=>?_);exact nx 2 Z (eX (IntKind.wrap .i32 ((IntKind.wrap .i32 (16*n11))+(IntKind.wrap .i32 (Fj))),i12+1) h1 (gE Z Z))
  exact nx 2 Z (eXi _ (oi h1).symm (gE Z Z))
 refine nx 3 Z (oLs Z ?_);refine nx 2 Z (fD [11,12] h2 Z (λ FS h2=>?_) λ FS h2=>?_)
 ·exact nx 4 Z (eX _ (oi h2).symm (gE Z Z))
 exact nx 4 Z (eX _ (oi h2).symm (gE Z Z))
def nz (n:Nat)(Ez:Bk):Option (Int×Int×Int) :=if Ez=([]:Bk) then some (0,0,40)else ck ((0:Int)<=0/\0<(Ez.length:Int))<|if byt Ez 0=110 then some (10,1,0)else if byt Ez 0=114 then some (13,1,0)else if byt Ez 0=116 then some (9,1,0)else(if byt Ez 0=34 then some true else some (decide (byt Ez 0=92)) : Option Bool).bind λ t7=>if t7=true then ck ((0:Int)<=0/\0<(Ez.length:Int))<|some (IntKind.wrap .i32 (byt Ez 0),1,0)else if byt Ez 0=117 then if (Ez.length:Int)=1 then some (0,0,40)else ck ((0:Int)<=1/\1<(Ez.length:Int))<|if byt Ez 1=123 then ck ((0:Int)<=2/\2<=(Ez.length:Int)/\(Ez.length:Int)<=(Ez.length:Int))<|(kf n (sub Ez 2 (Ez.length:Int))).bind λ EV=>ck (inR (EV.2.1+2))<|some (EV.1,EV.2.1+2,EV.2.2)else some (0,0,2)else some (0,0,2)
theorem rk (n:Nat)(Ez:Bk)(r:Int×Int×Int)(h0:nz n Ez=some r):aF Tryz.prog 139 [eS Ez] (·=.tuple [.p (eK .i32 r.1),.p (eI r.2.1),.p (eI r.2.2)]):=by
 unfold nz at h0;refine aZ good Tryz.func139 Z Z Z λ w0=>mP (λ v:Int×Int×Int=>.tuple [.p (eK .i32 v.1),.p (eI v.2.1),.p (eI v.2.2)]) ?_;refine nx 10 Z (oS Z Z ?_);refine nx 1 Z (fD [9] h0 Z (λ c1 h0=>?_) λ c1 h0=>?_)
 ·exact nx 8 Z (mQ (oi h0) Z (aG ⟨sr,sr,sr,trivial⟩))
 refine nx 6 Z (oI h0 Z λ Hm h0=>?_);refine nx 7 Z (fD [12,13] h0 Z (λ c3 h0=>?_) λ c3 h0=>?_)
 ·exact nx 8 Z (mQ (oi h0) Z (aG ⟨sr,sr,sr,trivial⟩))
 refine nx 6 Z (fD [14,15] h0 Z (λ c4 h0=>?_) λ c4 h0=>?_)
 ·exact nx 8 Z (mQ (oi h0) Z (aG ⟨sr,sr,sr,trivial⟩))
 refine nx 6 Z (fD [16,17] h0 Z (λ c5 h0=>?_) λ c5 h0=>?_)
 ·exact nx 8 Z (mQ (oi h0) Z (aG ⟨sr,sr,sr,trivial⟩))
 refine nx 2 Z (bd h0 λ Ib h1 h0=>?_);refine kN Ib (λ v20=>⟨[(0,.p (eS Ez)),(11,.p (eK .u8 (byt Ez 0))),(18,.p (eB v20))],[]⟩) ?_ ?_
 ·refine nx 1 Z (fB [18] h0 Z (λ c8 h0=>?_) λ c8 h0=>?_)
  ·refine nx 4 Z (oI h0 Z λ Iv h0=>?_);exact nx 6 Z (mQ (oi h0) Z (aG ⟨sr,sr,sr,trivial⟩))
  refine nx 6 Z (fD [24,25] h0 Z (λ FP h0=>?_) λ FP h0=>?_)
  ·refine nx 5 Z (oLs Z ?_);refine nx 2 Z (fD [28] h0 Z (λ GK h0=>?_) λ GK h0=>?_)
   ·exact nx 8 Z (mQ (oi h0) Z (aG ⟨sr,sr,sr,trivial⟩))
   refine nx 6 Z (oI h0 Z λ HC h0=>?_);refine nx 2 Z (fN [31] h0 Z (λ FS h0=>?_) λ FS h0=>?_)
   ·refine nx 5 Z (oP h0 Z Z Z λ HU h0=>?_);refine bd h0 λ EV Jr h0=>oK (oX _ (sub Ez 2 (Ez.length:Int)) _ Jr) Z ⟨sr,trivial⟩ Tryz.call165 Z (nx 12 Z ?_);refine oA h0 Z Z λ K3 h0=>nx 5 Z (mG (gE (t:=⟨[(2,.p (eK .i32 EV.1)),(3,.p (eI (EV.2.1+2))),(4,.p (eI EV.2.2))],[]⟩) Z Z) ?_);exact nx 1 Z (mQ (oi h0) Z (aG ⟨sr,sr,sr,trivial⟩))
   exact nx 8 Z (mQ (oi h0) Z (aG ⟨sr,sr,sr,trivial⟩))
  exact nx 9 Z (mQ (oi h0) Z (aG ⟨sr,sr,sr,trivial⟩))
 refine nx 5 Z (fD [18,19] h1 Z (λ c6 h1=>?_) λ c6 h1=>?_)
 ·exact nx 2 Z (eX _ (oi h1).symm (gE Z Z))
 exact nx 5 Z (eX _ (oi h1).symm (gE Z Z))
def gP (n:Nat)(Ez:Bk):Nat->Int->(List UInt8)->Option ((Int×(List UInt8))⊕(Bk×Int×Int))|0,_,_=>none|m+1,at31,IH=>(if at31<(Ez.length:Int) then ck ((0:Int)<=at31/\at31<(Ez.length:Int))<|some (!decide (byt Ez at31=34))else some false : Option Bool).bind λ t35=>if t35=true then ck ((0:Int)<=at31/\at31<=(Ez.length:Int)/\(Ez.length:Int)<=(Ez.length:Int))<|(dG (sub Ez at31 (Ez.length:Int))).bind λ HS=>jn (if HS.1=92 then ck (inR (at31+1))<|ck ((0:Int)<=at31+1/\at31+1<=(Ez.length:Int)/\(Ez.length:Int)<=(Ez.length:Int))<|(nz n (sub Ez (at31+1) (Ez.length:Int))).bind λ Kk=>if Kk.2.2=0 then ck (inR (Kk.2.1+1))<|some (.inl (Kk.1,Kk.2.1+1))else some (.inr (.inr (([]:Bk),0,Kk.2.2)))else(if HS.1=65533 then if HS.2=1 then some true else if HS.1<32 then some true else some (decide (HS.1=127))else if HS.1<32 then some true else some (decide (HS.1=127)) : Option Bool).bind λ t51=>if t51=true then some (.inr (.inr (([]:Bk),0,2)))else some (.inl (HS.1,HS.2)) : Option ((Int×Int)⊕((Int×(List UInt8))⊕(Bk×Int×Int)))) λ KT=>(gx (cS.mk IH) KT.1).bind λ H4=>ck (inR (at31+KT.2))<|gP n Ez m (at31+KT.2) H4.2.2.Ew else some (.inl (at31,IH))
def kU (n:Nat)(Ez:Bk):Option (Bk×Int×Int) :=if Ez=([]:Bk) then some (([]:Bk),0,40)else ck ((0:Int)<=0/\0<(Ez.length:Int))<|if byt Ez 0=34 then jn (gP n Ez n 1 []) λ LL=>if LL.1=(Ez.length:Int) then some (([]:Bk),0,40)else(jQ (cS.mk LL.2)).bind λ Il=>if 4096<Il.1 then some (([]:Bk),0,3)else(kS (cS.mk Il.2.Ew)).bind λ Ik=>ck (inR (LL.1+1))<|some (Ik.1,LL.1+1,0)else some (([]:Bk),0,2)
theorem nh (n:Nat)(Ez:Bk)(r:Bk×Int×Int)(h0:kU n Ez=some r):aF Tryz.prog 117 [eS Ez] (·=.tuple [.p (eS r.1),.p (eI r.2.1),.p (eI r.2.2)]):=by
 unfold kU at h0;refine aZ good Tryz.func117 Z Z Z λ w0=>mP (λ v:Bk×Int×Int=>.tuple [.p (eS v.1),.p (eI v.2.1),.p (eI v.2.2)]) ?_;refine nx 10 Z (oS Z Z ?_);refine nx 1 Z (fD [13] h0 Z (λ c1 h0=>?_) λ c1 h0=>?_)
 ·exact nx 8 Z (mQ (oi h0) Z (aG ⟨sr,sr,sr,trivial⟩))
 refine nx 6 Z (oI h0 Z λ Hm h0=>?_);refine nx 2 Z (fN [16] h0 Z (λ c3 h0=>?_) λ c3 h0=>?_)
 ·refine nx 4 rfl (mO rfl (zu Z Z Z Z Z Z Z ?_));refine nx 7 rfl ?_;obtain ⟨LV,h1,E3,hR0⟩:=bR h0;refine kEx 0 (λ JD:Int×(List UInt8)=>LV=.inl JD) (λ JD=>⟨[(0,.p (eS Ez)),(5,.ptr 5 0),(6,.p (eI JD.1))],[(5,[.bptr 184 2 5,.vec 101000 1 (5+1) (JD.2.map eU)])]⟩) (λ JD hv=>?_) ?_
  ·have h0:=E3 _ hv;refine nx 6 Z (oLs Z ?_);refine nx 2 Z (fD [73] h0 Z (λ c62 h0=>?_) λ c62 h0=>?_)
   ·exact nx 8 Z (mQ (oi h0) Z (aG ⟨sr,sr,sr,trivial⟩))
   refine nx 5 Z (bd h0 λ Il Mh h0=>?_);refine mO Z (aQ [5] [101000] 103000 103001 (oo (cS.mk JD.2) _ Mh) Z Z Z Z Z ⟨sr,trivial⟩ Z Z ⟨⟨_,Z,⟨sr,sr,trivial⟩⟩,trivial⟩ Z Z Z Z Z Z Z Z Tryz.call141 Z Z ?_);refine nx 2 Z (fD [75] h0 Z (λ NM h0=>?_) λ NM h0=>?_)
   ·exact nx 8 Z (mQ (oi h0) Z (aG ⟨sr,sr,sr,trivial⟩))
   refine nx 4 Z (bd h0 λ Ik Nx h0=>?_);refine mO Z (aQ [5] [103000] 104000 104000 (mX (cS.mk Il.2.Ew) _ Nx) Z Z Z Z Z ⟨sr,trivial⟩ Z Z ⟨⟨_,Z,⟨sr,sr,trivial⟩⟩,trivial⟩ Z Z Z Z Z Z Z Z Tryz.call142 Z Z ?_);refine nx 1 Z (oA h0 Z Z λ IU h0=>?_);exact nx 5 Z (mQ (oi h0) Z (aG ⟨sr,sr,sr,trivial⟩))
  refine lG (λ (IG:Int×(List UInt8))=>⟨[(0,.p (eS Ez)),(5,.ptr 5 0),(6,.p (eI IG.1))],[(5,[.bptr 184 2 5,.vec 101000 1 (5+1) (IG.2.map eU)])]⟩) (λ m (IG:Int×(List UInt8))=>gP n Ez m IG.1 IG.2) Y (1,[]) h1 (cb (gU ⟨er rfl,er rfl,er rfl,trivial⟩ ⟨⟨_,rfl,⟨sr,AV.sub_nilvec _ _ _,trivial⟩⟩,trivial⟩)) ?_;rintro m ⟨at31,IH⟩ h1;replace h1:gP n Ez (m+1) at31 IH=some LV:=h1;rw [gP] at h1;refine nx 2 rfl (bd h1 λ Lw h2 h1=>?_);refine kN Lw (λ JC=>⟨[(0,.p (eS Ez)),(5,.ptr 5 0),(6,.p (eI at31)),(26,.p (eB JC))],[(5,[.bptr 184 2 5,.vec 101000 1 (5+1) (IH.map eU)])]⟩) ?_ ?_
  ·refine nx 1 Z (fB [26] h1 Z (λ J3 h1=>?_) λ J3 h1=>?_)
   ·refine nx 7 rfl (oP h1 Z Z Z λ Jo h1=>?_);refine bd h1 λ HS NI h1=>oK (eh (sub Ez at31 (Ez.length:Int)) _ NI) rfl ⟨sr,trivial⟩ Tryz.call135 rfl (nx 7 rfl ?_);obtain ⟨LU,h2,hL1,hR1⟩:=bR h1;refine kX (λ JB:Int×Int=>LU=.inl JB) (λ JB=>⟨[(0,.p (eS Ez)),(5,.ptr 5 0),(6,.p (eI at31)),(7,.p (eK .i32 JB.1)),(8,.p (eI JB.2))],[(5,[.bptr 184 2 5,.vec 101000 1 (5+1) (IH.map eU)])]⟩) (λ JB hv=>?_) ?_
    ·have h1:=hL1 _ hv;refine nx 4 Z (bd h1 λ H4 Mi h1=>?_);refine mO Z (aQ [5] [101000] 102000 102001 (lP (cS.mk IH) JB.1 _ Mi) Z Z Z Z Z ⟨sr,sr,trivial⟩ Z Z ⟨⟨_,Z,⟨sr,sr,trivial⟩⟩,trivial⟩ Z Z Z Z Z Z Z Z Tryz.call140 Z Z ?_);refine nx 4 Z (oA h1 Z Z λ JS h1=>?_);exact nx 2 Z (eX (at31+JB.2,H4.2.2.Ew) h1 (aK (aY 102000 101000 Z Z Z Z Z) (gE Z Z)))
    refine nx 5 Z (fD [35] h2 Z (λ Js h2=>?_) λ Js h2=>?_)
    ·refine nx 5 Z (oA h2 Z Z λ FO h2=>?_);refine oP h2 Z Z Z λ Gm h2=>bd h2 λ Kk e44 h2=>oK (rk _ (sub Ez (at31+1) (Ez.length:Int)) _ e44) Z ⟨sr,trivial⟩ Tryz.call139 Z (nx 14 Z ?_);refine fN [46] h2 Z (λ NR h2=>?_) λ NR h2=>?_
     ·refine nx 5 Z (oA h2 Z Z λ L5 h2=>?_);exact nx 3 Z (eX _ (oi h2).symm (gE Z Z))
     refine nx 8 Z (mG (gE (t:=⟨[(2,.p (eS ([]:Bk))),(3,.p (eI 0)),(4,.p (eI Kk.2.2))],[]⟩) Z Z) ?_);exact nx 1 Z (mQ (hR0 _ (hR1 _ (oi h2).symm).symm) Z (aG ⟨sr,sr,sr,trivial⟩))
    refine nx 2 Z (bd h2 λ Jy h3 h2=>?_);refine kN Jy (λ II=>⟨[(0,.p (eS Ez)),(5,.ptr 5 0),(6,.p (eI at31)),(7,.p (eK .i32 HS.1)),(8,.p (eI HS.2)),(64,.p (eB II))],[(5,[.bptr 184 2 5,.vec 101000 1 (5+1) (IH.map eU)])]⟩) ?_ ?_
    ·refine nx 1 Z (fB [64] h2 Z (λ KF h2=>?_) λ KF h2=>?_)
     ·exact nx 8 Z (mQ (hR0 _ (hR1 _ (oi h2).symm).symm) Z (aG ⟨sr,sr,sr,trivial⟩))
     exact nx 2 Z (eX _ (oi h2).symm (gE Z Z))
    refine nx 4 Z (fD [52,53] h3 Z (λ Lf h3=>?_) λ Lf h3=>?_)
    ·refine nx 4 Z (fD [55,56,57] h3 Z (λ NQ h3=>?_) λ NQ h3=>?_)
     ·exact nx 8 Z (eX _ (oi h3).symm (gE Z Z))
     refine nx 4 Z (fD [59,60,61] h3 Z (λ J1 h3=>?_) λ J1 h3=>?_)
     ·exact nx 4 Z (eX _ (oi h3).symm (gE Z Z))
     exact nx 4 Z (eX _ (oi h3).symm (gE Z Z))
    refine nx 8 Z (fD [59,60,61] h3 Z (λ Ld h3=>?_) λ Ld h3=>?_)
    ·exact nx 4 Z (eX _ (oi h3).symm (gE Z Z))
    exact nx 4 Z (eX _ (oi h3).symm (gE Z Z))
   exact nx 2 Z (eXi _ (oi h1).symm (gE Z Z))
  refine nx 3 Z (oLs Z ?_);refine nx 2 Z (fD [20,21] h2 Z (λ Mt h2=>?_) λ Mt h2=>?_)
  ·refine nx 2 Z (oI h2 Z λ IB h2=>?_);exact nx 3 Z (eX _ (oi h2).symm (gE Z Z))
  exact nx 6 Z (eX _ (oi h2).symm (gE Z Z))
 exact nx 8 Z (mQ (oi h0) Z (aG ⟨sr,sr,sr,trivial⟩))
def jx (Ez:Bk):Option Bool :=(if (Ez.length:Int)<=4096 then(fq Ez).bind λ r2=>some r2 else some false : Option Bool).bind λ t4=>some t4
theorem oJ (Ez:Bk)(r:Bool)(h0:jx Ez=some r):aF Tryz.prog 69 [eS Ez] (·=.p (eB r)):=by
 unfold jx at h0;refine aZ good Tryz.func69 Z Z Z λ w0=>mP (λ v:Bool=>.p (eB v)) ?_;refine nx 5 Z (bd h0 λ o6 h1 h0=>?_);refine kN o6 (λ v7=>⟨[(2,.p (eB v7))],[]⟩) ?_ ?_
 ·exact nx 2 Z (mQ (oi h0) Z (sr))
 refine nx 2 Z (oLs Z ?_);refine nx 2 Z (fD [5,6] h1 Z (λ c1 h1=>?_) λ c1 h1=>?_)
 ·refine nx 1 Z (bd h1 λ r2 e3 h1=>?_);refine oK (lX Ez _ e3) Z ⟨sr,trivial⟩ Tryz.call103 Z (nx 3 Z ?_);exact eX _ (oi h1).symm (gE Z Z)
 exact nx 5 Z (eX _ (oi h1).symm (gE Z Z))
end Go.Ab.R06
end
