/- Texts of the proof, one behind the other. No statement is proved here. -/
import Derived.Below
import Derived.Lib.LaidTab
import Derived.Shelf.Lays
import Derived.Shelf.Small.Utf8
import Derived.Shelf.Small.Strs
import Derived.Shelf.Strings.Prefix
import Derived.Shelf.LaysM
import Derived.Shelf.Strconv.Itoa3
import Derived.Shelf.LaysC
import Derived.Shelf.Strconv.ParseIntPublic10
import Derived.Shelf.Unicode.DecodeAny
import Derived.Shelf.Unicode.ValidAny
import Derived.Shelf.Strings.Search3
import Derived.Test.YtaiecfcflcphmaaGreatDoorProg
import Derived.Lib.AppendIntMem
import Derived.WalkKit
import Derived.Deep.LoopGhost
import Derived.Laws.Runes
import Derived.Scope
import Derived.Deep.QuietTactic
import Derived.BigQuiet
import Derived.Laws.RangeString
import Derived.Lib.IndexAny
import Derived.Lib.TrimU
import Derived.MapKept
import Derived.Lib.AppendZeros
import Derived.Lib.OthersKept
import Derived.Defers
import Derived.Lib.MapLaws
import Derived.Lib.ValidLaws
import Derived.Lib.ParseIntB
import Derived.Test.YtaiecfcflcphmaaGreatDoorZ15Sa
import Derived.Test.YtaiecfcflcphmaaGreatDoorZ15Sb
set_option maxHeartbeats 4000000
section
namespace Go.Ab.RB
open Go.Proofs Go.Ab
variable {p:Prop}
theorem cZ (h:p:=by
  exact nx 2 Z (eX _ (oi h1).symm (gE Z Z))):p:=h
theorem fx (h:p:=by
  exact nx 5 Z (eX _ (oi h1).symm (gE Z Z))):p:=h
attribute [local irreducible] awp fV aX aK aS AV.sub M cv
def dD (NL:List UInt8)(Oe:Int):Option (List UInt8) :=if IntKind.wrap .u32 (Oe)<=2047 then ck ((0:Int)<=6)<|ck ((0:Int)<=iOr .u8 192 (IntKind.wrap .u8 (ij .i32 Oe 6))/\iOr .u8 192 (IntKind.wrap .u8 (ij .i32 Oe 6))<256)<|ck ((0:Int)<=iOr .u8 128 (iz .u8 (IntKind.wrap .u8 (Oe)) 63)/\iOr .u8 128 (iz .u8 (IntKind.wrap .u8 (Oe)) 63)<256)<|ck ((NL.length+[u8 (iOr .u8 192 (IntKind.wrap .u8 (ij .i32 Oe 6))),u8 (iOr .u8 128 (iz .u8 (IntKind.wrap .u8 (Oe)) 63))].length)*1<=140737488355328)<|some (NL++[u8 (iOr .u8 192 (IntKind.wrap .u8 (ij .i32 Oe 6))),u8 (iOr .u8 128 (iz .u8 (IntKind.wrap .u8 (Oe)) 63))])else(if IntKind.wrap .u32 (Oe)<55296 then some true else if 57343<IntKind.wrap .u32 (Oe) then some (decide (IntKind.wrap .u32 (Oe)<=65535))else some false : Option Bool).bind λ t8=>if t8=true then ck ((0:Int)<=12)<|ck ((0:Int)<=6)<|ck ((0:Int)<=iOr .u8 224 (IntKind.wrap .u8 (ij .i32 Oe 12))/\iOr .u8 224 (IntKind.wrap .u8 (ij .i32 Oe 12))<256)<|ck ((0:Int)<=iOr .u8 128 (iz .u8 (IntKind.wrap .u8 (ij .i32 Oe 6)) 63)/\iOr .u8 128 (iz .u8 (IntKind.wrap .u8 (ij .i32 Oe 6)) 63)<256)<|ck ((0:Int)<=iOr .u8 128 (iz .u8 (IntKind.wrap .u8 (Oe)) 63)/\iOr .u8 128 (iz .u8 (IntKind.wrap .u8 (Oe)) 63)<256)<|ck ((NL.length+[u8 (iOr .u8 224 (IntKind.wrap .u8 (ij .i32 Oe 12))),u8 (iOr .u8 128 (iz .u8 (IntKind.wrap .u8 (ij .i32 Oe 6)) 63)),u8 (iOr .u8 128 (iz .u8 (IntKind.wrap .u8 (Oe)) 63))].length)*1<=140737488355328)<|some (NL++[u8 (iOr .u8 224 (IntKind.wrap .u8 (ij .i32 Oe 12))),u8 (iOr .u8 128 (iz .u8 (IntKind.wrap .u8 (ij .i32 Oe 6)) 63)),u8 (iOr .u8 128 (iz .u8 (IntKind.wrap .u8 (Oe)) 63))])else(if 65535<IntKind.wrap .u32 (Oe) then some (decide (IntKind.wrap .u32 (Oe)<=1114111))else some false : Option Bool).bind λ P4=>if P4=true then ck ((0:Int)<=18)<|ck ((0:Int)<=12)<|ck ((0:Int)<=6)<|ck ((0:Int)<=iOr .u8 240 (IntKind.wrap .u8 (ij .i32 Oe 18))/\iOr .u8 240 (IntKind.wrap .u8 (ij .i32 Oe 18))<256)<|ck ((0:Int)<=iOr .u8 128 (iz .u8 (IntKind.wrap .u8 (ij .i32 Oe 12)) 63)/\iOr .u8 128 (iz .u8 (IntKind.wrap .u8 (ij .i32 Oe 12)) 63)<256)<|ck ((0:Int)<=iOr .u8 128 (iz .u8 (IntKind.wrap .u8 (ij .i32 Oe 6)) 63)/\iOr .u8 128 (iz .u8 (IntKind.wrap .u8 (ij .i32 Oe 6)) 63)<256)<|ck ((0:Int)<=iOr .u8 128 (iz .u8 (IntKind.wrap .u8 (Oe)) 63)/\iOr .u8 128 (iz .u8 (IntKind.wrap .u8 (Oe)) 63)<256)<|ck ((NL.length+[u8 (iOr .u8 240 (IntKind.wrap .u8 (ij .i32 Oe 18))),u8 (iOr .u8 128 (iz .u8 (IntKind.wrap .u8 (ij .i32 Oe 12)) 63)),u8 (iOr .u8 128 (iz .u8 (IntKind.wrap .u8 (ij .i32 Oe 6)) 63)),u8 (iOr .u8 128 (iz .u8 (IntKind.wrap .u8 (Oe)) 63))].length)*1<=140737488355328)<|some (NL++[u8 (iOr .u8 240 (IntKind.wrap .u8 (ij .i32 Oe 18))),u8 (iOr .u8 128 (iz .u8 (IntKind.wrap .u8 (ij .i32 Oe 12)) 63)),u8 (iOr .u8 128 (iz .u8 (IntKind.wrap .u8 (ij .i32 Oe 6)) 63)),u8 (iOr .u8 128 (iz .u8 (IntKind.wrap .u8 (Oe)) 63))])else ck ((NL.length+[(239:UInt8),(191:UInt8),(189:UInt8)].length)*1<=140737488355328)<|some (NL++[(239:UInt8),(191:UInt8),(189:UInt8)])
theorem jX (NL:List UInt8)(Oe:Int)(r:(List UInt8))(h0:dD NL Oe=some r):aS Tryz.prog 193 [.vec 900000 1 (5+1) (NL.map eU),.p (eK .i32 Oe)] [] (λ x y=>x=.vec 2000000 1 (5+1) (r.map eU)/\y=[]):=by
 unfold dD at h0;refine bT good [800000] [] Tryz.func193 Z Z Z Z Z λ w0 F=>mPo (λ v:(List UInt8)=>.vec 2000000 1 (5+1) (v.map eU)) (λ v=>[]) ?_;refine nx 17 Z (fD [11,13] h0 Z (λ c1 h0=>?_) λ c1 h0=>?_)
 ·refine nx 5 Z (cc' h0 λ P2 h0=>?_);refine mO Z (xE Z Z Z Z Z Z P2 ?_);refine nx 6 Z (cc' h0 λ Rq h0=>?_);refine cc' h0 λ QY h0=>mO Z (bz eU [u8 (iOr .u8 192 (IntKind.wrap .u8 (ij .i32 Oe 6))),u8 (iOr .u8 128 (iz .u8 (IntKind.wrap .u8 (Oe)) 63))] Z Z Z Z Z Z Z Z Z Z Z Z Z (congr (congrArg List.cons (qO Rq)) (congr (congrArg List.cons (qO QY)) Z)) ?_);refine cc' h0 λ RP h0=>mO Z (fF eU NL [u8 (iOr .u8 192 (IntKind.wrap .u8 (ij .i32 Oe 6))),u8 (iOr .u8 128 (iz .u8 (IntKind.wrap .u8 (Oe)) 63))] Z Z Z Z Z Z Z Z Z Z Z Z Z Y Z Z Z Z RP ?_);exact nx 3 Z (mQo (oi h0) (aU (bn 24 800000 Z Z Z Z Z) (aJ _)) Z Z Z Z (sr) trivial)
 refine nx 2 Z (bd h0 λ SB h1 h0=>?_);refine kN SB (λ QT=>⟨[(0,.vec 900000 1 (5+1) (NL.map eU)),(1,.p (eK .i32 Oe)),(5,.p (eK .u32 (IntKind.wrap .u32 (Oe)))),(25,.p (eB QT))],[]⟩) ?_ ?_
 ·refine nx 1 Z (fB [25] h0 Z (λ c9 h0=>?_) λ c9 h0=>?_)
  ·refine nx 5 Z (cc' h0 λ Po h0=>?_);refine mO Z (xE Z Z Z Z Z Z Po ?_);refine nx 3 Z (cc' h0 λ Qd h0=>?_);refine mO Z (xE Z Z Z Z Z Z Qd ?_);refine nx 7 Z (cc' h0 λ RS h0=>?_);refine cc' h0 λ Rs h0=>cc' h0 λ QM h0=>mO Z (bz eU [u8 (iOr .u8 224 (IntKind.wrap .u8 (ij .i32 Oe 12))),u8 (iOr .u8 128 (iz .u8 (IntKind.wrap .u8 (ij .i32 Oe 6)) 63)),u8 (iOr .u8 128 (iz .u8 (IntKind.wrap .u8 (Oe)) 63))] Z Z Z Z Z Z Z Z Z Z Z Z Z (congr (congrArg List.cons (qO RS)) (congr (congrArg List.cons (qO Rs)) (congr (congrArg List.cons (qO QM)) Z))) ?_);refine cc' h0 λ Qo h0=>mO Z (fF eU NL [u8 (iOr .u8 224 (IntKind.wrap .u8 (ij .i32 Oe 12))),u8 (iOr .u8 128 (iz .u8 (IntKind.wrap .u8 (ij .i32 Oe 6)) 63)),u8 (iOr .u8 128 (iz .u8 (IntKind.wrap .u8 (Oe)) 63))] Z Z Z Z Z Z Z Z Z Z Z Z Z Y Z Z Z Z Qo ?_);exact nx 3 Z (mQo (oi h0) (aU (bn 49 800000 Z Z Z Z Z) (aJ _)) Z Z Z Z (sr) trivial)
  refine nx 2 Z (bd h0 λ Rz h1 h0=>?_);refine kN Rz (λ TQ=>⟨[(0,.vec 900000 1 (5+1) (NL.map eU)),(1,.p (eK .i32 Oe)),(50,.p (eB TQ))],[]⟩) ?_ ?_
  ·refine nx 1 Z (fB [50] h0 Z (λ RY h0=>?_) λ RY h0=>?_)
   ·refine nx 5 Z (cc' h0 λ QC h0=>?_);refine mO Z (xE Z Z Z Z Z Z QC ?_);refine nx 3 Z (cc' h0 λ PO h0=>?_);refine mO Z (xE Z Z Z Z Z Z PO ?_);refine nx 4 Z (cc' h0 λ PY h0=>?_);refine mO Z (xE Z Z Z Z Z Z PY ?_);refine nx 7 Z (cc' h0 λ Qc h0=>?_);refine cc' h0 λ P7 h0=>cc' h0 λ Qn h0=>cc' h0 λ Pw h0=>mO Z (bz eU [u8 (iOr .u8 240 (IntKind.wrap .u8 (ij .i32 Oe 18))),u8 (iOr .u8 128 (iz .u8 (IntKind.wrap .u8 (ij .i32 Oe 12)) 63)),u8 (iOr .u8 128 (iz .u8 (IntKind.wrap .u8 (ij .i32 Oe 6)) 63)),u8 (iOr .u8 128 (iz .u8 (IntKind.wrap .u8 (Oe)) 63))] Z Z Z Z Z Z Z Z Z Z Z Z Z (congr (congrArg List.cons (qO Qc)) (congr (congrArg List.cons (qO P7)) (congr (congrArg List.cons (qO Qn)) (congr (congrArg List.cons (qO Pw)) Z)))) ?_);refine cc' h0 λ PH h0=>mO Z (fF eU NL [u8 (iOr .u8 240 (IntKind.wrap .u8 (ij .i32 Oe 18))),u8 (iOr .u8 128 (iz .u8 (IntKind.wrap .u8 (ij .i32 Oe 12)) 63)),u8 (iOr .u8 128 (iz .u8 (IntKind.wrap .u8 (ij .i32 Oe 6)) 63)),u8 (iOr .u8 128 (iz .u8 (IntKind.wrap .u8 (Oe)) 63))] Z Z Z Z Z Z Z Z Z Z Z Z Z Y Z Z Z Z PH ?_);exact nx 3 Z (mQo (oi h0) (aU (bn 77 800000 Z Z Z Z Z) (aJ _)) Z Z Z Z (sr) trivial)
   refine nx 4 Z (mO Z (bz eU [(239:UInt8),(191:UInt8),(189:UInt8)] Z Z Z Z Z Z Z Z Z Z Z Z Z Z ?_));refine cc' h0 λ Rr h0=>mO Z (fF eU NL [(239:UInt8),(191:UInt8),(189:UInt8)] Z Z Z Z Z Z Z Z Z Z Z Z Z Y Z Z Z Z Rr ?_);exact nx 3 Z (mQo (oi h0) (aU (bn 10 800000 Z Z Z Z Z) (aJ _)) Z Z Z Z (sr) trivial)
  refine nx 4 Z (fD [52,53] h1 Z (λ SQ h1=>?_) λ SQ h1=>?_)
  ·exact fx
  exact fx
 refine nx 6 Z (fD [25,27] h1 Z (λ c6 h1=>?_) λ c6 h1=>?_)
 ·exact cZ
 refine nx 5 Z (fD [29,30] h1 Z (λ c7 h1=>?_) λ c7 h1=>?_)
 ·exact fx
 exact fx
def eC (NL:List UInt8)(Oe:Int):Option (List UInt8) :=if IntKind.wrap .u32 (Oe)<=127 then ck ((0:Int)<=IntKind.wrap .u8 (Oe)/\IntKind.wrap .u8 (Oe)<256)<|ck ((NL.length+[u8 (IntKind.wrap .u8 (Oe))].length)*1<=140737488355328)<|some (NL++[u8 (IntKind.wrap .u8 (Oe))])else(dD NL Oe).bind λ r4=>some r4
theorem mt (NL:List UInt8)(Oe:Int)(r:(List UInt8))(h0:eC NL Oe=some r):aS Tryz.prog 167 [.vec 900000 1 (5+1) (NL.map eU),.p (eK .i32 Oe)] [] (λ x y=>x=.vec 2000000 1 (5+1) (r.map eU)/\y=[]):=by
 unfold eC at h0;refine bT good [800000] [] Tryz.func167 Z Z Z Z Z λ w0 F=>mPo (λ v:(List UInt8)=>.vec 2000000 1 (5+1) (v.map eU)) (λ v=>[]) ?_;refine nx 11 Z (fD [7] h0 Z (λ c1 h0=>?_) λ c1 h0=>?_)
 ·refine nx 6 Z (cc' h0 λ P2 h0=>?_);refine mO Z (bz eU [u8 (IntKind.wrap .u8 (Oe))] Z Z Z Z Z Z Z Z Z Z Z Z Z (congr (congrArg List.cons (qO P2)) Z) ?_);refine cc' h0 λ QY h0=>mO Z (fF eU NL [u8 (IntKind.wrap .u8 (Oe))] Z Z Z Z Z Z Z Z Z Z Z Z Z Y Z Z Z Z QY ?_);exact nx 3 Z (mQo (oi h0) (aU (bn 12 800000 Z Z Z Z Z) (aJ _)) Z Z Z Z (sr) trivial)
 refine nx 6 Z (bd h0 λ r4 e5 h0=>?_);refine mO Z (aN [] [900000] 101000 101001 (jX NL Oe _ e5) Z Z Z Z Z ⟨sr,sr,trivial⟩ Z Z trivial Z Z Z Z Z Z Z Z Tryz.call193 Z Z ?_);exact nx 3 Z (mQo (oi h0) (aU (bn 101000 800000 Z Z Z Z Z) (aJ _)) Z Z Z Z (sr) trivial)
def dY (b_0:cu)(Oe:Int):Option (Int×Bool×cu) :=(gI (cu.mk b_0.NG)).bind λ r1=>(eC r1.NG Oe).bind λ r3=>ck (inR ((r3.length:Int)-(r1.NG.length:Int)))<|some ((r3.length:Int)-(r1.NG.length:Int),false,(cu.mk r3))
theorem lH (b_0:cu)(Oe:Int)(r:Int×Bool×cu)(h0:dY b_0 Oe=some r):aS Tryz.prog 140 [.ptr 1000000 0,.p (eK .i32 Oe)] [(1000000,[.bptr 184 2 1000000,.vec 900000 1 (5+1) (b_0.NG.map eU)])] (λ x y=>x=.tuple [.p (eI r.1),.p (eE r.2.1)]/\y=[(1000000,[.bptr 184 2 1000000,.vec 2000000 1 (5+1) (r.2.2.NG.map eU)])]):=by
 unfold dY at h0;refine bT good [800000] [1000000] Tryz.func140 Z Z Z Z Z λ w0 F=>mPo (λ v:Int×Bool×cu=>.tuple [.p (eI v.1),.p (eE v.2.1)]) (λ v=>[(1000000,[.bptr 184 2 1000000,.vec 2000000 1 (5+1) (v.2.2.NG.map eU)])]) ?_;refine nx 8 Z (bd h0 λ r1 e2 h0=>?_);refine mO Z (aN [1000000] [900000] 101000 101001 (lF (cu.mk b_0.NG) _ e2) Z Z Z Z Z ⟨sr,trivial⟩ Z Z ⟨⟨_,Z,⟨sr,sr,trivial⟩⟩,trivial⟩ Z Z Z Z Z Z Z Z Tryz.call166 Z Z ?_);refine nx 7 Z (oLl (f:=eU) Z Z ?_);refine nx 10 Z (bd h0 λ r3 e4 h0=>?_);refine mO Z (aN [] [101000] 102000 102001 (mt r1.NG Oe _ e4) Z Z Z Z Z ⟨sr,sr,trivial⟩ Z Z trivial Z Z Z Z Z Z Z Z Tryz.call167 Z Z ?_);refine nx 10 Z (oLl (f:=eU) Z Z ?_);refine nx 1 Z (oA h0 Z Z λ RP h0=>?_);refine nx 3 Z (mG (gE (t:=⟨[(4,.p (eI ((r3.length:Int)-(r1.NG.length:Int)))),(5,.p (eE false))],[(1000000,[.bptr 184 2 1000000,.vec 102000 1 (5+1) (r3.map eU)])]⟩) Z Z) ?_);exact nx 1 Z (mQo (oi h0) (aU (bn 102000 800000 Z Z Z Z Z) (aJ _)) Z Z Z Z (cb ⟨sr,sr,trivial⟩) ⟨⟨_,Z,⟨sr,sr,trivial⟩⟩,trivial⟩)
def jy (b_0:cu):Option (Int×cu) :=some ((b_0.NG.length:Int),(cu.mk b_0.NG))
theorem ov (b_0:cu)(r:Int×cu)(h0:jy b_0=some r):aS Tryz.prog 141 [.ptr 1000000 0] [(1000000,[.bptr 184 2 1000000,.vec 900000 1 (5+1) (b_0.NG.map eU)])] (λ x y=>x=.p (eI r.1)/\y=[(1000000,[.bptr 184 2 1000000,.vec 2000000 1 (5+1) (r.2.NG.map eU)])]):=by
 unfold jy at h0;refine bT good [800000] [1000000] Tryz.func141 Z Z Z Z Z λ w0 F=>mPo (λ v:Int×cu=>.p (eI v.1)) (λ v=>[(1000000,[.bptr 184 2 1000000,.vec 2000000 1 (5+1) (v.2.NG.map eU)])]) ?_;refine nx 10 Z (oLl (f:=eU) Z Z ?_);exact nx 3 Z (mQo (oi h0) (aU (bn 900000 800000 Z Z Z Z Z) (aJ _)) Z Z Z Z (sr) ⟨⟨_,Z,⟨sr,sr,trivial⟩⟩,trivial⟩)
end Go.Ab.RB
end
section
namespace Go.Ab
open Go.RowKit
theorem aK.of_calls {P:Program}{f:FuncId}{l:List Value}{r:AV}
  (h:∀ (w:World) (st:Nat->Nat->Prop),Ok0 w st->Calls P f l.toArray w λ e w'=>∃ v,e=.returned v/\Below w.heap.size w w'/\∀ g',ARep w' g' r v):aK P f (l.map PV.val) (·=r):=by
 intro w st vs hok NR hargs
 have e:vs=l.toArray:=by
  apply Array.ext
  ·simpa using NR
  ·intro i h1 h2;have hi:i<l.length:=by simpa using h2
   have:=hargs i (.val l[i]) vs[i] (by simp [hi]) (Array.getElem?_eq_getElem h1);generalize hv:vs[i]=v at this
   cases this
   simp
 subst e;refine (h w st hok).mono ?_;rintro e w' ⟨v,rfl,hB,hr⟩;refine ⟨v,r,⟨st,λ _=>none⟩,rfl,rfl,hr _,⟨hB.os,hB.output,hB.tape,hB.size,λ b hb=>hB.block b hb,?_,?_,λ b o hb=>Nat.lt_of_lt_of_le (hok.lt b o hb) hB.size,λ b _ o=>Iff.rfl⟩⟩
 ·intro i b hi; cases hi
 ·intro i j b hi; cases hi
theorem uT {w:World}{st:Nat->Nat->Prop}(h:lN w st){g j:Nat}{l:List GC}{k:IntKind}{n:Int}(hl:look rZ g=some l)(hj:l[j]? = some (.int k n)):w.cell? ⟨g,j,none⟩=some (.int k n):=by
 obtain ⟨_,v,h2,h3⟩:=(h g (l.map GC.pv) (by rw [og,hl]; rfl)).1 j (.val (.int k n)) (by rw [List.getElem?_map,hj]; rfl)
 cases h3
 exact h2
theorem EH {w:World}{st:Nat->Nat->Prop}(h:lN w st){g:Nat}{k:IntKind}(hl:look rZ g=some [.some k]):∃ m,w.cell? ⟨g,0,none⟩=some (.int k m):=by
 obtain ⟨_,v,h2,h3⟩:=(h g [.aint k] (by rw [og,hl]; rfl)).1 0 (.aint k) rfl
 cases h3 with
 | aint _ m=>exact ⟨m,h2⟩
theorem zC {w:World}{st:Nat->Nat->Prop}(h:lN w st){g j:Nat}{l:List GC}(hl:look rZ g=some l)(hj:l[j]? = some .ifc):∃ t v,w.cell? ⟨g,j,none⟩=some (.iface t v):=by
 obtain ⟨_,v,h2,h3⟩:=(h g (l.map GC.pv) (by rw [og,hl]; rfl)).1 j .ifc (by rw [List.getElem?_map,hj]; rfl)
 cases h3 with
 | ifc t v=>exact ⟨t,v,h2⟩
theorem jF (s:Bk):(str s).data.toList=s:=by simp [str]
theorem vm (w:World):Below w.heap.size w w:=Below.refl _ w
end Go.Ab
end
section
namespace Go.Proofs
open Go.Shelf
variable {p:Prop}
theorem Tbc3aa (h:p:=by exact congrArg some (by kernel_rfl)):p:=h
def Tryz.lays119_ren:Go.Shelf.Ren:=⟨λ|119=>191|n=>n,λ|21=>21|4=>4|n=>n,λ|n=>n⟩
theorem Tryz.lays119:Go.Proofs.Lays.n119 Tryz.prog Tryz.lays119_ren:={
 mixed:=by kernel_rfl
 f119:=Tryz.func191.trans Tbc3aa
 t4:=Tryz.underlying4
 a4:=Tryz.isAgg4
 z4:=Tryz.sizeOf4
 v4:=Tryz.zeroValue4
 t21:=Tryz.underlying21
 a21:=Tryz.isAgg21
 z21:=Tryz.sizeOf21
 v21:=Tryz.zeroValue21 }
theorem Tryz.utf8_ValidRune (r:Int)(w:World) :
  Calls Tryz.prog 191 #[.int .i32 r] w λ e w'=>e=.returned (.bool (Lib.validRune r))/\w'=w:=Any.utf8_ValidRune Tryz.lays119 r w
def Tryz.lays137_ren:Go.Shelf.Ren:=⟨λ|137=>82|217=>109|266=>133|n=>n,λ|9=>9|5=>5|3=>3|n=>n,λ|n=>n⟩
theorem Tryz.lays137:Go.Proofs.Lays.n137 Tryz.prog Tryz.lays137_ren:={
 mixed:=by kernel_rfl
 f137:=Tryz.func82.trans Tbc3aa
 f217:=Tryz.func109.trans Tbc3aa
 f266:=Tryz.func133.trans Tbc3aa
 t3:=Tryz.underlying3
 a3:=Tryz.isAgg3
 z3:=Tryz.sizeOf3
 v3:=Tryz.zeroValue3
 t5:=Tryz.underlying5
 a5:=Tryz.isAgg5
 z5:=Tryz.sizeOf5
 v5:=Tryz.zeroValue5
 t9:=Tryz.underlying9
 a9:=Tryz.isAgg9
 z9:=Tryz.sizeOf9
 v9:=Tryz.zeroValue9 }
open Go.RowKit in
theorem Tryz.strings_IndexByte (s:ByteArray)(c:Int)(w:World) :
  Calls Tryz.prog 82 #[.string s,.int .u8 c] w λ e w'=>e=.returned (.int .i64 (Lib.indexByte s.data.toList c.toNat.toUInt8))/\w'=w:=Any.strings_IndexByte Tryz.lays137 s c w
def Tryz.lays99_ren:Go.Shelf.Ren:=⟨λ|99=>110|206=>134|n=>n,λ|9=>9|4=>4|3=>3|n=>n,λ|n=>n⟩
theorem Tryz.lays99:Go.Proofs.Lays.n99 Tryz.prog Tryz.lays99_ren:={
 mixed:=by kernel_rfl
 f99:=Tryz.func110.trans Tbc3aa
 f206:=Tryz.func134.trans Tbc3aa
 t3:=Tryz.underlying3
 a3:=Tryz.isAgg3
 z3:=Tryz.sizeOf3
 v3:=Tryz.zeroValue3
 t4:=Tryz.underlying4
 a4:=Tryz.isAgg4
 z4:=Tryz.sizeOf4
 v4:=Tryz.zeroValue4
 t9:=Tryz.underlying9
 a9:=Tryz.isAgg9
 z9:=Tryz.sizeOf9
 v9:=Tryz.zeroValue9 }
open Go.RowKit Go.Lib in
theorem Tryz.strings_HasPrefix (s p:ByteArray)(w:World) :
  Calls Tryz.prog 110 #[.string s,.string p] w λ e w'=>e=.returned (.bool (Lib.hasPrefix s.data.toList p.data.toList))/\w'=w:=Any.strings_HasPrefix Tryz.lays99 s p w
def Tryz.laysC174_ren:Go.Shelf.Ren:=⟨λ|174=>239|247=>246|245=>247|287=>253|279=>254|280=>255|281=>256|282=>257|321=>261|322=>262|316=>263|171=>265|205=>264|243=>269|246=>272|283=>273|284=>274|285=>275|286=>276|129=>278|317=>277|318=>279|319=>280|320=>281|337=>282|338=>283|n=>n,λ|9=>9|3=>3|2=>2|75=>188|85=>236|4=>4|167=>245|5=>5|53=>194|175=>246|46=>173|168=>248|37=>182|0=>0|210=>253|21=>21|127=>201|145=>257|143=>255|171=>260|173=>263|212=>266|51=>204|20=>20|213=>267|232=>270|233=>271|80=>61|n=>n,λ|15=>3|16=>4|17=>5|18=>6|19=>7|n=>n⟩
theorem Tryz.laysC174:Go.Proofs.LaysC.n174 Tryz.prog Tryz.laysC174_ren:={
 mixed:=by kernel_rfl
 f129:=Tryz.func278.trans Tbc3aa
 f171:=Tryz.func265.trans Tbc3aa
 f174:=Tryz.func239.trans Tbc3aa
 f205:=Tryz.func264.trans Tbc3aa
 f243:=Tryz.func269.trans Tbc3aa
 f245:=Tryz.func247.trans Tbc3aa
 f246:=Tryz.func272.trans Tbc3aa
 f247:=Tryz.func246.trans Tbc3aa
 f279:=Tryz.func254.trans Tbc3aa
 f280:=Tryz.func255.trans Tbc3aa
 f281:=Tryz.func256.trans Tbc3aa
 f282:=Tryz.func257.trans Tbc3aa
 f283:=Tryz.func273.trans Tbc3aa
 f284:=Tryz.func274.trans Tbc3aa
 f285:=Tryz.func275.trans Tbc3aa
 f286:=Tryz.func276.trans Tbc3aa
 f287:=Tryz.func253.trans Tbc3aa
 f316:=Tryz.func263.trans Tbc3aa
 f317:=Tryz.func277.trans Tbc3aa
 f318:=Tryz.func279.trans Tbc3aa
 f319:=Tryz.func280.trans Tbc3aa
 f320:=Tryz.func281.trans Tbc3aa
 f321:=Tryz.func261.trans Tbc3aa
 f322:=Tryz.func262.trans Tbc3aa
 f337:=Tryz.func282.trans Tbc3aa
 f338:=Tryz.func283.trans Tbc3aa
 t0:=Tryz.underlying0
 a0:=Tryz.isAgg0
 z0:=Tryz.sizeOf0
 v0:=Tryz.zeroValue0
 t2:=Tryz.underlying2
 a2:=Tryz.isAgg2
 z2:=Tryz.sizeOf2
 v2:=Tryz.zeroValue2
 t3:=Tryz.underlying3
 a3:=Tryz.isAgg3
 z3:=Tryz.sizeOf3
 v3:=Tryz.zeroValue3
 t4:=Tryz.underlying4
 a4:=Tryz.isAgg4
 z4:=Tryz.sizeOf4
 v4:=Tryz.zeroValue4
 t5:=Tryz.underlying5
 a5:=Tryz.isAgg5
 z5:=Tryz.sizeOf5
 v5:=Tryz.zeroValue5
 t9:=Tryz.underlying9
 a9:=Tryz.isAgg9
 z9:=Tryz.sizeOf9
 v9:=Tryz.zeroValue9
 t20:=Tryz.underlying20
 a20:=Tryz.isAgg20
 z20:=Tryz.sizeOf20
 v20:=Tryz.zeroValue20
 t21:=Tryz.underlying21
 a21:=Tryz.isAgg21
 z21:=Tryz.sizeOf21
 v21:=Tryz.zeroValue21
 t37:=Tryz.underlying182
 a37:=Tryz.isAgg182
 z37:=Tryz.sizeOf182
 v37:=Tryz.zeroValue182
 t46:=Tryz.underlying173
 a46:=Tryz.isAgg173
 z46:=Tryz.sizeOf173
 v46:=Tryz.zeroValue173
 t51:=Tryz.underlying204
 a51:=Tryz.isAgg204
 z51:=Tryz.sizeOf204
 v51:=Tryz.zeroValue204
 t53:=Tryz.underlying194
 a53:=Tryz.isAgg194
 z53:=Tryz.sizeOf194
 v53:=Tryz.zeroValue194
 t75:=Tryz.underlying188
 a75:=Tryz.isAgg188
 z75:=Tryz.sizeOf188
 v75:=Tryz.zeroValue188
 t85:=Tryz.underlying236
 a85:=Tryz.isAgg236
 z85:=Tryz.sizeOf236
 v85:=Tryz.zeroValue236
 t127:=Tryz.underlying201
 a127:=Tryz.isAgg201
 z127:=Tryz.sizeOf201
 v127:=Tryz.zeroValue201
 t143:=Tryz.underlying255
 a143:=Tryz.isAgg255
 z143:=Tryz.sizeOf255
 v143:=Tryz.zeroValue255
 t145:=Tryz.underlying257
 a145:=Tryz.isAgg257
 z145:=Tryz.sizeOf257
 v145:=Tryz.zeroValue257
 t167:=Tryz.underlying245
 a167:=Tryz.isAgg245
 z167:=Tryz.sizeOf245
 v167:=Tryz.zeroValue245
 t168:=Tryz.underlying248
 a168:=Tryz.isAgg248
 z168:=Tryz.sizeOf248
 v168:=Tryz.zeroValue248
 t171:=Tryz.underlying260
 a171:=Tryz.isAgg260
 z171:=Tryz.sizeOf260
 v171:=Tryz.zeroValue260
 t173:=Tryz.underlying263
 a173:=Tryz.isAgg263
 z173:=Tryz.sizeOf263
 v173:=Tryz.zeroValue263
 t175:=Tryz.underlying246
 a175:=Tryz.isAgg246
 z175:=Tryz.sizeOf246
 v175:=Tryz.zeroValue246
 t210:=Tryz.underlying253
 a210:=Tryz.isAgg253
 z210:=Tryz.sizeOf253
 v210:=Tryz.zeroValue253
 t212:=Tryz.underlying266
 a212:=Tryz.isAgg266
 z212:=Tryz.sizeOf266
 v212:=Tryz.zeroValue266
 t213:=Tryz.underlying267
 a213:=Tryz.isAgg267
 z213:=Tryz.sizeOf267
 t232:=Tryz.underlying270
 a232:=Tryz.isAgg270
 z232:=Tryz.sizeOf270
 v232:=Tryz.zeroValue270
 t233:=Tryz.underlying271
 a233:=Tryz.isAgg271
 z233:=Tryz.sizeOf271
 v233:=Tryz.zeroValue271
 g15:=by kernel_rfl
 g16:=by kernel_rfl
 g17:=by kernel_rfl
 g18:=by kernel_rfl
 g19:=by kernel_rfl
 t80:=Tryz.underlying61
 a80:=Tryz.isAgg61
 z80:=Tryz.sizeOf61
 v80:=Tryz.zeroValue61
 i0:=by kernel_rfl
 i2:=by kernel_rfl
 i3:=by kernel_rfl
 i4:=by kernel_rfl
 i5:=by kernel_rfl
 i9:=by kernel_rfl
 i20:=by kernel_rfl
 i21:=by kernel_rfl
 i37:=by kernel_rfl
 i46:=by kernel_rfl
 i51:=by kernel_rfl
 i53:=by kernel_rfl
 i75:=by kernel_rfl
 i80:=by kernel_rfl
 i85:=by kernel_rfl
 i127:=by kernel_rfl
 i143:=by kernel_rfl
 i145:=by kernel_rfl
 i167:=by kernel_rfl
 i168:=by kernel_rfl
 i171:=by kernel_rfl
 i173:=by kernel_rfl
 i175:=by kernel_rfl
 i210:=by kernel_rfl
 i212:=by kernel_rfl
 i232:=by kernel_rfl
 i233:=by kernel_rfl
 m15:=by kernel_rfl
 m16:=by kernel_rfl
 m17:=by kernel_rfl
 m18:=by kernel_rfl
 m19:=by kernel_rfl
 c0:=by kernel_rfl
 c2:=by kernel_rfl
 c3:=by kernel_rfl
 c4:=by kernel_rfl
 c5:=by kernel_rfl
 c9:=by kernel_rfl
 c20:=by kernel_rfl
 c21:=by kernel_rfl
 c37:=by kernel_rfl
 c46:=by kernel_rfl
 c51:=by kernel_rfl
 c53:=by kernel_rfl
 c75:=by kernel_rfl
 c80:=by kernel_rfl
 c85:=by kernel_rfl
 c127:=by kernel_rfl
 c143:=by kernel_rfl
 c145:=by kernel_rfl
 c167:=by kernel_rfl
 c168:=by kernel_rfl
 c171:=by kernel_rfl
 c173:=by kernel_rfl
 c175:=by kernel_rfl
 c210:=by kernel_rfl
 c212:=by kernel_rfl
 c213:=by kernel_rfl
 c232:=by kernel_rfl
 c233:=by kernel_rfl }
open Go.RowKit in
theorem Tryz.strconv_ParseInt_10_at64_ok (s:ByteArray)(hmax:s.size<=9223372036854775806)(v:Int)(h:Lib.parseIntB 64 s.data.toList=.ok v)(w:World) :
  Calls Tryz.prog 239 #[.string s,.int .i64 10,.int .i64 64] w λ e w'=>e=.returned (.tuple #[.int .i64 v,.nilIface])/\(w'=w\/∃ t,w'=Lib.bytesWorld w 5 t):=Any.strconv_ParseInt_10_at64_ok Tryz.laysC174 s hmax v h w
open Go.RowKit in
theorem Tryz.strconv_ParseInt_10_at64_range (s:ByteArray)(hlim:s.size<=281474976710656)(h:Lib.parseIntB 64 s.data.toList=.range)(ev:Value)(w:World)(hv:w.cell? ⟨4,0,none⟩=some ev)(NZ:ev=.nilIface\/∃ te pe,ev=.iface te pe) :
  Calls Tryz.prog 239 #[.string s,.int .i64 10,.int .i64 64] w λ e w'=>∃ N,e=.returned (.tuple #[.int .i64 (Lib.intSat 64 s.data.toList),.iface 248 (.pointer (some ⟨N,0,none⟩))])/\w.heap.size<=N/\w'.heap[N]? = some (.cells #[.string ⟨#[80,97,114,115,101,73,110,116]⟩,.string s,ev] 253 (0,0))/\Below w.heap.size w w':=Any.strconv_ParseInt_10_at64_range Tryz.laysC174 s hlim h ev w hv NZ
open Go.RowKit in
theorem Tryz.strconv_ParseInt_10_at64_syntax (s:ByteArray)(hlim:s.size<=281474976710656)(h:Lib.parseIntB 64 s.data.toList=Lib.parseIntB 64 [])(ev:Value)(w:World)(hv:w.cell? ⟨3,0,none⟩=some ev)(NZ:ev=.nilIface\/∃ te pe,ev=.iface te pe) :
  Calls Tryz.prog 239 #[.string s,.int .i64 10,.int .i64 64] w λ e w'=>∃ N,e=.returned (.tuple #[.int .i64 (0),.iface 248 (.pointer (some ⟨N,0,none⟩))])/\w.heap.size<=N/\w'.heap[N]? = some (.cells #[.string ⟨#[80,97,114,115,101,73,110,116]⟩,.string s,ev] 253 (0,0))/\Below w.heap.size w w':=Any.strconv_ParseInt_10_at64_syntax Tryz.laysC174 s hlim h ev w hv NZ
def Tryz.lays197_ren:Go.Shelf.Ren:=⟨λ|197=>135|260=>158|n=>n,λ|9=>9|21=>21|3=>3|4=>4|5=>5|105=>175|119=>90|0=>0|46=>173|139=>172|138=>171|n=>n,λ|3=>0|4=>1|n=>n⟩
theorem Tryz.lays197:Go.Proofs.Lays.n197 Tryz.prog Tryz.lays197_ren:={
 mixed:=by kernel_rfl
 f197:=Tryz.func135.trans Tbc3aa
 f260:=Tryz.func158.trans Tbc3aa
 t0:=Tryz.underlying0
 a0:=Tryz.isAgg0
 z0:=Tryz.sizeOf0
 v0:=Tryz.zeroValue0
 t3:=Tryz.underlying3
 a3:=Tryz.isAgg3
 z3:=Tryz.sizeOf3
 v3:=Tryz.zeroValue3
 t4:=Tryz.underlying4
 a4:=Tryz.isAgg4
 z4:=Tryz.sizeOf4
 v4:=Tryz.zeroValue4
 t5:=Tryz.underlying5
 a5:=Tryz.isAgg5
 z5:=Tryz.sizeOf5
 v5:=Tryz.zeroValue5
 t9:=Tryz.underlying9
 a9:=Tryz.isAgg9
 z9:=Tryz.sizeOf9
 v9:=Tryz.zeroValue9
 t21:=Tryz.underlying21
 a21:=Tryz.isAgg21
 z21:=Tryz.sizeOf21
 v21:=Tryz.zeroValue21
 t46:=Tryz.underlying173
 a46:=Tryz.isAgg173
 z46:=Tryz.sizeOf173
 v46:=Tryz.zeroValue173
 t105:=Tryz.underlying175
 a105:=Tryz.isAgg175
 z105:=Tryz.sizeOf175
 v105:=Tryz.zeroValue175
 t119:=Tryz.underlying90
 a119:=Tryz.isAgg90
 z119:=Tryz.sizeOf90
 t138:=Tryz.underlying171
 a138:=Tryz.isAgg171
 z138:=Tryz.sizeOf171
 v138:=Tryz.zeroValue171
 t139:=Tryz.underlying172
 a139:=Tryz.isAgg172
 z139:=Tryz.sizeOf172
 v139:=Tryz.zeroValue172
 g3:=by kernel_rfl
 g4:=by kernel_rfl }
open Go.RowKit Go.Lib in
theorem Tryz.utf8_DecodeRuneInString (s:ByteArray)(w:World)(hT:Lib.Utf8Tabs 0 1 w) :
  Calls Tryz.prog 135 #[.string s] w λ e w'=>e=.returned (.tuple #[.int .i32 (Lib.decodeGo s).1,.int .i64 (Lib.decodeGo s).2])/\Below w.heap.size w w':=Any.utf8_DecodeRuneInString Tryz.lays197 s w hT
def Tryz.lays196_ren:Go.Shelf.Ren:=⟨λ|196=>103|259=>129|n=>n,λ|9=>9|4=>4|3=>3|5=>5|12=>12|119=>90|0=>0|46=>173|139=>172|138=>171|53=>194|n=>n,λ|3=>0|4=>1|n=>n⟩
theorem Tryz.lays196:Go.Proofs.Lays.n196 Tryz.prog Tryz.lays196_ren:={
 mixed:=by kernel_rfl
 f196:=Tryz.func103.trans Tbc3aa
 f259:=Tryz.func129.trans Tbc3aa
 t0:=Tryz.underlying0
 a0:=Tryz.isAgg0
 z0:=Tryz.sizeOf0
 v0:=Tryz.zeroValue0
 t3:=Tryz.underlying3
 a3:=Tryz.isAgg3
 z3:=Tryz.sizeOf3
 v3:=Tryz.zeroValue3
 t4:=Tryz.underlying4
 a4:=Tryz.isAgg4
 z4:=Tryz.sizeOf4
 v4:=Tryz.zeroValue4
 t5:=Tryz.underlying5
 a5:=Tryz.isAgg5
 z5:=Tryz.sizeOf5
 v5:=Tryz.zeroValue5
 t9:=Tryz.underlying9
 a9:=Tryz.isAgg9
 z9:=Tryz.sizeOf9
 v9:=Tryz.zeroValue9
 t12:=Tryz.underlying12
 a12:=Tryz.isAgg12
 z12:=Tryz.sizeOf12
 v12:=Tryz.zeroValue12
 t46:=Tryz.underlying173
 a46:=Tryz.isAgg173
 z46:=Tryz.sizeOf173
 v46:=Tryz.zeroValue173
 t53:=Tryz.underlying194
 a53:=Tryz.isAgg194
 z53:=Tryz.sizeOf194
 v53:=Tryz.zeroValue194
 t119:=Tryz.underlying90
 a119:=Tryz.isAgg90
 z119:=Tryz.sizeOf90
 t138:=Tryz.underlying171
 a138:=Tryz.isAgg171
 z138:=Tryz.sizeOf171
 v138:=Tryz.zeroValue171
 t139:=Tryz.underlying172
 a139:=Tryz.isAgg172
 z139:=Tryz.sizeOf172
 v139:=Tryz.zeroValue172
 g3:=by kernel_rfl
 g4:=by kernel_rfl }
open Go.RowKit Go.Lib in
theorem Tryz.utf8_ValidString (s:ByteArray)(w:World)(hs:s.size<=9223372036854775807)(hT:Lib.Utf8Tabs 0 1 w):Calls Tryz.prog 103 #[.string s] w λ e w'=>e=.returned (.bool (Lib.validD s.data.toList))/\Below w.heap.size w w':=Any.utf8_ValidString Tryz.lays196 s w hs hT
def Tryz.lays144_ren:Go.Shelf.Ren:=⟨λ|144=>70|143=>104|219=>130|217=>109|225=>150|224=>151|267=>152|266=>133|314=>178|n=>n,λ|9=>9|4=>4|3=>3|5=>5|46=>173|146=>205|51=>204|n=>n,λ|1=>2|n=>n⟩
theorem Tryz.lays144:Go.Proofs.Lays.n144 Tryz.prog Tryz.lays144_ren:={
 mixed:=by kernel_rfl
 f143:=Tryz.func104.trans Tbc3aa
 f144:=Tryz.func70.trans Tbc3aa
 f217:=Tryz.func109.trans Tbc3aa
 f219:=Tryz.func130.trans Tbc3aa
 f224:=Tryz.func151.trans Tbc3aa
 f225:=Tryz.func150.trans Tbc3aa
 f266:=Tryz.func133.trans Tbc3aa
 f267:=Tryz.func152.trans Tbc3aa
 f314:=Tryz.func178.trans Tbc3aa
 t3:=Tryz.underlying3
 a3:=Tryz.isAgg3
 z3:=Tryz.sizeOf3
 v3:=Tryz.zeroValue3
 t4:=Tryz.underlying4
 a4:=Tryz.isAgg4
 z4:=Tryz.sizeOf4
 v4:=Tryz.zeroValue4
 t5:=Tryz.underlying5
 a5:=Tryz.isAgg5
 z5:=Tryz.sizeOf5
 v5:=Tryz.zeroValue5
 t9:=Tryz.underlying9
 a9:=Tryz.isAgg9
 z9:=Tryz.sizeOf9
 v9:=Tryz.zeroValue9
 t46:=Tryz.underlying173
 a46:=Tryz.isAgg173
 z46:=Tryz.sizeOf173
 v46:=Tryz.zeroValue173
 t51:=Tryz.underlying204
 a51:=Tryz.isAgg204
 z51:=Tryz.sizeOf204
 v51:=Tryz.zeroValue204
 t146:=Tryz.underlying205
 a146:=Tryz.isAgg205
 z146:=Tryz.sizeOf205
 v146:=Tryz.zeroValue205
 g1:=by kernel_rfl }
open Go.RowKit Go.Lib in
theorem Tryz.strings_Contains (s sub:ByteArray)(m:Int)(w:World)(hs:s.size<4294967281)(hm:w.cell? ⟨2,0,none⟩=some (.int .i64 m)) :
  Calls Tryz.prog 70 #[.string s,.string sub] w λ e w'=>e=.returned (.bool (Lib.contains s.data.toList sub.data.toList))/\w'=w:=Any.strings_Contains Tryz.lays144 s sub m w hs hm
end Go.Proofs
end
section
namespace Go.Ab
open Go.Proofs Go.RowKit
variable {p:Prop}
theorem xN (h:p:=by
 exact ⟨_,Z,vm _,λ _=>.p (.val _)⟩):p:=h
def strings_IndexByte (s:Bk)(c:Int):Option Int:=some (Lib.indexByte s c.toNat.toUInt8)
theorem gP (NN:Bk)(c_1:Int)(r:Int)(h0:strings_IndexByte NN c_1=some r):aK Tryz.prog 82 [eS NN,eK .u8 c_1] (·=.p (eI r)):=by
 cases h0
 refine aK.of_calls (l:=[.string (str NN),.int .u8 c_1]) λ w st hok=>(Tryz.strings_IndexByte _ _ w).mono ?_;rintro e w' ⟨rfl,rfl⟩;rw [jF];exact xN
def dU (r:Int):Option Bool:=some (Lib.validRune r)
theorem jx (r_0:Int)(r:Bool)(h0:dU r_0=some r):aK Tryz.prog 191 [eK .i32 r_0] (·=.p (eB r)):=by
 cases h0
 refine aK.of_calls (l:=[.int .i32 r_0]) λ w st hok=>(Tryz.utf8_ValidRune _ w).mono ?_;rintro e w' ⟨rfl,rfl⟩;exact xN
theorem zp {w:World}{g:Gh}{a b:Value}:ARep w g (.tuple [.p (.val a),.p (.val b)]) (.tuple #[a,b]):=by
 refine .tuple Z λ i c v h1 h2=>?_
 match i,h1,h2 with
 | 0,h1,h2=>simp at h1 h2; subst h1 h2; exact .p (.val _)
 | 1,h1,h2=>simp at h1 h2; subst h1 h2; exact .p (.val _)
 | n+2,h1,_=>simp at h1
def strings_HasPrefix (s p:Bk):Option Bool:=some (Lib.hasPrefix s p)
theorem cr (NN p_1:Bk)(r:Bool)(h0:strings_HasPrefix NN p_1=some r):aK Tryz.prog 110 [eS NN,eS p_1] (·=.p (eB r)):=by
 cases h0
 refine aK.of_calls (l:=[.string (str NN),.string (str p_1)]) λ w st hok=>(Tryz.strings_HasPrefix _ _ w).mono ?_;rintro e w' ⟨rfl,rfl⟩;rw [jF,jF];exact xN
theorem Fg:(List.range 256).all (λ c=>match IC[c]? with|some (.int .u8 n)=>n==(Lib.firstT c:Int)|_=>false)=true:=by kernel_rfl
theorem Kc:(List.range 16).all (λ c=>(match H9[2*c]? with|some (.int .u8 n)=>n==(Lib.accLo c:Int)|_=>false)&&(match H9[2*c+1]? with|some (.int .u8 n)=>n==(Lib.accHi c:Int)|_=>false))=true:=by kernel_rfl
theorem HT {o:Option GC}{m:Int}(h:(match o with|some (.int .u8 n)=>n==m|_=>false)=true):o=some (.int .u8 m):=by
 split at h
 ·rw [eq_of_beq h]
 ·cases h
theorem Ac {w:World}{st:Nat->Nat->Prop}(h:lN w st):Lib.Utf8Tabs 0 1 w:=by
 refine ⟨λ c hc=>uT h Z (HT (rd.1 Fg c (by simpa using hc))),λ i hi=>?_⟩;have:=rd.1 Kc i (by simpa using hi);simp only [n8] at this;exact ⟨uT h Z (HT this.1),uT h Z (HT this.2)⟩
def bj (s:Bk):Option (Int×Int):=some ((Lib.decodeGo (str s)).1,(Lib.decodeGo (str s)).2)
theorem ey (NN:Bk)(r:Int×Int)(h0:bj NN=some r):aK Tryz.prog 135 [eS NN] (·=.tuple [.p (eK .i32 r.1),.p (eI r.2)]):=by
 cases h0
 refine aK.of_calls (l:=[.string (str NN)]) λ w st hok=>(Tryz.utf8_DecodeRuneInString _ w (Ac hok.gl)).mono ?_;rintro e w' ⟨rfl,hB⟩;exact ⟨_,rfl,hB,λ _=>zp⟩
def fC (s:Bk):Option Bool:=ck (s.length<=9223372036854775807)<|some (Lib.validD s)
theorem ma (NN:Bk)(r:Bool)(h0:fC NN=some r):aK Tryz.prog 103 [eS NN] (·=.p (eB r)):=by
 obtain ⟨hl,h0⟩:=nI h0
 cases h0
 refine aK.of_calls (l:=[.string (str NN)]) λ w st hok=>(Tryz.utf8_ValidString _ w (by rw [jc]; exact hl) (Ac hok.gl)).mono ?_;rintro e w' ⟨rfl,hB⟩;rw [jF];exact ⟨_,rfl,hB,λ _=>.p (.val _)⟩
theorem AO (w:World)(e:TypeId)(t:ByteArray):Below w.heap.size w (Lib.bytesWorld w e t) :=
 ⟨Z,Z,Z,by rw [Lib.bytesWorld_size]; omega,λ k hk=>Lib.bytesWorld_at_old w e t k hk⟩
def jt (s:Bk)(b z:Int):Option (Int×Bool):=ck (b=10/\z=64/\s.length<=281474976710656)<|some (match Lib.parseIntB 64 s with|.ok v=>(v,false)|.range=>(Lib.intSat 64 s,true)|_=>(0,true))
theorem Dl {w:World}{g:Gh}{a:Int}{t:TypeId}{v:Value}:ARep w g (.tuple [.p (eI a),.p (eE true)]) (.tuple #[.int .i64 a,.iface t v]):=by
 refine .tuple Z λ i c v h1 h2=>?_
 match i,h1,h2 with
 | 0,h1,h2=>simp at h1 h2; subst h1 h2; exact .p (.val _)
 | 1,h1,h2=>simp at h1 h2; subst h1 h2; exact .p (.ifc _ _)
 | n+2,h1,_=>simp at h1
theorem qE (NN:Bk)(base_1 bitSize_2:Int)(r:Int×Bool)(h0:jt NN base_1 bitSize_2=some r):aK Tryz.prog 239 [eS NN,eI base_1,eI bitSize_2] (·=.tuple [.p (eI r.1),.p (eE r.2)]):=by
 obtain ⟨⟨rfl,rfl,hl⟩,h1⟩:=nI h0;have NR:(str NN).size<=281474976710656:=by rw [jc]; exact hl
 refine aK.of_calls (l:=[.string (str NN),.int .i64 10,.int .i64 64]) λ w st hok=>?_
 cases hp:Lib.parseIntB 64 NN with
 | ok v=>
  rw [hp] at h1; cases h1;refine (Tryz.strconv_ParseInt_10_at64_ok (str NN) O v (by rw [jF]; exact hp) w).mono ?_;rintro e w' ⟨rfl,h⟩;refine ⟨_,rfl,?_,λ _=>zp⟩;rcases h with rfl|⟨t,rfl⟩
  ·exact vm _
  ·exact AO _ _ _
 | range=>
  rw [hp] at h1; cases h1;obtain ⟨t,v,hv⟩:=zC hok.gl (g:=4) (j:=0) rfl rfl;refine (Tryz.strconv_ParseInt_10_at64_range (str NN) NR (by rw [jF]; exact hp) _ w hv (.inr ⟨_,_,rfl⟩)).mono ?_;rintro e w' ⟨N,rfl,_,_,hB⟩;rw [jF];exact ⟨_,rfl,hB,λ _=>Dl⟩
 | _=>
  rw [hp] at h1; cases h1;obtain ⟨t,v,hv⟩:=zC hok.gl (g:=3) (j:=0) rfl rfl;refine (Tryz.strconv_ParseInt_10_at64_syntax (str NN) NR (by rw [jF]; exact hp) _ w hv (.inr ⟨_,_,rfl⟩)).mono ?_;rintro e w' ⟨N,rfl,_,_,hB⟩;exact ⟨_,rfl,hB,λ _=>Dl⟩
end Go.Ab
namespace Go.Ab
open Go.Proofs Go.RowKit Go
end Go.Ab
namespace Go.Ab
open Go.Proofs Go.RowKit Go
theorem decN (n b0 b1 b2 b3:Nat)(hn:1<=n)(h0:b0<256):1<=(Lib.decodeN n b0 b1 b2 b3).2/\(Lib.decodeN n b0 b1 b2 b3).2<=n/\(Lib.decodeN n b0 b1 b2 b3).2<=4 /\
  ((Lib.decodeN n b0 b1 b2 b3).1<128->(Lib.decodeN n b0 b1 b2 b3).2=1/\(Lib.decodeN n b0 b1 b2 b3).1=b0) /\
  (128<=(Lib.decodeN n b0 b1 b2 b3).1->128<=b0/\(2<=(Lib.decodeN n b0 b1 b2 b3).2->128<=b1)/\(3<=(Lib.decodeN n b0 b1 b2 b3).2->128<=b2)/\(4<=(Lib.decodeN n b0 b1 b2 b3).2->128<=b3)) /\
  ((Lib.decodeN n b0 b1 b2 b3).1<55296\/(57343<(Lib.decodeN n b0 b1 b2 b3).1/\(Lib.decodeN n b0 b1 b2 b3).1<=1114111)):=by
 unfold Lib.decodeN
 repeat' split
 all_goals (refine ⟨by dsimp only; omega,by dsimp only; omega,by dsimp only; omega,λ h=>⟨by dsimp only at h ⊢; first|done|omega,by dsimp only at h ⊢; first|done|omega⟩,λ h=>⟨by dsimp only at h; omega,λ k=>by dsimp only at k; omega,λ k=>by dsimp only at k; omega,λ k=>by dsimp only at k; omega⟩,by dsimp only; omega⟩)
def strings_Contains (s p:Bk):Option Bool:=ck (s.length<4294967281)<|some (Lib.contains s p)
theorem ic (NN substr_1:Bk)(r:Bool)(h0:strings_Contains NN substr_1=some r):aK Tryz.prog 70 [eS NN,eS substr_1] (·=.p (eB r)):=by
 obtain ⟨h1,h0⟩:=nI h0
 cases h0
 refine aK.of_calls (l:=[.string (str NN),.string (str substr_1)]) λ w st hok=>?_;obtain ⟨m,hm⟩:=EH hok.gl (g:=2) (k:=.i64) rfl;refine (Tryz.strings_Contains (str NN) (str substr_1) m w (by rw [jc]; exact h1) hm).mono ?_;rintro e w' ⟨rfl,rfl⟩;rw [jF,jF];exact xN
end Go.Ab
end
section
namespace Go.Ab
open Go.MapKept
variable {p:Prop}
theorem FF (h:p:=by
 dsimp only at hi;by_cases e1:i=d
 ·rw [if_pos e1] at hi; cases hi;exact ⟨by omega,λ hF=>by have:=hs.fl _ hF; have:=hs.size; omega⟩
 ·rw [if_neg e1] at hi; have:=hs.own i b hi; exact ⟨by omega,this.2⟩):p:=h
theorem JG (h:p:=by
 dsimp only at hi hj;by_cases e1:i=d <;> by_cases e2:j=d
 ·omega
 ·rw [if_pos e1] at hi; rw [if_neg e2] at hj; cases hi; have:=(hs.own j _ hj).1; omega
 ·rw [if_neg e1] at hi; rw [if_pos e2] at hj; cases hj; have:=(hs.own i _ hi).1; omega
 ·rw [if_neg e1] at hi; rw [if_neg e2] at hj; exact hs.inj i j b hi hj):p:=h
theorem Ij (h:p:=by rw [e]; exact List.mem_map.2 ⟨_,List.mem_of_getElem? h,Z⟩):p:=h
section
variable {α:Type}
def m9:List (Bk×α)->Bk->Option α|[],_=>none|(j,v)::r,k=>if j=k then some v else m9 r k
def sd:List (Bk×α)->Bk->α->List (Bk×α)|[],k,v=>[(k,v)]|(j,u)::r,k,v=>if j=k then (k,v)::r else (j,u)::sd r k v
theorem zR:∀ {l:List (Bk×α)} {i:Nat} {k:Bk} {v:α},(l.map Prod.fst).Nodup->l[i]? = some (k,v)->m9 l k=some v
 | [],i,k,v,_,h=>by simp at h
 | (j,u)::r,0,k,v,_,h=>by
  simp only [List.getElem?_cons_zero,aq,Prod.mk.injEq] at h;obtain ⟨rfl,rfl⟩:=h;simp [m9]
 | (j,u)::r,i+1,k,v,hd,h=>by
  simp only [dg,List.nodup_cons] at hd;simp only [List.getElem?_cons_succ] at h;have Ob:j≠k:=λ e=>hd.1 Ij;simp only [m9,if_neg Ob];exact zR hd.2 h
theorem wB:∀ {l:List (Bk×α)} {k:Bk},(∀ p∈l,p.1≠k)->m9 l k=none
 | [],_,_=>rfl
 | (j,u)::r,k,h=>by
  simp only [m9,if_neg (h (j,u) G)];exact wB λ p hp=>h p (List.mem_cons_of_mem _ hp)
theorem px:∀ {l:List (Bk×α)} {k:Bk} {v:α},(∀ p∈l,p.1≠k)->sd l k v=l++[(k,v)]
 | [],_,_,_=>rfl
 | (j,u)::r,k,v,h=>by
  simp only [sd,if_neg (h (j,u) G),List.cons_append];rw [px λ p hp=>h p (List.mem_cons_of_mem _ hp)]
theorem rJ:∀ {l:List (Bk×α)} {i:Nat} {k:Bk} {u v:α},(l.map Prod.fst).Nodup->l[i]? = some (k,u)->sd l k v=l.set i (k,v)
 | [],i,k,u,v,_,h=>by simp at h
 | (j,x)::r,0,k,u,v,_,h=>by
  simp only [List.getElem?_cons_zero,aq,Prod.mk.injEq] at h;obtain ⟨rfl,rfl⟩:=h;simp [sd]
 | (j,x)::r,i+1,k,u,v,hd,h=>by
  simp only [dg,List.nodup_cons] at hd;simp only [List.getElem?_cons_succ] at h;have Ob:j≠k:=λ e=>hd.1 Ij;simp only [sd,if_neg Ob,List.set_cons_succ];rw [rJ hd.2 h]
theorem CP {l:List (Bk×α)}{k:Bk}{v:α}(hd:(l.map Prod.fst).Nodup):((sd l k v).map Prod.fst).Nodup:=by
 by_cases h:∀ p∈l,p.1≠k
 ·rw [px h,List.map_append,List.nodup_append];refine ⟨hd,by simp,λ a ha b hb e=>?_⟩;simp only [dg,th,List.mem_singleton] at hb;subst hb;obtain ⟨p,hp,hq⟩:=List.mem_map.1 ha;exact h p hp (hq.trans e)
 ·obtain ⟨p,hp,hk⟩:∃ p∈l,p.1=k:=by
   refine Classical.byContradiction λ q=>h λ p hp e=>q ⟨p,hp,e⟩
  obtain ⟨i,hi⟩:=List.mem_iff_getElem?.1 hp;obtain ⟨j,u⟩:=p;have hk:j=k:=hk;subst hk;rw [rJ hd hi]
  have:(l.set i (j,v)).map Prod.fst=l.map Prod.fst:=by
   rw [List.map_set];apply List.ext_getElem?;intro q;rw [List.getElem?_set];by_cases e:i=q
   ·subst e;have:i<l.length:=(List.getElem?_eq_some_iff.1 hi).1;rw [if_pos rfl];simp only [n6,this,if_true,List.getElem?_map,hi]
    rfl
   ·rw [if_neg e]
  rw [this]; exact hd
theorem w3 {β:Type}(f:α->β):∀ (l:List (Bk×α)) (k:Bk),m9 (l.map λ p=>(p.1,f p.2)) k=(m9 l k).map f
 | [],_=>rfl
 | (j,v)::r,k=>by
  simp only [dg,m9];split
  ·rfl
  ·exact w3 f r k
theorem AC {β:Type}(f:α->β):∀ (l:List (Bk×α)) (k:Bk) (v:α),sd (l.map λ p=>(p.1,f p.2)) k (f v)=(sd l k v).map λ p=>(p.1,f p.2)
 | [],_,_=>rfl
 | (j,u)::r,k,v=>by
  simp only [dg,sd];split
  ·rfl
  ·rw [AC f r k v]; rfl
end
theorem J4 {a b:Bk}(h:(Value.string ⟨a.toArray⟩)=.string ⟨b.toArray⟩):a=b:=by
 simpa using h
theorem Ah {u:TypeDesc}{k e:Nat}(h:kindOf u=.map k e):u=.map k e:=by
 cases u <;> simp [kindOf] at h
 obtain ⟨rfl,rfl⟩:=h; rfl
theorem uZ {es:Array MapEntry}{kvs:List (Bk×PV)}(hn:es.size=kvs.length)(_hd:(kvs.map Prod.fst).Nodup)(hk:∀ (i:Nat) e kv,es[i]? = some e->kvs[i]? = some kv->e.key=.string ⟨kv.1.toArray⟩)(k:Bk) :
  (∀ x∈es.toList,IsKey .string x.key) /\
  ((Instr.findNow .string (.string ⟨k.toArray⟩) es.toList 0=some none/\(∀ x∈es.toList,x.key≠.string ⟨k.toArray⟩)/\∀ p∈kvs,p.1≠k) \/
  ∃ j e v,Instr.findNow .string (.string ⟨k.toArray⟩) es.toList 0=some (some (j,e.val))/\es[j]? = some e/\e.key=.string ⟨k.toArray⟩/\kvs[j]? = some (k,v)):=by
 have hks:∀ x∈es.toList,IsKey .string x.key:=by
  intro x hx;obtain ⟨i,hi⟩:=List.mem_iff_getElem?.1 hx;rw [Array.getElem?_toList] at hi;have hil:=(Array.getElem?_eq_some_iff.1 hi).1;have:=hk i x kvs[i] hi (List.getElem?_eq_getElem O);rw [this]; trivial
 refine ⟨hks,?_⟩;rcases findNow_spec (k:=.string ⟨k.toArray⟩) (d:=.string) trivial es.toList 0 hks with ⟨h1,h2⟩|⟨j,e,h1,h2,h3⟩
 ·refine .inl ⟨h1,h2,λ p hp e=>?_⟩;obtain ⟨i,hi⟩:=List.mem_iff_getElem?.1 hp;have hil:=(List.getElem?_eq_some_iff.1 hi).1;have hes:es[i]? = some es[i]:=Array.getElem?_eq_getElem O;have:=hk i es[i] p hes hi;exact h2 es[i] (Array.getElem_mem_toList O) (by rw [this,e])
 ·rw [Array.getElem?_toList] at h2;have hil:=(Array.getElem?_eq_some_iff.1 h2).1;have hkv:kvs[j]? = some kvs[j]:=List.getElem?_eq_getElem O;have:=hk j e kvs[j] h2 hkv;have he:kvs[j].1=k:=J4 (this.symm.trans h3);refine .inr ⟨j,e,kvs[j].2,by rw [h1]; simp,h2,h3,?_⟩;rw [hkv,<- he]
def upA (tok:Nat)(kvs:List (Bk×PV))(x:AV):AV:=match x with
 | .mp t l=>bif Nat.beq t tok then .mp t kvs else .mp t l
 | x=>x.dem (Nat.beq · tok)
def upS (tok:Nat)(kvs:List (Bk×PV)):List (Nat×AV)->Option (List (Nat×AV))
 | []=>some []
 | (i,x)::r=>(match frc (upA tok kvs x) with
  | some y=>(match upS tok kvs r with|some l=>some ((i,y)::l)|none=>none)
  | none=>none)
theorem IP {tok:Nat}{kvs:List (Bk×PV)}:∀ {l l':List (Nat×AV)},upS tok kvs l=some l'->l'=l.map λ p=>(p.1,upA tok kvs p.2)
 | [],l',h=>by cases h; rfl
 | (i,x)::r,l',h=>by
  unfold upS at h;split at h
  ·rename_i y hy;split at h
   ·rename_i m hm; cases h; rw [qZ hy,IP hm]; rfl
   ·cases h
  ·cases h
section
variable {C:Cx} {o:Oper} {K:AS->Prop} {sl:List (Nat×AV)} {ob:List (Nat×List AV)} {d:Nat}
theorem sx {d:Nat}(hd:d<M1):∀ i,Nat.beq i d=true->i<M1:=λ i hi=>by have:=bx hi; omega
theorem zM {y:AV}{sl':List (Nat×AV)}{ob':List (Nat×List AV)}(hd:o.dst=some d)(hn:Nat.blt d C.n=true)
  (hrun:∀ g a w,St C.n C.w0 C.F g ⟨sl,ob⟩ a w->(execOp a.eval o).run C.P w=.ok (.value (.map (some w.heap.size))) (w.alloc (.map #[] 0)))
  (hy:∀ (w:World) (g:Gh) (b:Nat),g.ow d=some b->w.heap[b]? = some (.map #[] 0)->ARep w g y (.map (some b)))
  (h1:dmS (Nat.beq · d) sl=some sl') (h2:dmO (Nat.beq · d) ob=some ob') (hK:K ⟨(d,y)::sl',ob'⟩):aX C o K ⟨sl,ob⟩:=by
 intro g a w hs;have hdl:d<M1:=by have h1:=ld C.nl; have h2:d<C.n:=d3 ▸ hn; omega
 unfold Oper.wp;rw [hrun g a w hs];have NZ:Ev w g.st (w.alloc (.map #[] 0)) g.st:=λ b o h=>⟨h,World.cell?_alloc_lt w _ _ (hs.lt b o h)⟩
 obtain ⟨g',hg'⟩:∃ g':Gh,g'=⟨g.st,λ i=>if i=d then some w.heap.size else g.ow i⟩:=⟨_,rfl⟩
 have NR:(w.alloc (.map #[] 0)).heap.size=w.heap.size+1:=by simp
 have hs':St C.n C.w0 C.F g' (cq (Nat.beq · d) ⟨sl,ob⟩) a (w.alloc (.map #[] 0)):=by
  subst hg';refine hs.evolve (Nat.beq · d) (sx hdl) NZ (λ id b hD h=>?_) (λ i j b hi hj=>?_) (λ i b hi=>?_) (λ b o h=>?_) (λ b hb=>?_) Z Z Z O (λ b _ o=>Iff.rfl) (λ i hi=>?_)
  ·have Ob:id≠d:=λ e=>by subst e; simp at hD
   exact ⟨by simp only [if_neg Ob]; exact h,eg (hs.own id b h).1,λ o h=>h⟩
  ·exact JG
  ·exact FF
  ·have:=hs.lt b o h; omega
  ·exact eg (by have:=hs.fl b hb; have:=hs.size; omega)
  ·dsimp only;rw [if_neg O]
 refine ⟨g',⟨(d,y)::sl',ob'⟩,?_,hK⟩
 have hp:=hs'.put (d:=o.dst) (λ t ht=>by rw [hd] at ht; cases ht; exact d3 ▸ hn) (x:=y) (v:=.map (some w.heap.size))
  (hy _ _ _ (by rw [hg']; simp) dO)
 rw [hd] at hp ⊢;rw [oU h1,ny h2];exact hp
theorem A8 {t:TypeId}{sl':List (Nat×AV)}{ob':List (Nat×List AV)}(ho:o.op=.makeMap t none)(hd:o.dst=some d)(hn:Nat.blt d C.n=true)
  (h1:dmS (Nat.beq · d) sl=some sl') (h2:dmO (Nat.beq · d) ob=some ob') (hK:K ⟨(d,.mp d [])::sl',ob'⟩):aX C o K ⟨sl,ob⟩ :=
 zM hd hn (λ g a w hs=>by simp [execOp,ho,Instr.makeMap,newObj,Sem.run]) (λ w g b h1 h2=>.mp h1 h2 Z G G G) h1 h2 hK
theorem EE {t kt et:TypeId}{x y:Operand}{i j:TI}{tok:Nat}{kvs:List (Bk×PV)}{k:Bk}{z:Value}{r:PV}(ho:o.op=.lookup t x y false)(hd:o.dst=some d)(hn:Nat.blt d C.n=true)
  (hi:look C.tt t=some i) (N4:i.k=.map kt et) (hj:look C.tt kt=some j) (hjk:j.k=.string) (hz:(C.P.info? et).map (·.zero)=some (some z))
  (hx:evo sl x=some (.mp tok kvs)) (hy:evo sl y=some (.p (.val (.string ⟨k.toArray⟩)))) (hr:∀ (w:World) (st:Nat->Nat->Prop) (v:Value),PRep w st ((m9 kvs k).getD (.val z)) v->PRep w st r v) (hK:K ⟨(d,.p r)::sl,ob⟩):aX C o K ⟨sl,ob⟩:=by
 obtain ⟨u,h1,h2⟩:=bA C.good hi;obtain rfl:=Ah (h2.trans N4);obtain ⟨u2,h3,h4⟩:=bA C.good hj;obtain rfl:=gW (h4.trans hjk);refine ok_one hd hn (λ g a w hs=>?_) hK;have hm:=bv hs hx;have hkv:=co hs hy;generalize hv:a.eval x=v at hm
 cases hm with
 | mp how hb hN hD hkeys hvals=>
  rename_i b ck es;obtain ⟨hks,hc⟩:=uZ hN hD hkeys k
  have hz2:(zeroValue et).run C.P w=.ok z w:=by
   obtain ⟨inf,hinf,hzz⟩:=mv.1 hz;simp [zeroValue,typeInfo,hinf,hzz]
  rcases hc with ⟨f1,f2,f3⟩|⟨jj,e,v',f1,f2,f3,f4⟩
  ·refine ⟨z,?_,?_⟩
   ·simp [execOp,ho,hv,hkv,Instr.lookup,run_underlying h1,Go.MapKept.run_getObj_map hb,run_checkKey (d:=.string) h3 (k:=.string ⟨k.toArray⟩) trivial,run_findKey h3 f1,hz2,Result.andThen]
   ·exact .p (hr w _ _ (by rw [wB f3]; exact .val _))
  ·refine ⟨e.val,?_,?_⟩
   ·simp [execOp,ho,hv,hkv,Instr.lookup,run_underlying h1,Go.MapKept.run_getObj_map hb,run_checkKey (d:=.string) h3 (k:=.string ⟨k.toArray⟩) trivial,run_findKey h3 f1,Result.andThen]
   ·exact .p (hr w _ _ (by rw [zR hD f4]; exact hvals jj e _ f2 f4))
theorem HU {t kt et:TypeId}{x y:Operand}{i j:TI}{tok:Nat}{kvs:List (Bk×PV)}{k:Bk}{z:Value}{r:PV}(ho:o.op=.lookup t x y false)(hd:o.dst=some d)(hn:Nat.blt d C.n=true)
  (hi:look C.tt t=some i) (N4:i.k=.map kt et) (hj:look C.tt kt=some j) (hjk:j.k=.string) (hz:(C.P.info? et).map (·.zero)=some (some z))
  (hx:evo sl x=some (.mp tok kvs)) (hy:evo sl y=some (.p (.val (.string ⟨k.toArray⟩)))) (hr:(m9 kvs k).getD (.val z)=r) (hK:K ⟨(d,.p r)::sl,ob⟩):aX C o K ⟨sl,ob⟩ :=
 EE ho hd hn hi N4 hj hjk hz hx hy (λ _ _ _ h=>hr ▸ h) hK
theorem KP {t kt et:TypeId}{x y v:Operand}{i j:TI}{tok:Nat}{kvs kvs':List (Bk×PV)}{k:Bk}{r:PV}{sl':List (Nat×AV)}{ob':List (Nat×List AV)}(ho:o.op=.mapUpdate t x y v)(hd:o.dst=none)
  (hi:look C.tt t=some i) (N4:i.k=.map kt et) (hj:look C.tt kt=some j) (hjk:j.k=.string)
  (hx:evo sl x=some (.mp tok kvs)) (hy:evo sl y=some (.p (.val (.string ⟨k.toArray⟩)))) (hv:evo sl v=some (.p r)) (htok:Nat.blt tok M1=true)
  (hk:sd kvs k r=kvs') (h1:upS tok kvs' sl=some sl') (h2:dmO (Nat.beq · tok) ob=some ob') (hK:K ⟨sl',ob'⟩):aX C o K ⟨sl,ob⟩:=by
 obtain ⟨u,hu1,hu2⟩:=bA C.good hi;obtain rfl:=Ah (hu2.trans N4);obtain ⟨u2,hu3,hu4⟩:=bA C.good hj;obtain rfl:=gW (hu4.trans hjk);have htl:tok<M1:=d3 ▸ htok;intro g a w hs;have hm:=bv hs hx;have hkv:=co hs hy;have hrep:=bv hs hv;generalize hvx:a.eval x=vx at hm;generalize hvv:a.eval v=vv at hrep
 cases hrep with
 | p hrep=>
 cases hm with
 | mp how hb hN hD hkeys hvals=>
  rename_i b ck es;obtain ⟨hks,hc⟩:=uZ hN hD hkeys k;have hbl:b<w.heap.size:=(hs.own tok b how).1
  -- the entries behind the change
  obtain ⟨es',ck',hrun,hN',hkeys',hvals'⟩:∃ (es':Array MapEntry) (ck':Nat),(execOp a.eval o).run C.P w=.ok .skip { w with heap:=w.heap.setIfInBounds b (.map es' ck') }/\es'.size=kvs'.length /\
    (∀ (i:Nat) e kv,es'[i]? = some e->kvs'[i]? = some kv->e.key=.string ⟨kv.1.toArray⟩)/\(∀ (i:Nat) e kv,es'[i]? = some e->kvs'[i]? = some kv->PRep w g.st kv.2 e.val):=by
   rcases hc with ⟨f1,f2,f3⟩|⟨jj,e,v',f1,f2,f3,f4⟩
   ·refine ⟨es.push { key:=.string ⟨k.toArray⟩,val:=vv,born:=ck },ck+1,?_,?_,?_,?_⟩
    ·simp [execOp,ho,hvx,hkv,hvv,Instr.mapUpdate,run_underlying hu1,Go.MapKept.run_getObj_map hb,run_checkKey (d:=.string) hu3 (k:=.string ⟨k.toArray⟩) trivial,run_findKey hu3 f1,run_setObj_map _ hb,Result.andThen]
    ·rw [<- hk,px f3]; simp [hN]
    ·intro i e kv h3 h4;rw [<- hk,px f3] at h4;rw [Array.getElem?_push] at h3;split at h3
     ·rename_i hi2
      cases h3
      rw [hi2,List.getElem?_append_right O,hN] at h4;simp at h4;rw [<- h4]
     ·have hil:i<es.size:=(Array.getElem?_eq_some_iff.1 h3).1;rw [List.getElem?_append_left O] at h4;exact hkeys i e kv h3 h4
    ·intro i e kv h3 h4;rw [<- hk,px f3] at h4;rw [Array.getElem?_push] at h3;split at h3
     ·rename_i hi2
      cases h3
      rw [hi2,List.getElem?_append_right O,hN] at h4;simp at h4;rw [<- h4];exact hrep
     ·have hil:i<es.size:=(Array.getElem?_eq_some_iff.1 h3).1;rw [List.getElem?_append_left O] at h4;exact hvals i e kv h3 h4
   ·have hjl:jj<es.size:=(Array.getElem?_eq_some_iff.1 f2).1;refine ⟨es.modify jj λ e=>{ e with key:=.string ⟨k.toArray⟩,val:=vv },ck,?_,?_,?_,?_⟩
    ·have hkey:=run_keyThatStays (P:=C.P) (w:=w) (d:=.string) (k:=.string ⟨k.toArray⟩) trivial;simp [execOp,ho,hvx,hkv,hvv,Instr.mapUpdate,run_underlying hu1,Go.MapKept.run_getObj_map hb,run_checkKey (d:=.string) hu3 (k:=.string ⟨k.toArray⟩) trivial,run_findKey hu3 f1,f2,f3,hkey,run_setObj_map _ hb,Result.andThen]
    ·rw [<- hk,rJ hD f4]; simp [hN]
    ·intro i e2 kv h3 h4;rw [<- hk,rJ hD f4] at h4;rw [Array.getElem?_modify] at h3;rw [List.getElem?_set] at h4;split at h3
     ·rename_i hji;subst hji;rw [f2] at h3
      cases h3
      rw [if_pos rfl,if_pos O] at h4
      cases h4
      rfl
     ·rename_i hji;rw [if_neg hji] at h4;exact hkeys i e2 kv h3 h4
    ·intro i e2 kv h3 h4;rw [<- hk,rJ hD f4] at h4;rw [Array.getElem?_modify] at h3;rw [List.getElem?_set] at h4;split at h3
     ·rename_i hji;subst hji;rw [f2] at h3
      cases h3
      rw [if_pos rfl,if_pos O] at h4
      cases h4
      exact hrep
     ·rename_i hji;rw [if_neg hji] at h4;exact hvals i e2 kv h3 h4
  unfold Oper.wp;rw [hrun];simp only [Oper.upon,hd,Act.put];obtain ⟨w',hw'⟩:∃ w':World,w'={ w with heap:=w.heap.setIfInBounds b (.map es' ck') }:=⟨_,rfl⟩
  rw [<- hw'];have OA:w'.heap[b]? = some (.map es' ck'):=by rw [hw']; exact (heap_set hb).1
  have hother:∀ b2,b2≠b->w'.heap[b2]? = w.heap[b2]?:=λ b2 h=>by rw [hw']; exact (heap_set hb).2 b2 h
  have NR:w'.heap.size=w.heap.size:=by rw [hw']; simp
  have NZ:Ev w g.st w' g.st:=by
   intro b2 o2 h;refine ⟨h,?_⟩;by_cases e:b2=b
   ·subst e; simp [World.cell?,OA,hb]
   ·simp only [World.cell?,hother b2 e]
  have hneq:∀ id b2,Nat.beq id tok=false->g.ow id=some b2->b2≠b:=λ id b2 hq h e=>by
   subst e;have:=hs.inj id tok b2 h how;subst this;simp at hq
  have hs':=hs.evolve (g':=g) (w':=w') (Nat.beq · tok) (sx htl) NZ (λ id b2 hq h=>⟨h,hother b2 (hneq id b2 hq h),λ o h=>h⟩) hs.inj (λ i b2 h=>by have:=hs.own i b2 h; rw [NR]; exact this)
   (λ b2 o2 h=>by have:=hs.lt b2 o2 h; omega) (λ b2 h=>hother b2 (λ e=>(hs.own tok b how).2 (e ▸ h))) (by rw [hw']) (by rw [hw']) (by rw [hw']) O (λ b2 _ o2=>Iff.rfl) (λ i _=>rfl)
  refine ⟨g,⟨sl',ob'⟩,?_,hK⟩;rw [IP h1,ny h2];refine { hs' with sl:=λ q=>?_ };have hq:=hs'.sl q;have hq0:=hs.sl q;simp only [AS.get,cq,iy] at hq hq0 ⊢
  cases hl:look sl q with
  | none=>simp only [Option.map_none,Option.getD_none]; exact .undef _
  | some z=>
   rw [hl] at hq hq0;simp only [Option.map_some,n9] at hq hq0 ⊢;unfold upA;split
   ·rename_i tk l
    cases hbt:Nat.beq tk tok
    ·simp only [AV.dem,hbt,cond_false] at hq ⊢; exact hq
    ·simp only [cond_true];have:=bx hbt;subst this;generalize a.tmps.getD q Go.undef=vq at hq0
     cases hq0 with
     | mp how2 _ _ _ _ _=>
      rw [how] at how2; cases how2;exact .mp how OA hN' (by rw [<- hk]; exact CP hD) hkeys' (λ i e kv h3 h4=>(hvals' i e kv h3 h4).mono NZ)
   ·exact hq
end
/- As 'dem',for identities of any size; what is known of maps of rows is given up. -/
theorem BQ (h:p:=by
 simp only [List.getElem?_map,mv] at h1;obtain ⟨c0,h1,rfl⟩:=h1
 exact ih i c0 v h1 h2):p:=h
mutual
def AV.dm2 (D:Nat->Bool):AV->AV|.undef=>.undef|.p x=>.p x|.agg cs=>.agg (Ex D cs)|.vec tok sz ty es=>bif D tok then .p (.slice es) else .vec tok sz ty es|.arr id sz off n=>bif D id then .undef else .arr id sz off n|.ptr id off=>bif D id then .undef else .ptr id off|.bptr T sz id=>bif D id then .undef else .bptr T sz id|.rptr cs=>.rptr cs|.tuple cs=>.tuple (Ex D cs)|.func f cs=>.func f (Ex D cs)|.mp tok kvs=>bif D tok then .undef else .mp tok kvs|.mpr ..=>.undef|.stk tok sz es=>bif D tok then .undef else .stk tok sz es|.sem ..=>.undef|.it ..=>.undef|.vecp ..=>.undef|.elp ..=>.undef
def Ex (D:Nat->Bool):List AV->List AV|[]=>[]|x::r=>x.dm2 D::Ex D r
end
theorem uH (D:Nat->Bool):∀ l,Ex D l=l.map (AV.dm2 D)
 | []=>rfl
 | x::r=>by simp [Ex,uH D r]
theorem ARep.dm2 {D:Nat->Bool}{w w':World}{g g':Gh}(ev:Ev w g.st w' g'.st)(ow:∀ id b,D id=false->g.ow id=some b->g'.ow id=some b)
  (shape:∀ id b c e,D id=false->g.ow id=some b->w.heap[b]? = some (.cells c e (0,0))->∃ c':Array Value,w'.heap[b]? = some (.cells c' e (0,0))/\c'.size=c.size)
  (tip:∀ id b o,D id=false->g.ow id=some b->g'.st b o->g.st b o)
  (mp:∀ id b es k,D id=false->g.ow id=some b->w.heap[b]? = some (.map es k)->w'.heap[b]? = some (.map es k))
  (stab:∀ id b o,D id=false->g.ow id=some b->g.st b o->w'.heap[b]? = w.heap[b]?) {x:AV} {v:Value} (h:ARep w g x v):ARep w' g' (x.dm2 D) v:=by
 induction h with
 | undef v=>simp only [AV.dm2]; exact .undef _
 | p h=>simp only [AV.dm2]; exact .p (h.mono ev)
 | agg hl h ih=>
  simp only [AV.dm2,uH];refine .agg vp λ i c v h1 h2=>?_;exact BQ
 | vecn tok sz ty=>
  simp only [AV.dm2]
  cases D tok
  ·exact .vecn _ _ _
  ·exact .p .nils
 | vece tok sz a=>
  simp only [AV.dm2]
  cases D tok
  ·exact .vece _ _ _
  ·exact .p (.nile a)
 | vec how hb N0 NR N7 hr hty=>
  simp only [AV.dm2]
  cases hD:D _
  ·obtain ⟨c',hb',hs'⟩:=shape _ _ _ _ hD how hb;exact .vec (ow _ _ hD how) hb' (hs'.trans N0) NR (λ o=>⟨λ h=>(N7 o).1 (tip _ _ o hD how h),λ h=>(ev _ _ ((N7 o).2 h)).1⟩) (hr.mono ev) hty
  ·exact .p (hr.mono ev)
 | arr how hb N0 hn=>
  simp only [AV.dm2]
  cases hD:D _
  ·obtain ⟨c',hb',hs'⟩:=shape _ _ _ _ hD how hb;exact .arr (ow _ _ hD how) hb' (hs'.trans N0) hn
  ·exact gC
 | ptr how=>
  simp only [AV.dm2]
  cases hD:D _
  ·exact .ptr (ow _ _ hD how)
  ·exact gC
 | bptrn how hb N0=>
  simp only [AV.dm2]
  cases hD:D _
  ·obtain ⟨c',hb',hs'⟩:=shape _ _ _ _ hD how hb;exact .bptrn (ow _ _ hD how) hb' (hs'.trans N0)
  ·exact gC
 | bptr how hb N0=>
  simp only [AV.dm2]
  cases hD:D _
  ·obtain ⟨c',hb',hs'⟩:=shape _ _ _ _ hD how hb;exact .bptr (ow _ _ hD how) hb' (hs'.trans N0)
  ·exact gC
 | rptr cf hc hr=>
  simp only [AV.dm2];exact .rptr cf (λ j c h=>⟨(ev _ _ (hc j c h).1).1,(ev _ _ (hc j c h).1).2.trans (hc j c h).2⟩) (λ j c h=>(hr j c h).mono ev)
 | tuple hl h ih=>
  simp only [AV.dm2,uH];refine .tuple vp λ i c v h1 h2=>?_;exact BQ
 | func hl h ih=>
  simp only [AV.dm2,uH];refine .func vp λ i c v h1 h2=>?_;exact BQ
 | mp how hb hn hd hk hv=>
  simp only [AV.dm2]
  cases hD:D _
  ·exact .mp (ow _ _ hD how) (mp _ _ _ _ hD how hb) hn hd hk (λ i e kv h1 h2=>(hv i e kv h1 h2).mono ev)
  ·exact gC
 | mpr=>simp only [AV.dm2]; exact .undef _
 | stkn tok sz=>
  simp only [AV.dm2]
  cases D tok
  ·exact .stkn _ _
  ·exact gC
 | stke tok sz a=>
  simp only [AV.dm2]
  cases D tok
  ·exact .stke _ _ _
  ·exact gC
 | stk how hb N0 NK NR N6 N7 hr=>
  simp only [AV.dm2]
  cases hD:D _
  ·exact .stk (ow _ _ hD how) ((stab _ _ _ hD how ((N7 _).2 rfl)).trans hb) N0 NK NR N6 (λ o=>⟨λ h=>(N7 o).1 (tip _ _ o hD how h),λ h=>(ev _ _ ((N7 o).2 h)).1⟩) (λ i x j p h1 h2=>by obtain ⟨v,h3,h4⟩:=hr i x j p h1 h2; exact ⟨v,h3,h4.mono ev⟩)
  ·exact gC
 | sem=>simp only [AV.dm2]; exact .undef _
 | it=>simp only [AV.dm2]; exact .undef _
 | vecp=>simp only [AV.dm2]; exact .undef _
 | elp=>simp only [AV.dm2]; exact .undef _
def M6 (e t:Nat)(i:Nat):Bool:=Nat.beq i e||Nat.beq i t||Nat.ble MZ i
def tkA (tok e:Nat)(y x:AV):AV:=match x with
 | .mpr t _ _ _ _=>bif Nat.beq t tok then y else .undef
 | x=>x.dm2 (M6 e tok)
def tkS (tok e:Nat)(y:AV):List (Nat×AV)->Option (List (Nat×AV))
 | []=>some []
 | (i,x)::r=>(match frc (tkA tok e y x) with
  | some z=>(match tkS tok e y r with|some l=>some ((i,z)::l)|none=>none)
  | none=>none)
end Go.Ab
end
section
namespace Go.Ab
section
variable {C:Cx} {o:Oper} {K:AS->Prop} {sl:List (Nat×AV)} {ob:List (Nat×List AV)} {d:Nat}
theorem GZ {t e:TypeId}{x:Operand}{i:TI}{k sz:Nat}{es:List PV}(ho:o.op=.call { callee:=.builtin .len,args:=#[x],argTypes:=#[t] })(hd:o.dst=some d)(hn:Nat.blt d C.n=true)
  (hi:look C.tt t=some i) (N4:i.k=.slice e) (hx:evo sl x=some (.stk k sz es))
  (hK:K ⟨(d,.p (.val (.int .i64 (es.length:Int))))::sl,ob⟩):aX C o K ⟨sl,ob⟩:=by
 obtain ⟨u,h1,h2⟩:=bA C.good hi;have h3:=bC (h2.trans N4);subst h3;refine ok_one hd hn (λ g a w hs=>?_) hK;have h5:=bv hs hx;generalize hv:a.eval x=v at h5
 cases h5 with
 | stkn=>exact ⟨.int .i64 0,by rw [iD ho]; simp [builtin,hv,Builtin.len_,run_underlying h1,goInt],.p (.val _)⟩
 | stke=>exact ⟨.int .i64 0,by rw [iD ho]; simp [builtin,hv,Builtin.len_,run_underlying h1,goInt],.p (.val _)⟩
 | stk how hb N0 hlenc hszc N6 N7 hr=>exact ⟨.int .i64 (es.length:Int),by rw [iD ho]; simp [builtin,hv,Builtin.len_,run_underlying h1,goInt],.p (.val _)⟩
end
theorem Lt (D:Nat->Bool):∀ (l:List PV),dmC D (l.map .p)=some (l.map .p)
 | []=>rfl
 | x::r=>by
  have h:=Lt D r;simp only [dg,dmC,AV.dem,h]
  first|rfl|(simp [frc])
theorem Ko {D:Nat->Bool}{i:Nat}{l:List PV}{r r':List (Nat×List AV)}(h:D i=false)(hr:dmO D r=some r'):dmO D ((i,l.map .p)::r)=some ((i,l.map .p)::r'):=by
 simp only [dmO,h,Lt,hr]
theorem I6 {D:Nat->Bool}{i:Nat}{cs:List AV}{r r':List (Nat×List AV)}(h:D i=true)(hr:dmO D r=some r'):dmO D ((i,cs)::r)=some r':=by
 simp only [dmO,h,hr]
theorem Ke {D:Nat->Bool}{i:Nat}{cs ds:List AV}{r r':List (Nat×List AV)}(h:D i=false)(hc:dmC D cs=some ds)(hr:dmO D r=some r'):dmO D ((i,cs)::r)=some ((i,ds)::r'):=by
 simp only [dmO,h,hc,hr]
theorem AV.sub_nilstk (tok sz:Nat):(AV.p (.val (.slice none 0 0))).sub (.stk tok sz []):=by
 intro w g v h
 cases h with
 | p h=>cases h; exact .stkn _ _
section
variable {C:Cx} {o:Oper} {K:AS->Prop} {sl:List (Nat×AV)} {ob:List (Nat×List AV)} {d:Nat}
theorem EV {α:Type}(f:α->PV)(L:List (Bk×α))(z:α){t kt et:TypeId}{x y:Operand}{i j:TI}{tok:Nat}{k:Bk}{zv:Value}(ho:o.op=.lookup t x y false)(hd:o.dst=some d)(hn:Nat.blt d C.n=true)
  (hi:look C.tt t=some i) (N4:i.k=.map kt et) (hj:look C.tt kt=some j) (hjk:j.k=.string) (hz:(C.P.info? et).map (·.zero)=some (some zv)) (hfz:f z=.val zv)
  (hx:evo sl x=some (.mp tok (L.map λ p=>(p.1,f p.2)))) (hy:evo sl y=some (.p (eS k))) (hK:K ⟨(d,.p (f ((m9 L k).getD z)))::sl,ob⟩):aX C o K ⟨sl,ob⟩:=by
 refine HU ho hd hn hi N4 hj hjk hz hx hy ?_ hK;rw [w3]
 cases m9 L k with
 | none=>exact hfz.symm
 | some v=>rfl
theorem Ik {α:Type}(f:α->PV)(L:List (Bk×α))(u:α){t kt et:TypeId}{x y v:Operand}{i j:TI}{tok:Nat}{k:Bk}{sl':List (Nat×AV)}{ob':List (Nat×List AV)}(ho:o.op=.mapUpdate t x y v)(hd:o.dst=none)
  (hi:look C.tt t=some i) (N4:i.k=.map kt et) (hj:look C.tt kt=some j) (hjk:j.k=.string)
  (hx:evo sl x=some (.mp tok (L.map λ p=>(p.1,f p.2)))) (hy:evo sl y=some (.p (eS k))) (hv:evo sl v=some (.p (f u))) (htok:Nat.blt tok M1=true)
  (h1:upS tok ((sd L k u).map λ p=>(p.1,f p.2)) sl=some sl') (h2:dmO (Nat.beq · tok) ob=some ob') (hK:K ⟨sl',ob'⟩):aX C o K ⟨sl,ob⟩ :=
 KP ho hd hi N4 hj hjk hx hy hv htok (AC f L k u) h1 h2 hK
theorem zQ {α:Type}(f:α->PV)(l:List α){t e:TypeId}{x:Operand}{i:TI}{k sz:Nat}(ho:o.op=.call { callee:=.builtin .len,args:=#[x],argTypes:=#[t] })(hd:o.dst=some d)(hn:Nat.blt d C.n=true)
  (hi:look C.tt t=some i) (N4:i.k=.slice e) (hx:evo sl x=some (.stk k sz (l.map f))) (hK:K ⟨(d,.p (eI (l.length:Int)))::sl,ob⟩):aX C o K ⟨sl,ob⟩ :=
 GZ ho hd hn hi N4 hx (by rw [n6]; exact hK)
end
variable {p:Prop}
theorem pK (h:p:=by simpa using NK):p:=h
theorem Jm (h:p:=by
 have e1:(cq (λ i=>Nat.beq i d) ⟨sl,ob⟩).sl=sl':=(oU h1).symm;have e2:(cq (λ i=>Nat.beq i d) ⟨sl,ob⟩).ob=ob':=(ny h2).symm
 rw [e1,e2]; exact hK):p:=h
@[irreducible] def uo (n:Nat):List UInt8:=List.replicate n 0
section
variable {C:Cx} {o:Oper} {K:AS->Prop} {sl:List (Nat×AV)} {ob:List (Nat×List AV)} {d:Nat}
theorem w6 {α:Type} [Inhabited α] (f:α->PV)(l:List α){t m e:Nat}{x y:Operand}{i ie:TI}{k:IntKind}{n:Int}(ho:o.op=.index t x y)(hd:o.dst=some d)(hn:Nat.blt d C.n=true)
  (hi:look C.tt t=some i) (N4:i.k=.array m e) (hie:look C.tt e=some ie) (hia:ie.k.isAgg=false) (hs1:ie.size=1) (hm:Nat.beq m l.length=true) (hx:evo sl x=some (.p (.agg (l.map f))))
  (hy:evo sl y=some (.p (.val (.int k n)))) (hb:0<=n/\n<(l.length:Int)) (hK:K ⟨(d,.p (f (lat l n)))::sl,ob⟩):aX C o K ⟨sl,ob⟩:=by
 obtain ⟨u,h1,h2⟩:=bA C.good hi;have h3:=rl (h2.trans N4);subst h3;have hm':=bx hm;refine ok_one hd hn (λ g a w hs=>?_) hK;have h5:=bv hs hx;generalize hv:a.eval x=v at h5
 cases h5 with
 | p h5=>
  cases h5 with
  | agg hl hh=>
   rename_i vs;have hlt:n.toNat<l.length:=by omega
   have hlt2:n.toNat<vs.size:=by rw [hl]; simpa using hlt
   have hnm:n<(m:Int):=by omega
   refine ⟨vs[n.toNat],by simp [execOp,ho,hv,co hs hy,Instr.index,asIntOf,run_underlying h1,hb.1,hnm,run_sizeOf C.good hie,hs1,part,mg C.good hie,hia,hlt2],.p (hh n.toNat (f (lat l n)) _ ?_ (Array.getElem?_eq_getElem hlt2))⟩;simp [lat,List.getElem?_map,List.getElem?_eq_getElem hlt,List.getD_eq_getElem?_getD]
theorem bm {t:TypeId}{x:Operand}{i:TI}{id k:Nat}{cs:List AV}{y:AV}(ho:o.op=.load t x)(hd:o.dst=some d)(hn:Nat.blt d C.n=true)
  (hi:look C.tt t=some i) (hia:i.k.isAgg=false) (hx:evo sl x=some (.ptr id k)) (hob:look ob id=some cs) (hy:cs[k]? = some y) (hK:K ⟨(d,y)::sl,ob⟩):aX C o K ⟨sl,ob⟩ :=
 bH ho hd hn hi hia hx hob hy hK
theorem Et {t:TypeId}{x:Operand}{i:TI}{id k:Nat}{cs:List AV}{y:AV}(ho:o.op=.load t x)(hd:o.dst=some d)(hn:Nat.blt d C.n=true)
  (hi:look C.tt t=some i) (hia:i.k.isAgg=true) (hx:evo sl x=some (.ptr id k)) (hob:look ob id=some cs) (hl:Nat.ble (k+i.size) cs.length=true) (hy:lq ((cs.drop k).take i.size)=y)
  (hK:K ⟨(d,y)::sl,ob⟩):aX C o K ⟨sl,ob⟩:=eH ho hd hn hi hia hx hob hl (congrArg some hy) hK
theorem fv {t:TypeId}{x v:Operand}{i:TI}{id k:Nat}{cs xs ds:List AV}{y:AV}(ho:o.op=.store t x v)(hd:o.dst=none)
  (hi:look C.tt t=some i) (hx:evo sl x=some (.ptr id k)) (hv:evo sl v=some y) (hc:y.cellsA=some xs) (NR:Nat.beq xs.length i.size=true) (hob:look ob id=some cs) (hl:k+xs.length<=cs.length) (hu:mV cs k xs=ds)
  (hK:K ⟨sl,(id,ds)::ob⟩):aX C o K ⟨sl,ob⟩:=by
 subst hu;exact fe ho hd hi hx hv hc (bx NR) hob hl hK
theorem xt {α:Type}(f:α->PV)(hf:∀ x,(f x).one=true):∀ l:List α,AV.onesB ((l.map f).map .p)=true
 | []=>rfl
 | x::r=>by simp only [dg,AV.onesB,AV.one,hf x,xt f hf r,Bool.and_self]
theorem xh {α:Type}(f:α->PV)(l:List α){t:TypeId}{i:TI}{sl':List (Nat×AV)}{ob':List (Nat×List AV)}(hf:∀ x,(f x).one=true)(ho:o.op=.alloc t)(hd:o.dst=some d)(hn:Nat.blt d C.n=true)
  (hi:look C.tt t=some i) (hz:fT i=(l.map f).map .p) (h1:dmS (λ i=>Nat.beq i d) sl=some sl') (h2:dmO (λ i=>Nat.beq i d) ob=some ob') (hK:K ⟨(d,.ptr d 0)::sl',(d,(l.map f).map .p)::ob'⟩):aX C o K ⟨sl,ob⟩:=by
 refine fP ho hd hn hi ?_ ?_
 ·rw [hz]; simp only [AV.cellsA,xt f hf l,cond_true]
 ·rw [hz,x9];exact Jm
theorem KW (cs:List PV){t:TypeId}{v:Operand}{sl':List (Nat×AV)}{ob':List (Nat×List AV)}(ho:o.op=.box t v)(hd:o.dst=some d)(hn:Nat.blt d C.n=true)(hx:evo sl v=some (.p (.agg cs)))(h0:PV.onesB cs=true)
  (h1:dmS (λ i=>Nat.beq i d) sl=some sl') (h2:dmO (λ i=>Nat.beq i d) ob=some ob') (hK:K ⟨(d,.ptr d 0)::sl',(d,cs.map .p)::ob'⟩):aX C o K ⟨sl,ob⟩:=by
 refine BA ho hd hn hx (cs:=cs.map .p) (by simp only [AV.cellsA,h0,cond_true]) ?_;rw [x9];exact Jm
theorem EP {α:Type}(f:α->PV)(l:List α){t:TypeId}{x:Operand}{i:TI}{id:Nat}(ho:o.op=.load t x)(hd:o.dst=some d)(hn:Nat.blt d C.n=true)
  (hi:look C.tt t=some i) (hia:i.k.isAgg=true) (hx:evo sl x=some (.ptr id 0)) (hob:look ob id=some ((l.map f).map .p)) (hl:Nat.beq i.size l.length=true)
  (hK:K ⟨(d,.p (.agg (l.map f)))::sl,ob⟩):aX C o K ⟨sl,ob⟩:=by
 have hl':=bx hl;refine eH ho hd hn hi hia hx hob (by simp [hl']) (y:=.p (.agg (l.map f))) (congrArg some ?_) hK
 have e:(((l.map f).map AV.p).drop 0).take i.size=(l.map f).map AV.p:=by
  rw [List.drop_zero,hl']; exact List.take_of_length_le G
 rw [e]
 have ha:∀ q:List PV,wx (q.map .p)=some q:=by
  intro q
  induction q with
  | nil=>rfl
  | cons x r ih=>simp only [dg,wx,ih]
 simp only [lq,ha]
theorem ws:∀ q:List PV,wx (q.map .p)=some q
 | []=>rfl
 | x::r=>by simp only [dg,wx,ws r]
theorem Lh {α:Type}(f:α->PV)(l:List α){tt:List (Nat×TI)}{rs:List ResultVar}{s:AS}{c id:Nat}{t:TypeId}{i:TI}(hr:rs=[.cell c t])(hc:look s.sl c=some (.ptr id 0))(hob:look s.ob id=some ((l.map f).map .p))(hi:look tt t=some i)(hia:i.k.isAgg=true)
  (hl:Nat.beq i.size l.length=true):nB tt rs s=some [.p (.agg (l.map f))]:=by
 have hl':=bx hl;subst hr
 have e:(((l.map f).map AV.p).drop 0).take i.size=(l.map f).map AV.p:=by
  rw [List.drop_zero,hl']; exact List.take_of_length_le G
 have e2:Nat.ble (0+i.size) ((l.map f).map AV.p).length=true:=by simp [hl']
 simp only [nB,hc,hob,hi,hia,cond_true,e,e2,lq,ws]
theorem Bb {α:Type}(f:α->PV)(l l2:List α){t:TypeId}{x v:Operand}{i:TI}{id:Nat}(ho:o.op=.store t x v)(hd:o.dst=none)
  (hi:look C.tt t=some i) (hx:evo sl x=some (.ptr id 0)) (hv:evo sl v=some (.p (.agg (l2.map f)))) (hob:look ob id=some ((l.map f).map .p)) (hf:∀ x,(f x).one=true) (hl:Nat.beq i.size l.length=true) (hl2:Nat.beq i.size l2.length=true)
  (hK:K ⟨sl,(id,(l2.map f).map .p)::ob⟩):aX C o K ⟨sl,ob⟩:=by
 have e1:=bx hl;have e2:=bx hl2
 have ho1:∀ q:List α,PV.onesB (q.map f)=true:=by
  intro q
  induction q with
  | nil=>rfl
  | cons x r ih=>simp only [dg,PV.onesB,hf x,ih,Bool.and_self]
 refine fv (xs:=(l2.map f).map .p) ho hd hi hx hv (by simp only [AV.cellsA,ho1 l2,cond_true]) (by simp [e2]) hob hC ?_ hK;unfold mV;split
 ·rename_i y hy;have h3:=congrArg List.length hy;simp only [n6,cl,n7] at h3;rw [hy]
  match l,e1 with
  | [z],_=>rfl
  | [],e1=>simp at e1; omega
  | _::_::_,e1=>simp at e1; omega
 ·rw [List.take_zero,List.nil_append,List.drop_eq_nil_of_le hC,List.append_nil]
theorem GV {t:TypeId}{x:Operand}{s:List UInt8}{i:TI}{sl':List (Nat×AV)}{ob':List (Nat×List AV)}(ho:o.op=.range t x)(hd:o.dst=some d)(hn:Nat.blt d C.n=true)
  (hi:look C.tt t=some i) (N4:i.k=.string) (hx:evo sl x=some (.p (.val (.string ⟨s.toArray⟩)))) (h1:dmS (Nat.beq · d) sl=some sl') (h2:dmO (Nat.beq · d) ob=some ob')
  (hK:K ⟨(d,.it d s 0)::sl',ob'⟩):aX C o K ⟨sl,ob⟩:=by
 obtain ⟨u,hu1,hu2⟩:=bA C.good hi;have h3:=gW (hu2.trans N4);subst h3;intro g a w hs;have hdl:d<M1:=by have h1:=ld C.nl; have h2:d<C.n:=d3 ▸ hn; omega
 unfold Oper.wp
 have hrun:(execOp a.eval o).run C.P w=.ok (.value (.pointer (some ⟨w.heap.size,0,none⟩))) (w.alloc (.stringIter ⟨s.toArray⟩ 0)):=by
  simp [execOp,ho,Instr.range,co hs hx,run_underlying hu1,newObj,Sem.run,Result.andThen]
 rw [hrun];obtain ⟨g',hg'⟩:∃ g':Gh,g'=⟨λ b o=>g.st b o\/(b=w.heap.size/\o=0),λ i=>if i=d then some w.heap.size else g.ow i⟩:=⟨_,rfl⟩
 have NR:(w.alloc (.stringIter ⟨s.toArray⟩ 0)).heap.size=w.heap.size+1:=by simp
 have NZ:Ev w g.st (w.alloc (.stringIter ⟨s.toArray⟩ 0)) g'.st:=λ b o h=>⟨by rw [hg']; exact .inl h,World.cell?_alloc_lt w _ _ (hs.lt b o h)⟩
 have hs':St C.n C.w0 C.F g' (cq (Nat.beq · d) ⟨sl,ob⟩) a (w.alloc (.stringIter ⟨s.toArray⟩ 0)):=by
  subst hg';refine hs.evolve (Nat.beq · d) (sx hdl) NZ (λ id b hD h=>?_) (λ i j b hi hj=>?_) (λ i b hi=>?_) (λ b o h=>?_) (λ b hb=>?_) Z Z Z O (λ b hb o=>?_) (λ i hi=>?_)
  ·have Ob:id≠d:=λ e=>by subst e; simp at hD
   have hlt:=(hs.own id b h).1;exact ⟨by simp only [if_neg Ob]; exact h,eg hlt,λ o h=>h.resolve_right λ e=>by omega⟩
  ·exact JG
  ·exact FF
  ·rcases h with h|h
   ·have:=hs.lt b o h; omega
   ·omega
  ·exact eg (by have:=hs.fl b hb; have:=hs.size; omega)
  ·have h1:=hs.fl b hb;have h2:=hs.size;exact ⟨λ h=>h.resolve_right λ e=>by omega,.inl⟩
  ·dsimp only;rw [if_neg O]
 refine ⟨g',⟨(d,.it d s 0)::sl',ob'⟩,?_,hK⟩
 have hp:=hs'.put (d:=o.dst) (λ t ht=>by rw [hd] at ht; cases ht; exact d3 ▸ hn) (x:=.it d s 0) (v:=.pointer (some ⟨w.heap.size,0,none⟩))
  (.it (by rw [hg']; simp) dO (by rw [hg']; exact .inr ⟨Z,Z⟩))
 rw [hd] at hp ⊢;rw [oU h1,ny h2];exact hp
theorem zN {n:Nat}{w0:Base}{w:World}{F:Nat->Prop}{g:Gh}{s:AS}{a:Act}(_hs:St n w0 F g s a w){tok pos:Nat}{l:List UInt8}{v:Value}(h:ARep w g (.it tok l pos) v) :
  ∃ b,v=.pointer (some ⟨b,0,none⟩)/\g.ow tok=some b/\w.heap[b]? = some (.stringIter ⟨l.toArray⟩ pos)/\g.st b 0:=by
 cases h with
 | it how hb hm=>exact ⟨_,Z,how,hb,hm⟩
theorem F5 {x:Operand}{s:List UInt8}{tok pos:Nat}(ho:o.op=.next x true)(hd:o.dst=some d)(hn:Nat.blt d C.n=true)
  (hx:evo sl x=some (.it tok s pos)) (hp:¬ pos<s.length) (hK:K ⟨(d,.tuple [.p (eB false)])::sl,ob⟩):aX C o K ⟨sl,ob⟩:=by
 refine ok_one hd hn (λ g a w hs=>?_) hK;obtain ⟨b,hv,_,hb,_⟩:=zN hs rt;refine ⟨.tuple #[.bool false],?_,.tuple rfl λ i c v h1 h2=>?_⟩
 ·have NR:¬ pos<(⟨s.toArray⟩:ByteArray).size:=by simpa [ByteArray.size] using hp
  have:=Go.Lib.run_next_end_at (P:=C.P) w b ⟨s.toArray⟩ pos o.type hb NR;simp [execOp,ho,hv,this]
 ·match i,h1,h2 with
  | 0,h1,h2=>simp at h1 h2; subst h1 h2; exact .p (.val _)
theorem Je {j:Nat}{s:List UInt8}{tok pos:Nat}{sl':List (Nat×AV)}{ob':List (Nat×List AV)}(ho:o.op=.next (.tmp j) true)(hd:o.dst=some d)(hn:Nat.blt d C.n=true)(hj:Nat.blt j C.n=true)
  (hx:evo sl (.tmp j)=some (.it tok s pos)) (htok:Nat.blt tok M1=true) (hp:pos<s.length) (ha:(s.getD pos 0).toNat<128) (h1:dmS (Nat.beq · tok) sl=some sl') (h2:dmO (Nat.beq · tok) ob=some ob')
  (_hdj:Nat.beq d j=false) (hK:K ⟨(d,.tuple [.p (eB true),.p (eI (pos:Int)),.p (eK .i32 ((s.getD pos 0).toNat:Int))])::(j,.it tok s (pos+1))::sl',ob'⟩):aX C o K ⟨sl,ob⟩:=by
 intro g a w hs;obtain ⟨b,hv,how,hb,hm⟩:=zN hs rt;have htl:tok<M1:=d3 ▸ htok;have hbl:=(hs.own tok b how).1;unfold Oper.wp;have NR:pos<(⟨s.toArray⟩:ByteArray).size:=by simpa [ByteArray.size] using hp
 have hg0:(⟨s.toArray⟩:ByteArray)[pos]'NR=s.getD pos 0:=by
  rw [List.getD_eq_getElem?_getD,List.getElem?_eq_getElem hp]; rfl
 have hnx:=Go.Lib.run_next_ascii_at (P:=C.P) w b ⟨s.toArray⟩ pos o.type hb NR (by rw [hg0]; exact ha);rw [hg0] at hnx
 have hrun:(execOp a.eval o).run C.P w=.ok (.value (.tuple #[.bool true,.int .i64 pos,.int .i32 (s.getD pos 0).toNat])) (w.iterAt b ⟨s.toArray⟩ (pos+1)):=by
  simp [execOp,ho,hv,hnx]
 rw [hrun]
 have hheap:∀ b',b'≠b->(w.iterAt b ⟨s.toArray⟩ (pos+1)).heap[b']? = w.heap[b']?:=λ b' Ob=>by
  simp only [World.iterAt,Array.getElem?_setIfInBounds];rw [if_neg O]
 have hheapb:=Go.Lib.iterAt_heap w b ⟨s.toArray⟩ pos (pos+1) hb;have hwsz:(w.iterAt b ⟨s.toArray⟩ (pos+1)).heap.size=w.heap.size:=by simp [World.iterAt]
 have NY:∀ b' o',(w.iterAt b ⟨s.toArray⟩ (pos+1)).cell? ⟨b',o',none⟩=w.cell? ⟨b',o',none⟩:=λ b' o'=>by
  by_cases e:b'=b
  ·subst e;simp only [World.cell?,hheapb,hb]
  ·simp only [World.cell?,hheap b' e]
 have hs':St C.n C.w0 C.F g (cq (Nat.beq · tok) ⟨sl,ob⟩) a (w.iterAt b ⟨s.toArray⟩ (pos+1)):=by
  refine hs.evolve (Nat.beq · tok) (sx htl) (λ b' o' h=>⟨h,NY b' o'⟩) (λ id b' hD h=>⟨h,hheap b' λ e=>?_,λ o h=>h⟩) hs.inj (λ i b' h=>by rw [hwsz]; exact hs.own i b' h) (λ b' o' h=>by rw [hwsz]; exact hs.lt b' o' h) (λ b' hb'=>hheap b' λ e=>?_) Z Z Z O (λ b' _ o'=>Iff.rfl) (λ i _=>rfl)
  ·subst e;have:=hs.inj id tok b' h how;subst this;simp at hD
  ·subst e;exact (hs.own tok b' how).2 hb'
 have hjd:j<C.n:=d3 ▸ hj;refine ⟨g,⟨(d,.tuple [.p (eB true),.p (eI (pos:Int)),.p (eK .i32 ((s.getD pos 0).toNat:Int))])::(j,.it tok s (pos+1))::sl',ob'⟩,?_,hK⟩
 have hs2:St C.n C.w0 C.F g ⟨(j,.it tok s (pos+1))::sl',ob'⟩ a (w.iterAt b ⟨s.toArray⟩ (pos+1)):=by
  rw [oU h1,ny h2];refine { hs' with sl:=λ i=>?_ };simp only [AS.get,a6];by_cases e:j=i
  ·subst e;rw [if_pos rfl];simp only [n9];have:a.eval (.tmp j)=a.tmps.getD j Go.undef:=rfl;rw [<- this,hv];exact .it how hheapb hm
  ·rw [if_neg e];exact hs'.sl i
 have hp2:=hs2.put (d:=o.dst) (λ t ht=>by rw [hd] at ht; cases ht; exact d3 ▸ hn) (x:=.tuple [.p (eB true),.p (eI (pos:Int)),.p (eK .i32 ((s.getD pos 0).toNat:Int))]) (v:=.tuple #[.bool true,.int .i64 pos,.int .i32 (s.getD pos 0).toNat])
  (.tuple Z λ i c v h1 h2=>by
   match i,h1,h2 with
   | 0,h1,h2=>simp at h1 h2; subst h1 h2; exact .p (.val _)
   | 1,h1,h2=>simp at h1 h2; subst h1 h2; exact .p (.val _)
   | 2,h1,h2=>simp at h1 h2; subst h1 h2; exact .p (.val _))
 rw [hd] at hp2 ⊢;exact hp2
end
theorem xT (h:p:=by rw [ab.hd_len]; decide):p:=h
def jm:List UInt8:=[0,0,0,0,0,0,0,0,0,1,6,0,0,1,0,0,0,0,0,0,0,0,0,0,0,0,0,0,0,0,0,0,1,4,5,7,0,4,4,0,4,4,4,4,4,4,4,4,3,3,3,3,3,3,3,3,3,3,4,0,4,4,4,4,0,2,2,2,2,2,2,2,2,2,2,2,2,2,2,2,2,2,2,2,2,2,2,2,2,2,2,4,0,4,0,2,0,2,2,2,2,2,2,2,2,2,2,2,2,2,2,2,2,2,2,2,2,2,2,2,2,2,2,4,4,4,0,0,0,0,0,0,0,0,0,0,0,0,0,0,0,0,0,0,0,0,0,0,0,0,0,0,0,0,0,0,0,0,0,0,0,0,0,0,0,0,0,0,0,0,0,0,0,0,0,0,0,0,0,0,0,0,0,0,0,0,0,0,0,0,0,0,0,0,0,0,0,0,0,0,0,0,0,0,0,0,0,0,0,0,0,0,0,0,0,0,0,0,0,0,0,0,0,0,0,0,0,0,0,0,0,0,0,0,0,0,0,0,0,0,0,0,0,0,0,0,0,0,0,0,0,0,0,0,0,0]
theorem Ax:jm.length=256:=by kernel_rfl
def tG:List PV:=jm.map eU
theorem mz:tG.length=256:=by rw [tG,n6,Ax]
structure ab where
 fs:Bk
 fat:Int
 Mp:Int
 AI:au
 deriving Inhabited
def ab.cs (x:ab):List PV:=eS x.fs::eI x.fat::(tG++[eI x.Mp,eI x.AI.Ar,eI x.AI.fAt,eS x.AI.AT])
theorem ab.len (x:ab):((ab.cs x).map AV.p).length=262:=by simp [ab.cs,mz]
theorem ab.g_s (x:ab):((ab.cs x).map AV.p)[0]? = some (.p (eS x.fs)):=rfl
theorem ab.g_at (x:ab):((ab.cs x).map AV.p)[1]? = some (.p (eI x.fat)):=rfl
theorem ab.g_outer (x:ab):((ab.cs x).map AV.p)[2+256]? = some (.p (eI x.Mp)):=by
 simp only [ab.cs,dg,List.map_append,List.getElem?_cons_succ];rw [List.getElem?_append_right (by simp [mz])];simp [mz]
theorem ab.g_class (x:ab){n:Int}(h:0<=n/\n<256):((ab.cs x).map AV.p)[2+n.toNat*1]? = some (.p (eU (lat jm n))):=by
 have hn:n.toNat<256:=by omega
 have e:2+n.toNat*1=n.toNat+1+1:=by omega
 rw [e];simp only [ab.cs,dg,List.map_append,List.getElem?_cons_succ];rw [List.getElem?_append_left (by simp [mz]; omega)];simp [tG,lat,List.getElem?_map,List.getElem?_eq_getElem (show n.toNat<jm.length by rw [Ax]; exact hn)]
def ab.hd (x:ab):List AV:=(eS x.fs::eI x.fat::(tG++[eI x.Mp])).map .p
theorem ab.hd_len (x:ab):x.hd.length=259:=by simp [ab.hd,mz]
theorem ab.cs_hd (x:ab):(ab.cs x).map AV.p=x.hd++(au.cs x.AI).map .p:=by
 simp [ab.cs,ab.hd,au.cs]
theorem ab.l_bad (x:ab):Nat.ble (2+256+1+3) ((ab.cs x).map AV.p).length=true:=by rw [ab.len]; rfl
theorem ab.g_bad (x:ab):lq ((((ab.cs x).map AV.p).drop (2+256+1)).take 3)=.p (.agg (au.cs x.AI)):=by
 rw [ab.cs_hd,List.drop_append_of_le_length xT,List.drop_eq_nil_of_le xT]
 rfl
theorem ab.b_at (x:ab):1+1<=((ab.cs x).map AV.p).length:=by rw [ab.len]; decide
theorem ab.b_outer (x:ab):2+256+1<=((ab.cs x).map AV.p).length:=by rw [ab.len]; decide
theorem ab.b_bad (x:ab):2+256+1+3<=((ab.cs x).map AV.p).length:=by rw [ab.len]; decide
theorem ab.u_at (x:ab){v:Int}:mV ((ab.cs x).map AV.p) 1 [.p (eI v)]=(ab.cs (.mk x.fs v x.Mp x.AI)).map .p:=by
 simp only [mV,ab.cs,dg,List.set_cons_succ,List.set_cons_zero]
theorem ab.u_outer (x:ab){v:Int}:mV ((ab.cs x).map AV.p) (2+256) [.p (eI v)]=(ab.cs (.mk x.fs x.fat v x.AI)).map .p:=by
 simp only [mV,ab.cs,dg,List.map_append,List.set_cons_succ];rw [List.set_append_right _ _ (by simp [mz])];simp [mz]
theorem ab.u_bad (x:ab){k a:Int}{n:Bk}:mV ((ab.cs x).map AV.p) (2+256+1) [.p (eI k),.p (eI a),.p (eS n)]=(ab.cs (.mk x.fs x.fat x.Mp (.mk k a n))).map .p:=by
 have e:mV ((ab.cs x).map AV.p) 259 [.p (eI k),.p (eI a),.p (eS n)]=((ab.cs x).map AV.p).take 259++(au.cs (.mk k a n)).map .p++((ab.cs x).map AV.p).drop (259+3):=rfl;show mV ((ab.cs x).map AV.p) 259 [.p (eI k),.p (eI a),.p (eS n)]=_;rw [e,ab.cs_hd,ab.cs_hd,List.take_append_of_le_length xT,List.take_of_length_le xT,List.drop_eq_nil_of_le (by rw [la,ab.hd_len]; simp [au.cs]),List.append_nil]
 rfl
end Go.Ab
end
section
namespace Go.Ab.R06
open Go.Proofs Go.Ab Go.Ab.RB
variable {p:Prop}
theorem cH (h:p:=by
  exact nx 2 Z (eXi _ (oi h1).symm (gE Z Z))):p:=h
theorem Bj (h:p:=by repeat (first|apply Ko Z|apply I6 Z|apply Ke Z Z|exact rfl)):p:=h
attribute [local irreducible] awp fV aX aK aS AV.sub M cv
def iv:Nat->Int->(List UInt8)->Option (List UInt8)|0,_,_=>none|m+1,c8,l9=>if c8<=122 then ck ((0:Int)<=c8/\(c8:Int)<256)<|ck ((c8:Int)<(l9.length:Int))<|ck ((0:Int)<=IntKind.wrap .i32 ((IntKind.wrap .i32 (c8-97))+65)/\(IntKind.wrap .i32 ((IntKind.wrap .i32 (c8-97))+65):Int)<256)<|ck ((IntKind.wrap .i32 ((IntKind.wrap .i32 (c8-97))+65):Int)<((l9.set c8.toNat (2:UInt8)).length:Int))<|iv m (IntKind.wrap .i32 (c8+1)) ((l9.set c8.toNat (2:UInt8)).set ((IntKind.wrap .i32 ((IntKind.wrap .i32 (c8-97))+65)).toNat) (2:UInt8))else some l9
def im:Nat->Int->(List UInt8)->Option (List UInt8)|0,_,_=>none|m+1,P3,l24=>if P3<=57 then ck ((0:Int)<=P3/\(P3:Int)<256)<|ck ((P3:Int)<(l24.length:Int))<|im m (IntKind.wrap .i32 (P3+1)) (l24.set P3.toNat (3:UInt8))else some l24
def io:Nat->Nat->(List UInt8)->Option (List UInt8)|0,_,_=>none|m+1,t37,l38=>if t37<([123,125,91,93,40,41,44,61,60,62,43,45,42,47,37,33,38,124,63,58,46]:Bk).length then ck ((([123,125,91,93,40,41,44,61,60,62,43,45,42,47,37,33,38,124,63,58,46]:Bk).getD t37 0).toNat<128)<|ck ((0:Int)<=((([123,125,91,93,40,41,44,61,60,62,43,45,42,47,37,33,38,124,63,58,46]:Bk).getD t37 0).toNat:Int)/\(((([123,125,91,93,40,41,44,61,60,62,43,45,42,47,37,33,38,124,63,58,46]:Bk).getD t37 0).toNat:Int):Int)<256)<|ck ((((([123,125,91,93,40,41,44,61,60,62,43,45,42,47,37,33,38,124,63,58,46]:Bk).getD t37 0).toNat:Int):Int)<(l38.length:Int))<|io m (t37+1) (l38.set (((([123,125,91,93,40,41,44,61,60,62,43,45,42,47,37,33,38,124,63,58,46]:Bk).getD t37 0).toNat:Int).toNat) (4:UInt8))else some l38
def nD (n:Nat):Option (List UInt8) :=(iv n 97 (uo 256)).bind λ l17=>(im n 48 l17).bind λ l30=>(io n 0 l30).bind λ l45=>ck ((0:Int)<=95/\(95:Int)<256)<|ck ((95:Int)<(l45.length:Int))<|ck ((0:Int)<=34/\(34:Int)<256)<|ck ((34:Int)<((l45.set ((95:Int).toNat) (2:UInt8)).length:Int))<|ck ((0:Int)<=35/\(35:Int)<256)<|ck ((35:Int)<(((l45.set ((95:Int).toNat) (2:UInt8)).set ((34:Int).toNat) (5:UInt8)).length:Int))<|ck ((0:Int)<=10/\(10:Int)<256)<|ck ((10:Int)<((((l45.set ((95:Int).toNat) (2:UInt8)).set ((34:Int).toNat) (5:UInt8)).set ((35:Int).toNat) (7:UInt8)).length:Int))<|ck ((0:Int)<=32/\(32:Int)<256)<|ck ((32:Int)<(((((l45.set ((95:Int).toNat) (2:UInt8)).set ((34:Int).toNat) (5:UInt8)).set ((35:Int).toNat) (7:UInt8)).set ((10:Int).toNat) (6:UInt8)).length:Int))<|ck ((0:Int)<=9/\(9:Int)<256)<|ck ((9:Int)<((((((l45.set ((95:Int).toNat) (2:UInt8)).set ((34:Int).toNat) (5:UInt8)).set ((35:Int).toNat) (7:UInt8)).set ((10:Int).toNat) (6:UInt8)).set ((32:Int).toNat) (1:UInt8)).length:Int))<|ck ((0:Int)<=13/\(13:Int)<256)<|ck ((13:Int)<(((((((l45.set ((95:Int).toNat) (2:UInt8)).set ((34:Int).toNat) (5:UInt8)).set ((35:Int).toNat) (7:UInt8)).set ((10:Int).toNat) (6:UInt8)).set ((32:Int).toNat) (1:UInt8)).set ((9:Int).toNat) (1:UInt8)).length:Int))<|ck (Nat.beq 256 (((((((l45.set ((95:Int).toNat) (2:UInt8)).set ((34:Int).toNat) (5:UInt8)).set ((35:Int).toNat) (7:UInt8)).set ((10:Int).toNat) (6:UInt8)).set ((32:Int).toNat) (1:UInt8)).set ((9:Int).toNat) (1:UInt8)).set ((13:Int).toNat) (1:UInt8)).length=true)<|ck (Nat.beq 256 (uo 256).length=true/\Nat.beq 256 (((((((l45.set ((95:Int).toNat) (2:UInt8)).set ((34:Int).toNat) (5:UInt8)).set ((35:Int).toNat) (7:UInt8)).set ((10:Int).toNat) (6:UInt8)).set ((32:Int).toNat) (1:UInt8)).set ((9:Int).toNat) (1:UInt8)).set ((13:Int).toNat) (1:UInt8)).length=true)<|some (((((((l45.set ((95:Int).toNat) (2:UInt8)).set ((34:Int).toNat) (5:UInt8)).set ((35:Int).toNat) (7:UInt8)).set ((10:Int).toNat) (6:UInt8)).set ((32:Int).toNat) (1:UInt8)).set ((9:Int).toNat) (1:UInt8)).set ((13:Int).toNat) (1:UInt8))
theorem sC (n:Nat)(r:(List UInt8))(h0:nD n=some r):aK Tryz.prog 81 [] (·=.p (.agg (r.map eU))):=by
 unfold nD at h0;refine bV good Tryz.func81 Z Z Z λ w0=>mP (λ v:(List UInt8)=>.p (.agg (v.map eU))) ?_;refine nx 2 Z (mO Z (xh eU (uo 256) Y Z Z Z Z (by kernel_rfl) Z Z ?_));refine nx 3 Z (mO Z (xh eU (uo 256) Y Z Z Z Z (by kernel_rfl) Z Bj ?_));refine nx 7 Z (bd h0 λ o65 h1 h0=>?_);refine kE 0 o65 (λ v66=>⟨[(0,.ptr 0 0),(1,.ptr 1 0)],[(0,((uo 256).map eU).map .p),(1,(v66.map eU).map .p)]⟩) ?_ ?_
 ·refine nx 7 Z (bd h0 λ Ow h1 h0=>?_);refine kE 2 Ow (λ Sg=>⟨[(0,.ptr 0 0),(1,.ptr 1 0)],[(0,((uo 256).map eU).map .p),(1,(Sg.map eU).map .p)]⟩) ?_ ?_
  ·refine nx 4 Z (mO Z (GV Z Z Z Z Z Z Z Bj ?_));refine nx 2 Z (bd h0 λ Pk h1 h0=>?_);refine kE 4 Pk (λ Sf=>⟨[(0,.ptr 0 0),(1,.ptr 1 0)],[(0,((uo 256).map eU).map .p),(1,(Sf.map eU).map .p)]⟩) ?_ ?_
   ·refine nx 3 Z (cc' h0 λ SF h0=>?_);refine cc' h0 λ RQ h0=>mO Z (dd Z Z Z Z Z Z Z Z Z SF ?_);refine mO Z (iw (f:=eU) (l:=Pk) (b:=(2:UInt8)) Z Z Z Z Z Z Z Z (by have:=(And.intro SF.1 RQ); first|omega|(dsimp only; omega)) ?_);refine cc' h0 λ Tc h0=>cc' h0 λ hk49 h0=>mO Z (dd Z Z Z Z Z Z Z Z Z Tc ?_);refine mO Z (iw (f:=eU) (l:=Pk.set ((95:Int).toNat) (2:UInt8)) (b:=(5:UInt8)) Z Z Z Z Z Z Z Z (by have:=(And.intro Tc.1 hk49); first|omega|(dsimp only; omega)) ?_);refine cc' h0 λ T1 h0=>cc' h0 λ T0 h0=>mO Z (dd Z Z Z Z Z Z Z Z Z T1 ?_);refine mO Z (iw (f:=eU) (l:=(Pk.set ((95:Int).toNat) (2:UInt8)).set ((34:Int).toNat) (5:UInt8)) (b:=(7:UInt8)) Z Z Z Z Z Z Z Z (by have:=(And.intro T1.1 T0); first|omega|(dsimp only; omega)) ?_);refine cc' h0 λ TZ h0=>cc' h0 λ SD h0=>mO Z (dd Z Z Z Z Z Z Z Z Z TZ ?_);refine mO Z (iw (f:=eU) (l:=((Pk.set ((95:Int).toNat) (2:UInt8)).set ((34:Int).toNat) (5:UInt8)).set ((35:Int).toNat) (7:UInt8)) (b:=(6:UInt8)) Z Z Z Z Z Z Z Z (by have:=(And.intro TZ.1 SD); first|omega|(dsimp only; omega)) ?_);refine nx 3 Z (cc' h0 λ UT h0=>?_);refine cc' h0 λ TY h0=>mO Z (dd Z Z Z Z Z Z Z Z Z UT ?_);refine mO Z (iw (f:=eU) (l:=(((Pk.set ((95:Int).toNat) (2:UInt8)).set ((34:Int).toNat) (5:UInt8)).set ((35:Int).toNat) (7:UInt8)).set ((10:Int).toNat) (6:UInt8)) (b:=(1:UInt8)) Z Z Z Z Z Z Z Z (by have:=(And.intro UT.1 TY); first|omega|(dsimp only; omega)) ?_);refine cc' h0 λ US h0=>cc' h0 λ TX h0=>mO Z (dd Z Z Z Z Z Z Z Z Z US ?_);refine mO Z (iw (f:=eU) (l:=((((Pk.set ((95:Int).toNat) (2:UInt8)).set ((34:Int).toNat) (5:UInt8)).set ((35:Int).toNat) (7:UInt8)).set ((10:Int).toNat) (6:UInt8)).set ((32:Int).toNat) (1:UInt8)) (b:=(1:UInt8)) Z Z Z Z Z Z Z Z (by have:=(And.intro US.1 TX); first|omega|(dsimp only; omega)) ?_);refine cc' h0 λ TW h0=>cc' h0 λ Tb h0=>mO Z (dd Z Z Z Z Z Z Z Z Z TW ?_);refine mO Z (iw (f:=eU) (l:=(((((Pk.set ((95:Int).toNat) (2:UInt8)).set ((34:Int).toNat) (5:UInt8)).set ((35:Int).toNat) (7:UInt8)).set ((10:Int).toNat) (6:UInt8)).set ((32:Int).toNat) (1:UInt8)).set ((9:Int).toNat) (1:UInt8)) (b:=(1:UInt8)) Z Z Z Z Z Z Z Z (by have:=(And.intro TW.1 Tb); first|omega|(dsimp only; omega)) ?_);refine nx 3 Z (cc' h0 λ RO h0=>?_);refine mO Z (EP eU (((((((Pk.set ((95:Int).toNat) (2:UInt8)).set ((34:Int).toNat) (5:UInt8)).set ((35:Int).toNat) (7:UInt8)).set ((10:Int).toNat) (6:UInt8)).set ((32:Int).toNat) (1:UInt8)).set ((9:Int).toNat) (1:UInt8)).set ((13:Int).toNat) (1:UInt8)) Z Z Z Z Z Z Z RO ?_);refine cc' h0 λ UR h0=>mO Z (Bb eU (uo 256) (((((((Pk.set ((95:Int).toNat) (2:UInt8)).set ((34:Int).toNat) (5:UInt8)).set ((35:Int).toNat) (7:UInt8)).set ((10:Int).toNat) (6:UInt8)).set ((32:Int).toNat) (1:UInt8)).set ((9:Int).toNat) (1:UInt8)).set ((13:Int).toNat) (1:UInt8)) Z Z Z Z Z Z Y UR.1 UR.2 ?_);exact nx 2 Z (mQ (oi h0) (Lh eU (((((((Pk.set ((95:Int).toNat) (2:UInt8)).set ((34:Int).toNat) (5:UInt8)).set ((35:Int).toNat) (7:UInt8)).set ((10:Int).toNat) (6:UInt8)).set ((32:Int).toNat) (1:UInt8)).set ((9:Int).toNat) (1:UInt8)).set ((13:Int).toNat) (1:UInt8)) Z Z Z Z Z RO) (sr))
   refine lG (λ (S7:Nat×(List UInt8))=>⟨[(0,.ptr 0 0),(1,.ptr 1 0),(22,.it 22 ([123,125,91,93,40,41,44,61,60,62,43,45,42,47,37,33,38,124,63,58,46]:Bk) S7.1)],[(0,((uo 256).map eU).map .p),(1,(S7.2.map eU).map .p)]⟩) (λ m (S7:Nat×(List UInt8))=>io m S7.1 S7.2) Y (0,Ow) h1 (gE rfl rfl) ?_;rintro m ⟨t37,l38⟩ h1;replace h1:io (m+1) t37 l38=some Pk:=h1;rw [io] at h1;refine nx 2 rfl (fD (p:=t37<([123,125,91,93,40,41,44,61,60,62,43,45,42,47,37,33,38,124,63,58,46]:Bk).length) [] h1 rfl (λ SN h1=>?_) λ SN h1=>?_)
   ·refine cc' h1 λ UV h1=>mO Z (Je Z Z Z Z Z Z SN UV Z Bj Z ?_);refine nx 13 Z (cc' h1 λ QK h1=>?_);refine cc' h1 λ Td h1=>mO Z (dd Z Z Z Z Z Z Z Z Z QK ?_);refine mO Z (iw (f:=eU) (l:=l38) (b:=(4:UInt8)) Z Z Z Z Z Z Z Z (by have:=(And.intro QK.1 Td); first|omega|(dsimp only; omega)) ?_);exact nx 1 Z (eX (t37+1,l38.set (((([123,125,91,93,40,41,44,61,60,62,43,45,42,47,37,33,38,124,63,58,46]:Bk).getD t37 0).toNat:Int).toNat) (4:UInt8)) h1 (gE Z Z))
   refine mO Z (F5 Z Z Z Z SN ?_);exact nx 5 Z (eXi _ (oi h1).symm (gE Z Z))
  refine lG (λ (UE:Int×(List UInt8))=>⟨[(0,.ptr 0 0),(1,.ptr 1 0),(3,.p (eK .i32 UE.1))],[(0,((uo 256).map eU).map .p),(1,(UE.2.map eU).map .p)]⟩) (λ m (UE:Int×(List UInt8))=>im m UE.1 UE.2) Y (48,o65) h1 (gE rfl rfl) ?_;rintro m ⟨P3,l24⟩ h1;replace h1:im (m+1) P3 l24=some Ow:=h1;rw [im] at h1;refine nx 6 rfl (fD [17] h1 rfl (λ QD h1=>?_) λ QD h1=>?_)
  ·refine nx 6 Z (cc' h1 λ PH h1=>?_);refine cc' h1 λ Rr h1=>mO Z (dd Z Z Z Z Z Z Z Z Z PH ?_);refine mO Z (iw (f:=eU) (l:=l24) (b:=(3:UInt8)) Z Z Z Z Z Z Z Z (by have:=(And.intro PH.1 Rr); first|omega|(dsimp only; omega)) ?_);exact nx 6 Z (eX (IntKind.wrap .i32 (P3+1),l24.set P3.toNat (3:UInt8)) h1 (gE Z Z))
  exact cH
 refine lG (λ (QJ:Int×(List UInt8))=>⟨[(0,.ptr 0 0),(1,.ptr 1 0),(2,.p (eK .i32 QJ.1))],[(0,((uo 256).map eU).map .p),(1,(QJ.2.map eU).map .p)]⟩) (λ m (QJ:Int×(List UInt8))=>iv m QJ.1 QJ.2) Y (97,uo 256) h1 (gE rfl rfl) ?_;rintro m ⟨c8,l9⟩ h1;replace h1:iv (m+1) c8 l9=some o65:=h1;rw [iv] at h1;refine nx 6 rfl (fD [7] h1 rfl (λ QF h1=>?_) λ QF h1=>?_)
 ·refine nx 9 Z (cc' h1 λ Qd h1=>?_);refine cc' h1 λ QM h1=>mO Z (dd Z Z Z Z Z Z Z Z Z Qd ?_);refine mO Z (iw (f:=eU) (l:=l9) (b:=(2:UInt8)) Z Z Z Z Z Z Z Z (by have:=(And.intro Qd.1 QM); first|omega|(dsimp only; omega)) ?_);refine cc' h1 λ Rs h1=>cc' h1 λ RS h1=>mO Z (dd Z Z Z Z Z Z Z Z Z Rs ?_);refine mO Z (iw (f:=eU) (l:=l9.set c8.toNat (2:UInt8)) (b:=(2:UInt8)) Z Z Z Z Z Z Z Z (by have:=(And.intro Rs.1 RS); first|omega|(dsimp only; omega)) ?_);exact nx 6 Z (eX (IntKind.wrap .i32 (c8+1),(l9.set c8.toNat (2:UInt8)).set ((IntKind.wrap .i32 ((IntKind.wrap .i32 (c8-97))+65)).toNat) (2:UInt8)) h1 (gE Z Z))
 exact cH
theorem Jp (h:p:=by exact mQo (oi h0) (aJ _) Z Z Z (aF Z (aG _) Z) (sr) ⟨⟨_,Z,aV _⟩,trivial⟩):p:=h
theorem tq:nD 64=some jm:=by kernel_rfl
def iu (NN:Bk):Option ab:=some (.mk NN 0 (-1) (.mk 0 0 []))
theorem ab.ones (x:ab):PV.onesB (ab.cs x)=true:=by kernel_rfl
theorem lR (NN:Bk)(r:ab)(h0:iu NN=some r):aS Tryz.prog 46 [.p (eS NN)] [] (λ x y=>x=.ptr 2000000 0/\y=[(2000000,(ab.cs r).map .p)]):=by
 unfold iu at h0;refine bT good [6] [6] Tryz.func46 Z Z Z Z Z λ w0 F=>mPo (λ _:ab=>.ptr 2000000 0) (λ v=>[(2000000,(ab.cs v).map .p)]) ?_;refine nx 7 Z ?_;refine oK (sC 64 _ tq) Z trivial Tryz.call81 Z ?_;refine mO Z (gV (cs:=(ab.cs (.mk NN 0 (-1) (.mk 0 0 []))).map .p) (y:=.p (.agg (ab.cs (.mk NN 0 (-1) (.mk 0 0 []))))) Z Z Z Z Z Z Z (by kernel_rfl) (by simp only [lq,ws]) ?_);refine mO Z (KW (ab.cs (.mk NN 0 (-1) (.mk 0 0 []))) Z Z Z Z (ab.ones _) Z Z ?_);exact nx 4 Z Jp
end Go.Ab.R06
end
section
namespace Go.Ab
variable {p:Prop}
theorem FT (h:p:=by
 simp only [bodyPostD,hd',Leaves]; exact ⟨v,hv w',fin p1 p2 p3 hS hr⟩):p:=h
structure PreO (w:World)(g:Gh):Prop where
 ok:Ok0 w g.st
 own:∀ i b,g.ow i=some b->b<w.heap.size/\i<2*M1
 inj:∀ i j b,g.ow i=some b->g.ow j=some b->i=j
 nst:∀ i b,M1<=i->g.ow i=some b->∀ o,¬ g.st b o
def LI (w:World)(g:Gh)(R:AV->List (Nat×List AV)->Prop)(v:Value)(w':World):Prop :=∃ r obs' g',R r obs'/\ARep w' g' r v/\(∀ p∈obs',iX w' g' p.1 p.2)/\nv w g w' g'
def A7 (P:Program)(f:FuncId)(args:List AV)(Of:List (Nat×List AV))(R:AV->List (Nat×List AV)->Prop):Prop :=∀ (w:World) (g:Gh) (vs:Array Value) (u:FrameMode),PreO w g->vs.size=args.length->(∀ (i:Nat) c v,args[i]? = some c->vs[i]? = some v->ARep w g c v)->(∀ id cs,look Of id=some cs->iX w g id cs) -> CallsD P f vs u w λ e u' w'=>u'=u/\∃ v,e=.returned v/\LI w g R v w'
theorem Ms {P:Program}{tt:List (Nat×TI)}(good:dA P tt){f:FuncId}{fn:Func}{c:Code}{args:List AV}{Of rob:List (Nat×List AV)}{r:AV}(ts ids:List Nat)(hf:P.funcs[f]? = some fn)(hb:fn.body=some c)
  (hn:Nat.ble args.length fn.ntmps=true) (hnl:Nat.ble fn.ntmps M1=true) (hts:ts.all (λ i=>Nat.blt i M1)=true) (hnd:nodupB ts=true)
  (h:∀ w0 F,awp ⟨P,tt,good,fn.ntmps,hnl,w0,F⟩ c (wT ⟨P,tt,good,fn.ntmps,hnl,w0,F⟩ tt fn ts ids r rob) ⟨gK args,Of⟩):A7 P f args Of (λ x y=>x.sub r/\leO y rob) :=
 λ _ _ _ _ hp h1 h2 h3=>(callsD_of_wp hf hb (rM good ts ids (ld hn) hnl hts hnd (λ w0 F=>tz (h w0 F)) hp.ok hp.own hp.inj hp.nst h1 h2 h3)).mono
  λ _ _ _ ⟨hu,v,r,obs',g',he,hR,e1,e2,e3⟩=>⟨hu,v,he,r,obs',g',hR,e1,e2,e3⟩
def Nr:Option Code->Code|some (.seq _ (.seq _ B))=>B|_=>.skip
def H4 (P:Program)(fn:Func)(B:Code)(sl:List (Nat×AV))(Of:List (Nat×List AV))(R:AV->List (Nat×List AV)->Prop):Prop :=∀ (w:World) (g:Gh) (a:Act),PreO w g->a.tmps.size=fn.ntmps->(∀ i,ARep w g ((⟨sl,Of⟩:AS).get i) (a.tmps.getD i Go.undef))->(∀ id cs,look Of id=some cs->iX w g id cs) -> B.wp P (λ e a' w'=>(e=.normal\/e=.ret)/\a'.defers=a.defers/\∃ v,(∀ w2,(results fn a'.tmps).run P w2=.ok v w2)/\LI w g R v w') a w
theorem GT {P:Program}{tt:List (Nat×TI)}(good:dA P tt){fn:Func}{B:Code}{t:Nat}{sl:List (Nat×AV)}{Of rob:List (Nat×List AV)}{r:AV}(ids:List Nat)(hres:fn.results.toList=[.tmp t])(hnl:Nat.ble fn.ntmps M1=true)
  (h:∀ w0 F,awp ⟨P,tt,good,fn.ntmps,hnl,w0,F⟩ B (wT ⟨P,tt,good,fn.ntmps,hnl,w0,F⟩ tt fn [] ids r rob) ⟨sl,Of⟩):H4 P fn B sl Of (λ x y=>x.sub r/\leO y rob):=by
 intro w g a hp NR NI hobs
 have hs:St fn.ntmps ⟨w,g.st,g.ow,hp.ok.gl,(λ i b h=>Nat.lt_of_lt_of_le (hp.own i b h).2 xb),a.defers⟩ (λ b=>b<w.heap.size/\∀ i,g.ow i≠some b) g ⟨sl,Of⟩ a w :=
  ⟨Z,NR,NI,hobs,hp.inj,λ i b hi=>⟨(hp.own i b hi).1,λ h=>h.2 i hi⟩,hp.ok.lt,λ b h=>h.1,λ b h=>rfl,Z,Z,Z,bt _,λ b _ o=>Iff.rfl,λ _ _ _=>rfl,jP.refl _ _,λ i b hi h=>hp.nst i b hi h,Ev.refl _ _⟩
 refine wp_mono (tz (h _ _) g a w hs) ?_;rintro e a' w' ⟨g1,s',h3,he,l,r1,obs1,obs',hl,hr,hpk,hm,hR⟩;obtain ⟨v,hv,hvr⟩:=om good h3 fn l hl
 have hrun:∀ w2,(results fn a'.tmps).run P w2=.ok (a'.tmps.getD t Go.undef) w2:=λ w2=>by
  rw [u7,Array.mapM_eq_mapM_toList,hres];simp [yU]
 obtain ⟨g',e1,e2,e3⟩:=yO [] ids Z Z hp.own h3 hvr hr hpk hm
 have:v=a'.tmps.getD t Go.undef:=by
  have:=(hrun w').symm.trans hv
  injection this with h1 _
  exact h1.symm
 exact ⟨he,h3.nd,v,λ w2=>by rw [this]; exact hrun w2,_,_,g',hR,e1,e2,e3⟩
theorem zw:∀ {js:List Nat} {q:List AV} {i:Nat} {c:AV},look (js.zip q) i=some c->∃ k:Nat,js[k]? = some i/\q[k]? = some c
 | [],_,_,_,h=>by simp [look] at h
 | _::_,[],_,_,h=>by simp [look] at h
 | j::js,x::q,i,c,h=>by
  rw [List.zip_cons_cons,a6] at h;by_cases e:j=i
  ·rw [if_pos e] at h; cases h; exact ⟨0,by simp [e],rfl⟩
  ·rw [if_neg e] at h;obtain ⟨k,h1,h2⟩:=zw h;exact ⟨k+1,by simpa using h1,by simpa using h2⟩
theorem tT:∀ l:List AV,nj l l
 | []=>trivial
 | x::r=>⟨AV.sub_refl x,tT r⟩
theorem HS {C:Cx}{fn:Func}{B:Code}{sl:List (Nat×AV)}{ob:List (Nat×List AV)}(ids NS:List Nat)(NB NE:Nat)(js:List Nat){l l':List AV}{Of qo rob ob':List (Nat×List AV)}{r r':AV}(hnt:C.n=fn.ntmps)
  (hB:H4 C.P fn B (js.zip l') qo (λ x y=>x.sub r/\leO y rob)) (hl:j8 sl (js.map .tmp)=some l) (hl':AV.mapA.go (lO ids NS) l=some l') (hpk:iQ ob ids=some Of) (hmo:iK (lO ids NS) Of=some qo) (hqq:leO qo qo)
  (hnd:nodupB ids=true) (hids:ids.all (λ i=>Nat.blt i (2*M1))=true) (hil:Nat.ble ids.length M1=true) (hdl:Nat.ble NE M1=true) (hdis:ids.all (λ i=>!(dp NS NB NE i))=true)
  (hvd:nodupB NS=true) (hvl:NS.all (λ i=>Nat.blt i M1)=true) (hvn:Nat.ble NS.length 100000=true) (hr:r.mapA (lD ids NB NE)=some r') (hro:iK (lD ids NB NE) rob=some ob')
  {g:Gh} {a a2:Act} {w:World} (hs:St C.n C.w0 C.F g ⟨sl,ob⟩ a w) (ht:a2.tmps=a.tmps) :
  B.wp C.P (λ e a' w'=>(e=.normal\/e=.ret)/\a'.defers=a2.defers/\∃ v,(∀ w2,(results fn a'.tmps).run C.P w2=.ok v w2)/\∃ g2,St C.n C.w0 C.F g2 ⟨(cq (dp NS NB NE) ⟨sl,ob⟩).sl,ob'++(cq (dp NS NB NE) ⟨sl,ob.filter λ p=>!(ids.any (Nat.beq p.1))⟩).ob⟩ a w'/\ARep w' g2 r' v) a2 w:=by
 obtain ⟨a1,a1'⟩:=jk hs _ l hl;have NK:(js.map λ j=>a.eval (.tmp j)).length=l.length:=by simpa using a1.symm
 obtain ⟨gc,⟨k1,k2,k3,k4,k5,k6,k7⟩,hpost⟩:=q9 ids NS NB NE hl' (tT l') hpk hmo hqq hnd hids hil hdl hdis hvd hvl hvn hs (avs:=(js.map λ j=>a.eval (.tmp j)).toArray) pK
  (λ i c v hc hv=>a1' i c v hc (by simpa using hv))
 refine wp_mono (hB w gc a2 ⟨k1,k2,k3,k4⟩ (by rw [ht,hs.sz,hnt]) (λ i=>?_) k7) ?_
 ·unfold AS.get
  cases hq:look (js.zip l') i with
  | none=>exact .undef _
  | some c=>
   obtain ⟨k,h1,h2⟩:=zw hq;simp only [n9];refine k6 k c _ h2 ?_;have:a2.tmps.getD i Go.undef=a.eval (.tmp i):=by rw [ht]; rfl
   rw [this];simp [h1]
 ·rintro e a' w' ⟨he,hd,v,hv,x,y,g',⟨hx,hy⟩,e1,e2,e3⟩
  obtain ⟨g2,f1,f2⟩:=hpost w' v r r' rob ob' g' (hx _ _ _ e1) (λ p hp=>by
   obtain ⟨ds,m1,m2⟩:=uI hy p hp
   exact qd (e2 (p.1,ds) (ii m1)) m2) e3 hr hro
  exact ⟨he,hd,v,hv,g2,f1,f2⟩
theorem MH {C:Cx}{k:FuncId}{sl:List (Nat×AV)}{ob:List (Nat×List AV)}(ids NS:List Nat)(NB NE:Nat)(j:Nat){x:AV}{l':List AV}{Of qo rob ob':List (Nat×List AV)}{r r':AV}{u:FrameMode}
  (hD:A7 C.P k l' qo (λ x y=>x.sub r/\leO y rob)) (hl:look sl j=some x) (hl':AV.mapA.go (lO ids NS) [x]=some l') (hpk:iQ ob ids=some Of) (hmo:iK (lO ids NS) Of=some qo) (hqq:leO qo qo)
  (hnd:nodupB ids=true) (hids:ids.all (λ i=>Nat.blt i (2*M1))=true) (hil:Nat.ble ids.length M1=true) (hdl:Nat.ble NE M1=true) (hdis:ids.all (λ i=>!(dp NS NB NE i))=true)
  (hvd:nodupB NS=true) (hvl:NS.all (λ i=>Nat.blt i M1)=true) (hvn:Nat.ble NS.length 100000=true) (hr:r.mapA (lD ids NB NE)=some r') (hro:iK (lD ids NB NE) rob=some ob')
  {g:Gh} {a:Act} {w:World} (hs:St C.n C.w0 C.F g ⟨sl,ob⟩ a w) :
  CallsD C.P k #[a.eval (.tmp j)] u w λ e u' w'=>u'=u/\∃ v,e=.returned v/\∃ g2,St C.n C.w0 C.F g2 ⟨(cq (dp NS NB NE) ⟨sl,ob⟩).sl,ob'++(cq (dp NS NB NE) ⟨sl,ob.filter λ p=>!(ids.any (Nat.beq p.1))⟩).ob⟩ a w':=by
 have hx:ARep w g x (a.eval (.tmp j)):=bv hs (x:=.tmp j) hl
 obtain ⟨gc,⟨k1,k2,k3,k4,k5,k6,k7⟩,hpost⟩:=q9 ids NS NB NE hl' (tT l') hpk hmo hqq hnd hids hil hdl hdis hvd hvl hvn hs (avs:=#[a.eval (.tmp j)]) rfl
  (λ i c v hc hv=>by
   match i,hc,hv with
   | 0,hc,hv=>simp at hc hv; subst hc hv; exact hx)
 refine (hD w gc _ u ⟨k1,k2,k3,k4⟩ k5 k6 k7).mono ?_;rintro e u' w' ⟨hu,v,he,x,y,g',⟨hx,hy⟩,e1,e2,e3⟩
 obtain ⟨g2,f1,_⟩:=hpost w' v r r' rob ob' g' (hx _ _ _ e1) (λ p hp=>by
   obtain ⟨ds,m1,m2⟩:=uI hy p hp
   exact qd (e2 (p.1,ds) (ii m1)) m2) e3 hr hro
 exact ⟨hu,v,he,g2,f1⟩
theorem Kn {P:Program}{tt:List (Nat×TI)}(good:dA P tt){f k:FuncId}{fn:Func}{args:List AV}{Of rob:List (Nat×List AV)}{c:Value}{R0 R1 R2 B:Code}{rid t j q:Nat}{o1 o2:Oper}{s0 s1 s2:AS}{b:Bool}(ids:List Nat)
  (hf:P.funcs[f]? = some fn) (hb:fn.body=some (.seq R0 (.seq (.seq R1 (.cond (.tmp t) (.seq R2 (.region rid #[o1,o2] false)) .skip)) B)))
  (hn:Nat.ble args.length fn.ntmps=true) (hnl:Nat.ble fn.ntmps M1=true)
  (h0:∀ w0 F,awp ⟨P,tt,good,fn.ntmps,hnl,w0,F⟩ R0 (λ e s=>e=.normal/\s=s0) ⟨gK args,Of⟩)
  (h1:∀ w0 F,awp ⟨P,tt,good,fn.ntmps,hnl,w0,F⟩ R1 (λ e s=>e=.normal/\s=s1) s0) (hc:evo s1.sl (.tmp t)=some (.p (eB b)))
  (hF:b=false->∃ sE obs1 obs2,iQ sE.ob ids=some obs1/\iK (mH []) obs1=some obs2/\leO obs2 rob/\∀ w0 F g a a2 w,St fn.ntmps w0 F g s1 a w->a2.tmps=a.tmps ->
   B.wp P (λ e a' w'=>(e=.normal\/e=.ret)/\a'.defers=a2.defers/\∃ v,(∀ w2,(results fn a'.tmps).run P w2=.ok v w2)/\∃ g2,St fn.ntmps w0 F g2 sE a w'/\ARep w' g2 (.p (.val c)) v) a2 w)
  (hT:b=true->(∀ w0 F,awp ⟨P,tt,good,fn.ntmps,hnl,w0,F⟩ R2 (λ e s=>e=.normal/\s=s2) s1)/\(o1.op=.makeFunc (.func k) #[] #[.tmp j]/\o1.dst=some q/\Nat.blt q fn.ntmps=true/\o1.guard=none/\o2.op=.defer { callee:=.value (.tmp q),args:=#[],argTypes:=#[] }/\o2.dst=none/\o2.guard=none/\Nat.beq j q=false) /\
   (∀ vs w,(callFunc k vs).run P w=.ok (.enter k vs) w)/\∃ sE sD obs1 obs2 x,look s2.sl j=some x/\iQ sD.ob ids=some obs1/\iK (mH []) obs1=some obs2/\leO obs2 rob /\
    (∀ w0 F g a a2 w,St fn.ntmps w0 F g ⟨(q,.func (.func k) [x])::s2.sl,s2.ob⟩ a w->a2.tmps=a.tmps ->
     B.wp P (λ e a' w'=>(e=.normal\/e=.ret)/\a'.defers=a2.defers/\∃ v,(∀ w2,(results fn a'.tmps).run P w2=.ok v w2)/\∃ g2,St fn.ntmps w0 F g2 sE a w'/\ARep w' g2 (.p (.val c)) v) a2 w) /\
    ∀ w0 F g a w u,St fn.ntmps w0 F g sE a w->CallsD P k #[a.eval (.tmp j)] u w λ e u' w'=>u'=u/\∃ v,e=.returned v/\∃ g2,St fn.ntmps w0 F g2 sD a w') :
  aS P f args Of (λ x y=>x=.p (.val c)/\y=rob):=by
 refine aS.of_sub ?_;intro w g vs hlt hown hinj hnst k1 k2 hobs;refine calls_of_wp_defers hf hb ?_;have hn':=ld hn
 have hs:St fn.ntmps ⟨w,g.st,g.ow,hlt.gl,(λ i b h=>Nat.lt_of_lt_of_le (hown i b h).2 xb),[]⟩ (λ b=>b<w.heap.size/\∀ i,g.ow i≠some b) g ⟨gK args,Of⟩ { tmps:=vs++Array.replicate (fn.ntmps-vs.size) Go.undef,defers:=[] } w:=by
  refine ⟨Z,?_,?_,hobs,hinj,?_,hlt.lt,?_,?_,Z,Z,Z,bt _,λ b _ o=>Iff.rfl,λ _ _ _=>rfl,jP.refl _ _,λ i b hi h=>hnst i b hi h,Ev.refl _ _⟩
  ·exact yH
  ·intro i;have:=pS args 0 i;simp only [AS.get,gK,this,qr,if_true,Nat.sub_zero]
   cases ha:args[i]? with
   | none=>exact .undef _
   | some x=>
    have hi:i<args.length:=(List.getElem?_eq_some_iff.1 ha).1;have hi2:i<vs.size:=by omega
    have e:(vs++Array.replicate (fn.ntmps-vs.size) Go.undef).getD i Go.undef=vs[i]:=by
     simp [Array.getD_eq_getD_getElem?,Array.getElem?_append,hi2]
    simp only [n9];rw [e];exact k2 i x _ ha (Array.getElem?_eq_getElem hi2)
  ·intro i b hi; exact ⟨(hown i b hi).1,λ h=>h.2 i hi⟩
  ·intro b h; exact h.1
  ·intro b h; rfl
 -- behind everything: what is handed back
 have fin:∀ {sE:AS} {obs1 obs2:List (Nat×List AV)} {a:Act} {w':World} {g2:Gh} {v:Value},iQ sE.ob ids=some obs1->iK (mH []) obs1=some obs2->leO obs2 rob ->
   St fn.ntmps ⟨w,g.st,g.ow,hlt.gl,(λ i b h=>Nat.lt_of_lt_of_le (hown i b h).2 xb),[]⟩ (λ b=>b<w.heap.size/\∀ i,g.ow i≠some b) g2 sE a w'->ARep w' g2 (.p (.val c)) v ->
   ∃ v1 r obs' g',Ending.returned v=.returned v1/\(AV.sub r (.p (.val c))/\leO obs' rob)/\ARep w' g' r v1/\(∀ p∈obs',iX w' g' p.1 p.2)/\nv w g w' g':=by
  intro sE obs1 obs2 a w' g2 v p1 p2 p3 hS hv;obtain ⟨g',e1,e2,e3⟩:=yO [] ids Z Z hown hS hv rfl p1 p2;exact ⟨v,_,_,g',rfl,⟨AV.sub_refl _,p3⟩,e1,e2,e3⟩
 refine wp_seq (wp_mono (h0 _ _ g _ w hs) ?_);rintro e a0 w0 ⟨g0,s0',hs0,rfl,rfl⟩;refine wp_seq (wp_seq (wp_mono (h1 _ _ g0 a0 w0 hs0) ?_));rintro e a1 w1 ⟨g1,s1',hs1,rfl,rfl⟩;have hcv:a1.eval (.tmp t)=.bool b:=co hs1 hc
 cases hbb:b with
 | false=>
  subst hbb;refine wp_cond_false hcv (wp_skip ?_);obtain ⟨sE,obs1,obs2,p1,p2,p3,hB⟩:=hF rfl;refine wp_mono (hB _ _ g1 a1 a1 w1 hs1 rfl) ?_;rintro e a' w' ⟨he,hd,v,hv,g2,hS,hr⟩;have hd':a'.defers=[]:=hd.trans hs1.nd;rcases he with rfl|rfl
  ·exact FT
  ·exact FT
 | true=>
  subst hbb;obtain ⟨h2,⟨m1,m2,m3,m4,m5,m6,m7,m8⟩,hen,sE,sD,obs1,obs2,x,hj,p1,p2,p3,hB,hD⟩:=hT rfl;refine wp_cond_true hcv (wp_seq (wp_mono (h2 _ _ g1 a1 w1 hs1) ?_));rintro e a2 w2 ⟨g2,s2',hs2,rfl,rfl⟩;refine wp_region ?_;have hx:ARep w2 g2 x (a2.eval (.tmp j)):=bv hs2 (x:=.tmp j) hj;have hq:q<fn.ntmps:=d3 ▸ m3;have e1:(execOp a2.eval o1).run P w2=.ok (.value (.func (.func k) #[] #[a2.eval (.tmp j)])) w2:=by simp [execOp,m1,Instr.makeFunc,Act.eval]
  have hs3:=hs2.put (d:=some q) (λ t ht=>by cases ht; exact hq) (x:=.func (.func k) [x]) (v:=.func (.func k) #[] #[a2.eval (.tmp j)]) (.func rfl λ i c v hc hv=>by
   match i,hc,hv with
   | 0,hc,hv=>simp at hc hv; subst hc hv; exact hx)
  obtain ⟨a3,ha3⟩:∃ a3,a3=a2.put (some q) (.func (.func k) #[] #[a2.eval (.tmp j)]):=⟨_,rfl⟩
  rw [<- ha3] at hs3
  have hqv:a3.eval (.tmp q)=.func (.func k) #[] #[a2.eval (.tmp j)]:=by
   have:q<a2.tmps.size:=by rw [hs2.sz]; exact hq
   rw [ha3]; simp [Act.put,Act.eval,Array.getD,this]
  have hjq:a3.eval (.tmp j)=a2.eval (.tmp j):=by
   have Ob:q≠j:=λ e=>by subst e; simp at m8
   rw [ha3]; simp only [Act.put,Act.eval,Array.getD_eq_getD_getElem?,Array.getElem?_setIfInBounds,if_neg Ob]
  have e2:(execOp a3.eval o2).run P w2=.ok (.defer { target:=.fn (.func k) #[a2.eval (.tmp j)],args:=#[] }) w2:=by simp [execOp,m5,resolve,hqv,Deferred.ofValue]
  have hr:List.range (#[o1,o2]:Array Oper).size=[0,1]:=rfl;rw [hr];have g0':(#[o1,o2]:Array Oper)[0]? = some o1:=rfl;have g1':(#[o1,o2]:Array Oper)[1]? = some o2:=rfl;simp only [wpOps,g0',g1',Region.wanted,m4,m7,if_true];refine .inl ?_;unfold Oper.wp;rw [e1];simp only [Oper.upon,m2];rw [<- ha3];refine .inl ?_;rw [e2];simp only [m6,Act.put];refine wp_mono (hB _ _ g2 a3 { a3 with defers:={ target:=.fn (.func k) #[a2.eval (.tmp j)],args:=#[] }::a3.defers } w2 hs3 rfl) ?_;rintro e a' w' ⟨he,hd,v,hv,g3,hS,hrv⟩;have hnd:a3.defers=[]:=hs3.nd;rw [hnd] at hd
  have key:Leaves P fn a'.tmps (λ e w'=>∃ v r obs' g',e=.returned v/\(AV.sub r (.p (.val c))/\leO obs' rob)/\ARep w' g' r v/\(∀ p∈obs',iX w' g' p.1 p.2)/\nv w g w' g') a'.defers .returning w':=by
   rw [hd];refine leaves_cons (f:=k) (args:=#[a2.eval (.tmp j)]) G (by simp [invoke,hen]) ?_;have:=hD _ _ g3 a3 w' .returning hS;rw [hjq] at this;refine this.mono ?_;rintro e u' w'' ⟨hu,v2,he2,g4,hS4⟩;subst hu he2;simp only [settle,Leaves];refine ⟨v,hv w'',fin p1 p2 p3 hS4 ?_⟩
   cases hrv with
   | p hrv=>cases hrv; exact .p (.val _)
  rcases he with rfl|rfl
  ·exact key
  ·exact key
theorem mR {C:Cx}{c:Code}{s t:AS}(h:M C (λ e s=>e=.normal/\s=t) ⟨.cd c,[],s⟩):awp C c (λ e s=>e=.normal/\s=t) s:=tz h
theorem mE {C:Cx}{s t:AS}(h:cv C s t):M C (λ e s=>e=.normal/\s=t) ⟨.ex .normal,[],s⟩:=⟨t,h,Z,Z⟩
end Go.Ab
end
section
namespace Go.Ab.R06
open Go.Proofs Go.Ab Go.Ab.RB
attribute [local irreducible] awp fV aX aK aS AV.sub M cv
theorem mW (x:ab):A7 Tryz.prog 111 [.ptr 1000000 0] [(1000000,[.ptr 1000001 0]),(1000001,(ab.cs x).map .p)] (λ a b=>a.sub (.tuple [])/\leO b [(1000000,[.ptr 1000001 0]),(1000001,(ab.cs (.mk x.fs x.fat (-1) x.AI)).map .p)]):=by
 refine Ms good [] [1000000,1000001] Tryz.func111 Z Z Z Z Z λ w0 F=>mPo (v0:=ab.mk x.fs x.fat (-1) x.AI) (λ _:ab=>.tuple []) (λ v=>[(1000000,[.ptr 1000001 0]),(1000001,(ab.cs v).map .p)]) ?_;refine nx 4 Z (mO Z (fv Z Z Z Z Z Z Z Z (ab.b_outer _) (ab.u_outer _) ?_));exact nx 1 Z (Jt Z (aJ _) Z Z Z (aF Z Z BK) (sr) ⟨⟨_,Z,⟨sr,trivial⟩⟩,Mx,trivial⟩)
end Go.Ab.R06
end
section
namespace Go.Ab
variable {p:Prop}
theorem BR (h:p:=by
 have:=bx hq; have:=zX hi; omega):p:=h
theorem Ic (h:p:=by
 have Ob:b2≠b:=λ e=>(hs.own tok b how).2 (e ▸ h)
 exact (setRow_other w b b2 c' Ob).trans (hs.fr b2 h)):p:=h
theorem Hj (h:p:=by
 simp [execOp,ho,NZ,Instr.storeAt,Instr.sureAddr,storeVar,hsz',Ob,hstc]):p:=h
theorem Ge (h:p:=by
 simp only [List.getElem?_map,mv] at hy;obtain ⟨y0,hy0,rfl⟩:=hy;obtain ⟨u,hu,hr⟩:=n5 j y0 hy0
 exact ⟨u,hu,hup hr⟩):p:=h
theorem HE (h:p:=by
 simp only [AV.cellsA] at hc
 cases ho:PV.onesB cs
 ·rw [ho] at hc; cases hc
 ·exact .inl ho):p:=h
theorem IL (h:p:=by
 intro j;rw [hc'];have:=jg c.toList (a.eval v).cells.toList p (by simp; omega) j;simp only [Array.length_toList,Array.getElem?_toList,Ob] at this
 simpa [Ob] using this):p:=h
theorem HG (h:p:=by
 cases hq:Nat.beq id' tok
 ·rfl
 ·exact absurd (bx hq) hne'):p:=h
theorem H5 (h:p:=by
 intro u hu;obtain ⟨j,hj,rfl⟩:=List.getElem_of_mem hu;simp only [Array.length_toList] at hj
 exact (hs2 j ((z.cells.map AV.p)[j]'(by simp; omega)) _ (List.getElem?_eq_getElem (by simp; omega)) (by simp [hj])).2):p:=h
theorem Cp (h:p:=by
 have h7:=NY o2;rw [if_neg O] at h7
 simpa using h7):p:=h
theorem BS (h:p:=by
 have hi:=bx hb;refine ⟨h1,ds,?_,h3⟩;rw [a6,if_neg (λ e'=>h1 O)]
 exact h2):p:=h
theorem Fp (h:p:=by
 simp only [AV.cellsA] at hc;rename_i v0
 cases ho:v0.oneCell'
 ·rw [ho] at hc; cases hc
 ·exact .inr ho):p:=h
theorem FM (h:p:=by
 have h:=hs.sl j;simp only [AS.get,iy];simp only [AS.get] at h
 cases hl:look sl j with
 | none=>simp only [Option.map_none,Option.getD_none]; exact .undef _
 | some x=>rw [hl] at h; simpa using hup h):p:=h
theorem G1 (h:p:=by
 unfold Oper.wp;rw [hrun0 _ _ hr];simp only [Oper.upon,hd]
 exact ⟨g',_,N7,hK⟩):p:=h
theorem IB (h:p:=by exact ⟨c2,(setRow_other w b b2 c' (Rp id b2 hD h)).trans h2,Z⟩):p:=h
theorem DI {w:World}{g:Gh}{tok sz ty:Nat}{es:List PV}{b off cap:Nat}(h:ARep w g (.vec tok sz ty es) (.slice (some ⟨b,off,none⟩) es.length cap))(hc:es.length+1<=cap) :
  ARep w g (.vecp tok sz ty es) (.slice (some ⟨b,off,none⟩) (es.length+1) cap):=by
 generalize hv:Value.slice (some ⟨b,off,none⟩) es.length cap=v at h
 cases h with
 | vecn=>cases hv
 | vece _ _ a=>injection hv with _ _ h3; omega
 | vec how hb N0 NR N7 hr hty=>
  injection hv with h1 h2 h3
  injection h1 with h1
  injection h1 with h4 h5
  subst h3 h4 h5;exact .vecp how hb N0 hc NR N7 hr hty
section
variable {C:Cx} {o:Oper} {K:AS->Prop} {sl:List (Nat×AV)} {ob:List (Nat×List AV)} {d:Nat}
theorem nP (ty0:Nat){es ys:List PV}{t tx e:TypeId}{i ie:TI}{y:Operand}(D:Nat->Bool)(hDl:∀ i,D i=true->i<M1)(hDd:D d=true)(hy1:ys.length=1)
  (hi:look C.tt t=some i) (N4:i.k=.slice e) (hie:look C.tt e=some ie)
  (hS:xJ C sl ob tx y ie.size ys) (hzl:ie.zero.length=ie.size)
  (NK:(es.length+ys.length)*ie.bytes<=140737488355328) (hlen':es.length+ys.length<=9223372036854775807)
  {g:Gh} {a:Act} {w:World} (hs:St C.n C.w0 C.F g ⟨sl,ob⟩ a w) (base:Option Addr) (cap:Nat) (olds:List Value)
  (hold:(Builtin.firstCells ie.size es.length (.slice base es.length cap)).run C.P w.drew=.ok olds.toArray w.drew) (hol:olds.length=es.length*ie.size)
  (hes:∀ e,e∈es->e.cells.length=ie.size)
  (hoc:∀ (i:Nat) y (j:Nat) x,es[i]? = some y->y.cells[j]? = some x->x.one=true/\∃ u,olds[i*ie.size+j]? = some u/\PRep w g.st x u)
  (hg:cap<es.length+ys.length) (ty:TypeId) (hn:Nat.blt d C.n=true) (hty:ty0=0\/ty0=e+1) :
  ∃ v w' g',(Builtin.append_ #[t,tx] ty #[.slice base es.length cap,a.eval y]).run C.P w=.ok v w' /\
   St C.n C.w0 C.F g' ⟨(d,.vecp d ie.size ty0 es)::(cq D ⟨sl,ob⟩).sl,(cq D ⟨sl,ob⟩).ob⟩ (a.put (some d) v) w':=by
 obtain ⟨u,h1,h2⟩:=bA C.good hi;have h3:=bC (h2.trans N4);subst h3;obtain ⟨info,hf1,hf2,hf3,z,hf4,hf5⟩:=ib C.good hie;obtain ⟨news,hsrc,hnews⟩:=hS g a w hs;have hfit:=growslice_fits (bytes:=ie.bytes) hg NK;have hrun:=run_append_grow_src w t tx ty e info z h1 hf1 hf4 base es.length cap olds (by rw [hf2]; exact hold) (a.eval y) ys.length news rk hg O (by rw [hf3]; exact hfit);obtain ⟨q,hq⟩:∃ q,q=grownCap w (es.length+ys.length) cap e:=⟨_,rfl⟩
 rw [<- hq] at hrun
 have hqn:es.length+ys.length<=q:=by
  exact C4
 have hzs:z.cells.size=ie.size:=by rw [<- hzl,<- hf5,Array.length_toList]
 obtain ⟨c,hc⟩:∃ c,c=(olds++news).toArray++Builtin.zeroCells z.cells (q-(es.length+ys.length)):=⟨_,rfl⟩
 rw [<- hc] at hrun
 have N0:c.size=q*ie.size:=by
  exact Ho
 have hget:∀ m,m<es.length*ie.size->c[m]? = olds[m]?:=by
  intro m hm;rw [hc,Array.getElem?_append];simp only [List.size_toArray,la,hol,hsrc.newsLen];rw [if_pos O,List.getElem?_toArray,List.getElem?_append,hol,if_pos hm]
 have hf:=hs.drew.fresh D hDl d hDd (λ o=>o<es.length*ie.size) c e
 have hv:ARep (w.drew.alloc (.cells c e)) ⟨λ b o=>g.st b o\/(b=w.drew.heap.size/\o<es.length*ie.size),λ i=>if i=d then some w.drew.heap.size else if D i then none else g.ow i⟩
   (.vec d ie.size ty0 es) (.slice (some ⟨w.drew.heap.size,0,none⟩) es.length q):=by
  refine Jk G dO N0 O hes (λ o=>⟨λ h=>?_,λ h=>.inr ⟨Z,h⟩⟩) (λ i y j x hy hx=>?_) hty
  ·rcases h with h|h
   ·exact Bw
   ·exact h.2
  ·have NZ:=ly (w:=w.drew) (T:=λ o=>o<es.length*ie.size) (ob:=.cells c e) hs.drew.lt;have hcl:=hes y (List.mem_of_getElem? hy);have hjl:j<ie.size:=by rw [<- hcl]; exact (List.getElem?_eq_some_iff.1 hx).1
   have hil:i<es.length:=(List.getElem?_eq_some_iff.1 hy).1;have hm1:(i+1)*ie.size<=es.length*ie.size:=py _ O;rw [ph] at hm1;obtain ⟨k1,u,hu,hr⟩:=hoc i y j x hy hx;refine ⟨k1,u,?_,(PRep.mono (w:=w) (w':=w.drew) (st:=g.st) (st':=g.st) (λ b o h=>⟨h,rfl⟩) hr).mono NZ⟩;rw [hget _ O]; exact hu
 have hp:=hf.put (d:=some d) (λ t ht=>by cases ht; exact d3 ▸ hn) (DI hv O);rw [hy1] at hrun;exact ⟨_,_,_,hrun,hp⟩
theorem Ag {t tx e:TypeId}{x y:Operand}{k sz ty:Nat}{es:List PV}{ys:List PV}{i ie:TI}(ho:o.op=.call { callee:=.builtin .append,args:=#[x,y],argTypes:=#[t,tx] })(hd:o.dst=some d)(hn:Nat.blt d C.n=true)
  (hi:look C.tt t=some i) (N4:i.k=.slice e) (hie:look C.tt e=some ie) (hx:evo sl x=some (.vec k sz ty es)) (hk:Nat.blt k M1=true) (hiz:ie.size=sz) (hy1:ys.length=1)
  (hS:xJ C sl ob tx y ie.size ys) (_NR:∀ y∈ys,y.cells.length=ie.size) (h0:Nat.blt 0 ie.size=true) (hzl:Nat.beq ie.zero.length ie.size=true)
  (NK:(es.length+1)*ie.bytes<=140737488355328) (hlen':es.length+1<=9223372036854775807) (hty:(Nat.beq ty 0||Nat.beq ty (e+1))=true)
  (hK:K ⟨(d,.vecp d sz ty es)::(cq (λ i=>Nat.beq i k||Nat.beq i d) ⟨sl,ob⟩).sl,(cq (λ i=>Nat.beq i k||Nat.beq i d) ⟨sl,ob⟩).ob⟩):aX C o K ⟨sl,ob⟩:=by
 subst hiz;rw [<- hy1] at NK hlen';have h0':0<ie.size:=by simpa using h0
 have hzl':=bx hzl;have hk':k<M1:=d3 ▸ hk;have hdl:d<M1:=by have h1:=ld C.nl; have h2:d<C.n:=d3 ▸ hn; omega
 have hty':=JA hty
 have hDl:∀ i,(Nat.beq i k||Nat.beq i d)=true->i<M1:=by
  exact FQ
 intro g a w hs;have hxr:=bv hs hx;generalize hxv:a.eval x=xv at hxr
 have hrun0:∀ v w',(Builtin.append_ #[t,tx] o.type #[xv,a.eval y]).run C.P w=.ok v w'->(execOp a.eval o).run C.P w=.ok (.value v) w':=by
  exact y9
 cases hxr with
 | vecn=>
  obtain ⟨v,w',g',hr,N7⟩:=nP ty (es:=[]) (λ i=>Nat.beq i k||Nat.beq i d) hDl G hy1 hi N4 hie hS hzl' pK (by simpa using hlen') hs none 0 []
   (run_firstCells_none w.drew ie.size 0 0 0) G G G (by simp [hy1]) o.type hn hty'
  exact G1
 | vece tok sz a0=>
  obtain ⟨v,w',g',hr,N7⟩:=nP 0 (es:=[]) (λ i=>Nat.beq i k||Nat.beq i d) hDl G hy1 hi N4 hie hS hzl' pK (by simpa using hlen') hs (some a0) 0 []
   (run_firstCells_some w.drew ie.size 0 a0 0 0 [] G G) G G G (by simp [hy1]) o.type hn hty'
  exact G1
 | vec how hb N0 hsz' N7 hr hty0=>
  rename_i b off cap c e0;have hinv:=rC hsz' hb hr;have hcapE:es.length<=cap:=by cases hr with|nile _=>exact bt _|slice _ _ hcap=>exact hcap
  by_cases hroom:es.length+ys.length<=cap
  ·obtain ⟨u,h1,h2⟩:=bA C.good hi;have h3:=bC (h2.trans N4);subst h3;obtain ⟨info,hf1,hf2,hf3,z,hf4,hf5⟩:=ib C.good hie;obtain ⟨news,hsrc,hnews⟩:=hS g a w hs
   have hfit:(off+es.length*ie.size)+news.length<=c.size:=by
    rw [hsrc.newsLen,N0,Nat.add_assoc,<- ph]; exact Nat.add_le_add_left (py _ hroom) _
   have hstc:=run_storeCells_at C.P b (off+es.length*ie.size) e0 news 0 c w hb (by simpa using hfit) hsrc.one;simp only [Nat.add_zero] at hstc;obtain ⟨c',hc'⟩:∃ c',c'=(c.toList.take (off+es.length*ie.size)++news++c.toList.drop (off+es.length*ie.size+news.length)).toArray:=⟨_,rfl⟩
   rw [<- hc'] at hstc;have hrr:=od t tx o.type e info h1 hf1 b off es.length cap (a.eval y) ys.length news rk hroom xZ
   have NY:∀ j,c'[j]? = if off+es.length*ie.size<=j/\j<off+es.length*ie.size+news.length then news[j-(off+es.length*ie.size)]? else c[j]?:=by
    intro j;rw [hc'];have:=jg c.toList news (off+es.length*ie.size) (by simpa using hfit) j;simpa using this
   have hcs':c'.size=off+cap*ie.size:=by rw [<- N0,hc']; simp; omega
   have hin:=hs.inplace (λ i=>Nat.beq i k||Nat.beq i d) hDl (k:=k) (d:=d) how G G  hb (c':=c') (hcs'.trans N0.symm) (λ o h=>by
    have:=(N7 o).1 h
    rw [NY o,if_neg O]) (λ o=>o<off+es.length*ie.size) (λ o h=>(N7 o).1 h)
   have hEv:Ev w g.st (w.setRow b c') (λ b' o=>(b'=b/\o<off+es.length*ie.size)\/(b'≠b/\g.st b' o)):=by
    intro b' o h;by_cases e:b'=b
    ·subst e;have h5:=(N7 o).1 h;refine ⟨.inl ⟨rfl,h5⟩,?_⟩;simp only [World.cell?,hb,setRow_heap w b' c c' _ (0,0) hb];have:=NY o;rw [if_neg O] at this;simpa using this
    ·exact ⟨.inr ⟨e,h⟩,by simp only [World.cell?,setRow_other w b b' c' e]⟩
   have hv:ARep (w.setRow b c') ⟨λ b' o=>(b'=b/\o<off+es.length*ie.size)\/(b'≠b/\g.st b' o),λ i=>if i=d then some b else if (Nat.beq i k||Nat.beq i d) then none else g.ow i⟩
     (.vec d ie.size ty es) (.slice (some ⟨b,off,none⟩) es.length cap):=by
    refine uD G (setRow_heap w b c c' e0 (0,0) hb) hcs' hcapE hsz' (λ o=>⟨λ h=>?_,λ h=>.inl ⟨Z,h⟩⟩) (λ i y j x hy hx=>?_) hty0
    ·rcases h with h|h
     ·exact h.2
     ·exact absurd Z h.1
    ·have hcl:=hsz' y (List.mem_of_getElem? hy);have hjl:j<ie.size:=by rw [<- hcl]; exact (List.getElem?_eq_some_iff.1 hx).1
     have hil:i<es.length:=(List.getElem?_eq_some_iff.1 hy).1;obtain ⟨k1,u,hu,hr⟩:=hinv i y j x hy hx;have hm2:(i+1)*ie.size<=es.length*ie.size:=py _ O;rw [ph] at hm2;refine ⟨k1,u,?_,hr.mono hEv⟩;rw [NY,if_neg O]; exact hu
   have hp:=hin.put (d:=some d) (λ t ht=>by cases ht; exact d3 ▸ hn) (DI hv O);rw [hy1] at hrr;exact C8
  ·obtain ⟨olds,hol,hocell⟩:∃ olds:List Value,olds.length=es.length*ie.size/\∀ m,m<es.length*ie.size->olds[m]? = c[off+m]? :=
    ⟨((c.toList.drop off).take (es.length*ie.size)),by
     rw [List.length_take,ro,show c.toList.length=off+cap*ie.size from Array.length_toList.trans N0]
     have:=py ie.size hcapE; omega,λ m hm=>by rw [List.getElem?_take,if_pos hm,List.getElem?_drop,Array.getElem?_toList]⟩
   have hold:(Builtin.firstCells ie.size es.length (.slice (some ⟨b,off,none⟩) es.length cap)).run C.P w.drew=.ok olds.toArray w.drew:=by
    refine run_firstCells_some w.drew ie.size es.length ⟨b,off,none⟩ es.length cap olds hol (λ j v hv=>?_);have hj:j<es.length*ie.size:=by rw [<- hol]; exact (List.getElem?_eq_some_iff.1 hv).1
    rw [add_lit,World.cell?_drew];simp only [World.cell?,hb];rw [<- hocell j hj]; simpa using hv
   obtain ⟨v,w',g',hr',hst'⟩:=nP ty (es:=es) (λ i=>Nat.beq i k||Nat.beq i d) hDl G hy1 hi N4 hie hS hzl' NK hlen' hs (some ⟨b,off,none⟩) cap olds
    hold hol hsz' (λ i y j x hy hx=>by
     obtain ⟨k1,u,hu,hr⟩:=hinv i y j x hy hx;have hi:i<es.length:=(List.getElem?_eq_some_iff.1 hy).1;have hj:j<ie.size:=by rw [<- hsz' y (List.mem_of_getElem? hy)]; exact (List.getElem?_eq_some_iff.1 hx).1
     have hm2:(i+1)*ie.size<=es.length*ie.size:=py _ O;rw [ph] at hm2
     exact ⟨k1,u,by rw [hocell _ O,<- Nat.add_assoc]; exact hu,hr⟩) O o.type hn hty'
   exact wd
theorem oc {α:Type}(f:α->PV)(l0:List α){z:PV}{t tx e e':TypeId}{x y:Operand}{k sz ty:Nat}{i ie j:TI}(ho:o.op=.call { callee:=.builtin .append,args:=#[x,y],argTypes:=#[t,tx] })(hd:o.dst=some d)(hn:Nat.blt d C.n=true)
  (hi:look C.tt t=some i) (N4:i.k=.slice e) (hie:look C.tt e=some ie) (hj:look C.tt tx=some j) (hjk:j.k=.slice e') (hx:evo sl x=some (.vec k sz ty (l0.map f))) (hk:Nat.blt k M1=true) (hiz:ie.size=sz)
  (hy:evo sl y=some (.p (eL (λ x:PV=>x) [z]))) (NR:Nat.beq z.cells.length ie.size=true) (h0:Nat.blt 0 ie.size=true) (hzl:Nat.beq ie.zero.length ie.size=true) (hby:Nat.blt 0 ie.bytes=true)
  (hty:(Nat.beq ty 0||Nat.beq ty (e+1))=true) (NK:(l0.length+1)*ie.bytes<=140737488355328)
  (hK:K ⟨(d,.vecp d sz ty (l0.map f))::(cq (λ i=>Nat.beq i k||Nat.beq i d) ⟨sl,ob⟩).sl,(cq (λ i=>Nat.beq i k||Nat.beq i d) ⟨sl,ob⟩).ob⟩):aX C o K ⟨sl,ob⟩:=by
 have hby':1<=ie.bytes:=Nat.succ_le_of_lt vj;have h1:(l0.length+1)*1<=(l0.length+1)*ie.bytes:=Nat.mul_le_mul_left _ hby';have hs':∀ y∈[z],y.cells.length=ie.size:=λ y hy=>by rw [List.mem_singleton.1 hy]; exact bx NR
 exact Ag (ys:=[z]) ho hd hn hi N4 hie hx hk hiz Z (po hj hjk hy Z hs' (by simpa using h0)) hs' h0 hzl (by rw [n6]; exact NK) zb hty hK
theorem lV {t e:TypeId}{x y:Operand}{i ie:TI}{tok sz ty:Nat}{es:List PV}{k:IntKind}{n:Int}(ho:o.op=.indexAddr t x y)(hd:o.dst=some d)(hn:Nat.blt d C.n=true)
  (hi:look C.tt t=some i) (N4:i.k=.slice e) (hie:look C.tt e=some ie) (hiz:ie.size=sz) (hx:evo sl x=some (.vecp tok sz ty es)) (hy:evo sl y=some (.p (.val (.int k n)))) (hnn:n=(es.length:Int))
  (hK:K ⟨(d,.elp tok sz)::sl,ob⟩):aX C o K ⟨sl,ob⟩:=by
 subst hiz hnn;obtain ⟨u,h1,h2⟩:=bA C.good hi;have h3:=bC (h2.trans N4);subst h3;refine ok_one hd hn (λ g a w hs=>?_) hK;have h5:=bv hs hx;generalize hv:a.eval x=v at h5
 cases h5 with
 | vecp how hb N0 hcap NR N7 hr hty=>
  rename_i b off cap c e0;refine ⟨.pointer (some ⟨b,off+es.length*ie.size,none⟩),?_,.elp how hb ?_ N7⟩
  ·have h6:(es.length:Int)<((es.length+1:Nat):Int):=by omega
   simp [execOp,ho,hv,co hs hy,Instr.indexAt,asIntOf,run_underlying h1,run_sizeOf C.good hie,add_lit]
  ·rw [N0];have:=py ie.size hcap;rw [ph,Nat.one_mul] at this;omega
def upP (tok sz:Nat)(z:PV)(x:AV):AV:=match x with
 | .vecp t s ty es=>bif Nat.beq t tok&&Nat.beq s sz then .vec t s ty (es++[z]) else .undef
 | x=>x.dem (Nat.beq · tok)
def upPS (tok sz:Nat)(z:PV):List (Nat×AV)->Option (List (Nat×AV))
 | []=>some []
 | (i,x)::r=>(match frc (upP tok sz z x) with
  | some y=>(match upPS tok sz z r with|some l=>some ((i,y)::l)|none=>none)
  | none=>none)
def K7 (tok sz:Nat)(z:PV):List AV->Option (List AV)
 | []=>some []
 | x::r=>(match frc (upP tok sz z x) with
  | some y=>(match K7 tok sz z r with|some l=>some (y::l)|none=>none)
  | none=>none)
theorem Ec {tok sz:Nat}{z:PV}:∀ {l l':List AV},K7 tok sz z l=some l'->l'=l.map (upP tok sz z)
 | [],l',h=>by cases h; rfl
 | x::r,l',h=>by
  unfold K7 at h;split at h
  ·rename_i y hy;split at h
   ·rename_i m hm; cases h; rw [qZ hy,Ec hm]; rfl
   ·cases h
  ·cases h
def EQ (tok sz:Nat)(z:PV):List (Nat×List AV)->Option (List (Nat×List AV))
 | []=>some []
 | (i,cs)::r=>(match Nat.beq i tok with
  | true=>EQ tok sz z r
  | false=>(match K7 tok sz z cs with
   | some ds=>(match EQ tok sz z r with|some l=>some ((i,ds)::l)|none=>none)
   | none=>none))
theorem sH {tok sz:Nat}{z:PV}:∀ {l l':List (Nat×List AV)},EQ tok sz z l=some l'->∀ id cs,look l' id=some cs->id≠tok/\∃ ds,look l id=some ds/\cs=ds.map (upP tok sz z)
 | [],l',h,id,cs,hc=>by cases h; cases hc
 | (i,xs)::r,l',h,id,cs,hc=>by
  unfold EQ at h;split at h
  ·rename_i hb;obtain ⟨h1,ds,h2,h3⟩:=sH h id cs hc;exact BS
  ·rename_i hb;have hi:i≠tok:=λ e=>by subst e; simp at hb
   split at h
   ·rename_i ds hds;split at h
    ·rename_i m hm
     cases h
     rw [a6] at hc ⊢;by_cases e1:i=id
     ·subst e1;rw [if_pos rfl] at hc ⊢
      cases hc
      exact ⟨hi,xs,Z,Ec hds⟩
     ·rw [if_neg e1] at hc ⊢;exact sH hm id cs hc
    ·cases h
   ·cases h
theorem Kw {t:TypeId}{x v:Operand}{i:TI}{tok sz:Nat}{z:PV}{Y0z:AV}{sl':List (Nat×AV)}{ob':List (Nat×List AV)}(ho:o.op=.store t x v)(hd:o.dst=none)
  (hi:look C.tt t=some i) (hiz:i.size=sz) (hx:evo sl x=some (.elp tok sz)) (hv:evo sl v=some Y0z) (hY:Y0z.sub (.p z)) (hc:(AV.p z).cellsA=some (z.cells.map .p)) (hcl:Nat.beq z.cells.length sz=true) (htok:Nat.blt tok M1=true)
  (h1:sl'=sl.map λ p=>(p.1,upP tok sz z p.2)) (h2:EQ tok sz z ob=some ob') (hK:K ⟨sl',ob'⟩):aX C o K ⟨sl,ob⟩:=by
 subst hiz h1;have htl:tok<M1:=d3 ▸ htok;have hcl':=bx hcl;intro g a w hs;have h5:=bv hs hx;have h6:ARep w g (.p z) (a.eval v):=hY _ _ _ (bv hs hv);obtain ⟨hs1,hs2⟩:=jY hc h6;rw [n6] at hs1;generalize NZ:a.eval x=u at h5
 cases h5 with
 | elp how k2 hp N7=>
  rename_i b p c e
  have N6:∀ u∈(a.eval v).cells.toList,u.oneCell'=true:=by
   exact H5
  have hstc:=run_storeCells_at C.P b p e (a.eval v).cells.toList 0 c w k2 hC N6;simp only [Nat.add_zero,Array.length_toList] at hstc;obtain ⟨c',hc'⟩:∃ c',c'=(c.toList.take p++(a.eval v).cells.toList++c.toList.drop (p+(a.eval v).cells.size)).toArray:=⟨_,rfl⟩
  rw [<- hc'] at hstc;have hsz':=run_sizeOf C.good hi w;have Ob:(a.eval v).cells.size=i.size:=hs1.trans hcl';unfold Oper.wp
  have hrun:(execOp a.eval o).run C.P w=.ok .skip (w.setRow b c'):=by
   exact Hj
  rw [hrun];simp only [Oper.upon,hd,Act.put]
  have NY:∀ j,c'[j]? = if p<=j/\j<p+i.size then (a.eval v).cells[j-p]? else c[j]?:=by
   exact IL
  have hsize':c'.size=c.size:=by
   rw [hc']; simp; omega
  obtain ⟨g',hg'⟩:∃ g':Gh,g'=⟨λ b' o=>(b'=b/\o<p+i.size)\/(b'≠b/\g.st b' o),g.ow⟩:=⟨_,rfl⟩
  have hst':∀ b' o,g'.st b' o↔(b'=b/\o<p+i.size)\/(b'≠b/\g.st b' o):=λ b' o=>by rw [hg']
  have how':g'.ow=g.ow:=by rw [hg']
  have hev':Ev w g.st (w.setRow b c') g'.st:=by
   intro b2 o2 h2;by_cases e1:b2=b
   ·subst e1;have:=(N7 o2).1 h2;refine ⟨(hst' _ _).2 (.inl qV),?_⟩;simp only [World.cell?,k2,setRow_heap w b2 c c' e (0,0) k2];exact Cp
   ·exact ⟨(hst' _ _).2 (.inr ⟨e1,h2⟩),by simp only [World.cell?,setRow_other w b b2 c' e1]⟩
  have Rp:∀ id b2,Nat.beq id tok=false->g.ow id=some b2->b2≠b:=λ id b2 hD h e=>by
   subst e;have:=hs.inj id tok b2 h how;subst this;simp at hD
  have hE:EvO (Nat.beq · tok) w g (w.setRow b c') g':=by
   refine ⟨hev',λ id b2 _ h=>by rw [how']; exact h,λ id b2 c2 e2 hD h h2=>IB,λ id b2 o2 hD h h3=>?_,λ id b2 es2 k2' hD h h2=>(setRow_other w b b2 c' (Rp id b2 hD h)).trans h2,λ i hi=>?_,λ id b2 o2 hD h _=>setRow_other w b b2 c' (Rp id b2 hD h)⟩
   ·rcases (hst' _ _).1 h3 with h4|h4
    ·exact absurd h4.1 (Rp id b2 hD h)
    ·exact h4.2
   ·cases hq:Nat.beq i tok
    ·rfl
    ·exact BR
  have hup:∀ {y:AV} {u:Value},ARep w g y u->ARep (w.setRow b c') g' (upP tok i.size z y) u:=by
   intro y u h;unfold upP;split
   ·rename_i t s ty es
    cases hq:(Nat.beq t tok&&Nat.beq s i.size)
    ·exact gC
    ·simp only [n8] at hq;have e1:=bx hq.1;have e2:=bx hq.2;subst e1 e2;rw [cond_true]
     cases h with
     | vecp how2 hb2 hcs2 hcap2 hsz2 hst2 hr2 hty2=>
      rename_i b2 off cap c2 e2;rw [how] at how2; cases how2;rw [k2] at hb2; cases hb2
      have hpo:p=off+es.length*i.size:=by
       rcases Nat.lt_trichotomy p (off+es.length*i.size) with h7|h7|h7
       ·have:=(N7 p).1 ((hst2 p).2 h7); omega
       ·exact h7
       ·have:=(hst2 (off+es.length*i.size)).1 ((N7 _).2 h7); omega
      have hinv:=rC hsz2 k2 hr2;have NK:(es++[z]).length=es.length+1:=by simp
      have:=uD (w:=w.setRow b c') (g:=g') (tok:=t) (es:=es++[z]) (cap:=cap) (by rw [how']; exact how) (setRow_heap w b c c' e (0,0) k2) (hsize'.trans hcs2) (by rw [NK]; exact hcap2) (λ x hx=>by
       rcases List.mem_append.1 hx with hx|hx
       ·exact hsz2 x hx
       ·rw [List.mem_singleton.1 hx]; exact hcl') (λ o=>by
       rw [hst',NK,ph,Nat.one_mul]
       exact ⟨λ h=>h.elim (λ h=>by omega) (λ h=>absurd Z h.1),λ h=>.inl qV⟩) (λ k y j x hy hx=>?_) hty2
      ·rw [NK] at this; exact this
      ·have hcl2:y.cells.length=i.size:=by
        rcases List.mem_append.1 (List.mem_of_getElem? hy) with hx|hx
        ·exact hsz2 y hx
        ·rw [List.mem_singleton.1 hx]; exact hcl'
       have hjl:j<i.size:=by rw [<- hcl2]; exact (List.getElem?_eq_some_iff.1 hx).1
       rw [List.getElem?_append] at hy;split at hy
       ·rename_i hlt;obtain ⟨q1,u,hu,hr⟩:=hinv k y j x hy hx;have hm2:(k+1)*i.size<=es.length*i.size:=py _ O;rw [ph] at hm2;refine ⟨q1,u,?_,hr.mono hev'⟩;rw [NY,if_neg O]; exact hu
       ·rename_i hge
        have hk0:k-es.length=0:=by
         have:=(List.getElem?_eq_some_iff.1 hy).1;simp at this; omega
        rw [hk0] at hy;simp only [List.getElem?_cons_zero,aq] at hy;subst hy;have hke:k=es.length:=by omega
        subst hke;have hjc:j<(a.eval v).cells.size:=by omega
        have h8:=hs2 j (.p x) _ (by simp [hx]) (Array.getElem?_eq_getElem hjc);refine ⟨?_,(a.eval v).cells[j],?_,?_⟩
        ·have h9:PV.onesB z.cells=true\/z.one=true:=by
          cases z with
          | agg cs=>
           exact HE
          | val _=>
           exact Fp
          | slice _=>exact .inr Z
          | ifc=>exact .inr Z
          | aint _=>exact .inr Z
         rcases h9 with h9|h9
         ·exact ig h9 x (List.mem_of_getElem? hx)
         ·have:z.cells=[z]:=by cases z <;> first|rfl|(simp [PV.one] at h9)
          rw [this] at hx;have:=(List.getElem?_eq_some_iff.1 hx).1;simp at this;subst this;simp at hx;rw [<- hx]; exact h9
        ·rw [NY,if_pos ⟨by omega,by omega⟩,hpo];rw [show off+es.length*i.size+j-(off+es.length*i.size)=j by omega];exact Array.getElem?_eq_getElem hjc
        ·cases h8.1 with
         | p hr=>exact hr.mono hev'
   ·exact h.dem hE
  refine ⟨g',⟨sl.map λ p=>(p.1,upP tok i.size z p.2),ob'⟩,?_,hK⟩;refine ⟨hs.nd,hs.sz,λ j=>?_,λ id' cs' h'=>?_,by rw [how']; exact hs.inj,λ j b2 h=>?_,λ b2 o2 h=>?_,hs.fl,λ b2 h=>?_,hs.os,hs.out,hs.tape,?_,λ b2 h o2=>?_,by rw [how']; exact hs.owf,hs.shf.next (λ _ b c e _ _ h=>(nG k2 hsize').1 b c e h),λ j b2 hj h o2 h3=>?_,hs.ev0.trans hev'⟩
  ·exact FM
  ·obtain ⟨hne',ds,m1,rfl⟩:=sH h2 id' cs' h';obtain ⟨b2,c2,e2,n1,n2,n3,n4,n5⟩:=hs.ob id' ds m1
   have hD:Nat.beq id' tok=false:=by
    exact HG
   have hb2:=Rp id' b2 hD n1;refine ⟨b2,c2,e2,by rw [how']; exact n1,(setRow_other w b b2 c' hb2).trans n2,by simpa using n3,λ o2 h3=>?_,λ j y hy=>?_⟩
   ·rcases (hst' _ _).1 h3 with h4|h4
    ·exact hb2 h4.1
    ·exact n4 o2 h4.2
   ·exact Ge
  ·rw [how'] at h;exact CS
  ·rcases (hst' _ _).1 h with h4|h4
   ·have:=(hs.own tok b how).1; rw [h4.1]; simpa using this
   ·have:=hs.lt b2 o2 h4.2; simpa using this
  ·exact Ic
  ·have:=hs.size; simpa using this
  ·have Ob:b2≠b:=λ e=>(hs.own tok b how).2 (e ▸ h)
   exact ⟨λ h3=>by
    rcases (hst' _ _).1 h3 with h4|h4
    ·exact absurd h4.1 Ob
    ·exact (hs.stf b2 h o2).1 h4.2,λ h3=>(hst' _ _).2 (.inr ⟨Ob,(hs.stf b2 h o2).2 h3⟩)⟩
  ·rcases (hst' _ _).1 h3 with h4|h4
   ·have h7:g.ow j=some b2:=(hs.owf j hj (C.w0.lo j b2 h)).trans h;have:=hs.inj j tok b2 h7 (by rw [h4.1]; exact how);omega
   ·exact hs.nst j b2 hj h o2 h4.2
theorem tc {t:TypeId}{x v:Operand}{i:TI}{tok sz:Nat}{z:PV}{sl':List (Nat×AV)}{ob':List (Nat×List AV)}(ho:o.op=.store t x v)(hd:o.dst=none)
  (hi:look C.tt t=some i) (hiz:i.size=sz) (hx:evo sl x=some (.elp tok sz)) (hv:evo sl v=some (.p z)) (hc:(AV.p z).cellsA=some (z.cells.map .p)) (hcl:Nat.beq z.cells.length sz=true) (htok:Nat.blt tok M1=true)
  (h1:sl'=sl.map λ p=>(p.1,upP tok sz z p.2)) (h2:EQ tok sz z ob=some ob') (hK:K ⟨sl',ob'⟩):aX C o K ⟨sl,ob⟩:=Kw ho hd hi hiz hx hv (AV.sub_refl _) hc hcl htok h1 h2 hK
end
def tK (c:Nat)(imp:List Nat):gD->gD->Prop|(k,d,v)::r,(k',d',v')::r'=>(k=k'/\d=d'/\(imp.any (Nat.beq k)=true\/v c=v' c))/\tK c imp r r'|[],[]=>True|_,_=>False
theorem uh {c:Nat}{imp:List Nat}:∀ {r1 r2:gD},tK c imp r1 r2->∀ k p,imp.any (Nat.beq k)=false->dK r2 k=some p->∃ v,dK r1 k=some (p.1,v)/\v c=p.2 c
 | [],[],_,k,p,_,h=>by cases h
 | (k1,d1,v1)::r,(k2,d2,v2)::r',⟨⟨e1,e2,e3⟩,hr⟩,k,p,hk,h=>by
  subst e1 e2;simp only [dK] at h ⊢
  cases hb:Nat.beq k1 k
  ·rw [hb,cond_false] at h;rw [cond_false];exact uh hr k p hk h
  ·exact GI
 | [],_::_,h,_,_,_,_=>h.elim
 | _::_,[],h,_,_,_,_=>h.elim
theorem y7 {C:Cx}{ops:Array Oper}{S1 S2:fX}{c k:Nat}{r1 r2:gD}{imp:List Nat}(h1:lks (ef r2 S2.m++S2.bas S2.m) ((ef r1 S1.m++S1.bas S1.m).map (·.1))=some ((ef r1 S1.m++S1.bas S1.m).map (·.2)))
  (h2:lkE (S1.obj S1.m) (S2.obj S2.m) (S1.obj S1.m)) (h3:tK c imp r1 r2) :
  DS C ops S2 (λ rev2=>(⟨ef rev2 S2.m++S2.bas S2.m,S2.obj S2.m⟩:AS).le ⟨ef r1 S1.m++S1.bas S1.m,S1.obj S1.m⟩/\tK c imp r1 rev2) [] k r2:=by
 refine ⟨⟨λ j x h=>?_,λ id cs h=>⟨cs,(B8 h2 id cs h).trans h,bt _,λ i c d a b=>by rw [a] at b; cases b; exact AV.sub_refl _⟩⟩,h3⟩;have:=yb h1 j x h;unfold AS.get;rw [this];exact AV.sub_refl _
theorem B9 {C:Cx}{id:Nat}{ops:Array Oper}{Q:Exit->AS->Prop}{sl:List (Nat×AV)}{ob:List (Nat×List AV)}(S1 S2:fX){k0 k1 k2:Nat}{r:List Nat}(hm:C.P.follows .mixedOrders=true)
  (hi1:S1.imp=k0::k1::k2::r) (hi2:S2.imp=k0::k2::k1::r) (hlen1:S1.imp.length=S1.m) (hlen2:S2.imp.length=S2.m) (hob1:S1.obj 0=ob) (hob2:S2.obj 1=S1.obj 1) (hb:fG sl (S1.bas 0)) (hb2:S2.bas 1=S1.bas 1)
  (hbas1:∀ j,j<S1.m->fG (trL (S1.D j) (S1.bas j)) (S1.bas (j+1))) (hbas2:∀ j,j<S2.m->fG (trL (S2.D j) (S2.bas j)) (S2.bas (j+1)))
  (hnd:nodupB (k0::k1::k2::r)=true) (hin:(k0::k1::k2::r).all (λ i=>Nat.blt i ops.size)=true) (hch1:chainB ops (k0::k1::r)=true) (hch2:chainB ops (k0::k2::r)=true)
  (hord:(ops.toList.zipIdx.all λ p=>p.1.after.toList.all λ e=>!(Region.binds .any e)||Nat.blt e.on p.2)=true)
  (h:DS C ops S1 (λ rev1=>Q .normal ⟨ef rev1 S1.m++S1.bas S1.m,S1.obj S1.m⟩/\DS C ops S2 (λ rev2=>(⟨ef rev2 S2.m++S2.bas S2.m,S2.obj S2.m⟩:AS).le ⟨ef rev1 S1.m++S1.bas S1.m,S1.obj S1.m⟩/\tK 1 (k1::k2::r) rev1 rev2) ops.toList 0 []) ops.toList 0 []):awp C (.region id ops true) Q ⟨sl,ob⟩:=by
 intro g a w hs
 have hnd2:nodupB S2.imp=true:=by
  rw [hi2];simp only [nodupB,List.any_cons,Bool.not_or,n8,Bool.not_eq_true'] at hnd ⊢;obtain ⟨⟨b1,b2,b3⟩,⟨a1,a2⟩,a3,a4⟩:=hnd;refine ⟨⟨b2,b1,b3⟩,⟨?_,a3⟩,a2,a4⟩;exact Gc
 have hin2:S2.imp.all (λ i=>Nat.blt i ops.size)=true:=by
  rw [hi2];simp only [List.all_cons,n8] at hin ⊢;exact ⟨hin.1,hin.2.2.1,hin.2.1,hin.2.2.2⟩
 obtain ⟨fin1,⟨hf1,h2⟩,hP1⟩:=Aj.mk' hlen1 hbas1 (by rw [hi1]; exact hnd) (by rw [hi1]; exact hin) hord h;obtain ⟨fin2,⟨hf2,hag⟩,hP2⟩:=Aj.mk' hlen2 hbas2 hnd2 hin2 hord h2
 have chain:∀ (x y:Nat) (S:fX),S.imp=k0::x::y::r->chainB ops (k0::y::r)=true->chainB ops (k0::x::r)=true->∀ (listed:Array Bool) (j i q:Nat),EJ ops S listed j->i∈Region.ready .any ops listed->S.imp[q]? = some i->j<q->q=2/\j=1:=by
  intro x y S hS hcy hcx listed j i q hI hi hq hjq;obtain ⟨h1,o,ho,hafter⟩:=mem_ready.1 hi
  have use:∀ z zi,S.imp[z]? = some zi->mK ops 4 o zi=true->z<j:=by
   exact FS
  match q,hq,hjq with
  | 0,_,hjq=>omega
  | 1,hq,hjq=>
   exfalso;rw [hS] at hq;have b1:=kf hcx 0 k0 i o Z rh ho;have:=use 0 k0 (by rw [hS]; rfl) b1;omega
  | 2,hq,hjq=>
   rw [hS] at hq;have b1:=kf hcy 0 k0 i o rfl rh ho;have:=use 0 k0 (by rw [hS]; rfl) b1;exact qV
  | q+3,hq,hjq=>
   exfalso;rw [hS] at hq;simp only [List.getElem?_cons_succ] at hq;have hql:q<r.length:=(List.getElem?_eq_some_iff.1 hq).1
   cases q with
   | zero=>
    have b1:=kf hcy 1 y i o Z rh ho;have:=use 2 y (by rw [hS]; rfl) b1;omega
   | succ q=>
    have b1:=kf hcy (q+2) r[q] i o (by simp [List.getElem?_eq_getElem (show q<r.length by omega)]) rh ho;have:=use (q+3) r[q] (by rw [hS]; simp [List.getElem?_eq_getElem (show q<r.length by omega)]) b1;omega
 have two:=nY hP2 hf2 hf1 2 (λ fuel listed g a w sl' j hj OA i q hi hq hjq=>by
  have:=chain k2 k1 S2 hi2 hch1 hch2 listed j i q OA.inv hi hq hjq; omega)
 refine wp_region_any hm ?_;refine (nY hP1 (AS.le_refl _) hf1 0 ?_).1 _ _ g a _ sl 0 (qr _) (PAt.start hb (by rw [hob1]; exact hs.drew));intro fuel listed g a w sl' j _ OA i q hi hq hjq;obtain ⟨rfl,rfl⟩:=chain k1 k2 S1 hi1 hch2 hch1 listed j i q OA.inv hi hq hjq;have N4:i=k2:=by rw [hi1] at hq; simpa using hq.symm
 subst N4
 have hno:∀ k,(k1::i::r).any (Nat.beq k)=true->listed.getD k false=false:=by
  intro k hk;obtain ⟨x,hx,hkx⟩:=List.any_eq_true.1 hk;have:=bx hkx;subst this;obtain ⟨z,hz⟩:=List.mem_iff_getElem?.1 hx;have:=OA.inv.2.1 (z+1) k (by rw [hi1]; simpa using hz);exact Jc
 have hm2:1<=S2.m:=by rw [<- hlen2,hi2]; simp
 refine two.2 fuel listed g a w sl' 1 i (.inr ⟨bt _,by rw [hi2]; rfl⟩) hi ⟨OA.sz,OA.un,⟨hm2,λ z k hz=>?_,OA.inv.2.2⟩,⟨λ z x hx=>OA.kn.1 z x (by rw [<- hb2]; exact hx),λ k p hk hp=>?_⟩,by rw [hob2]; exact OA.st⟩
 ·cases z with
  | zero=>
   have hz0:k=k0:=by rw [hi2] at hz; simpa using hz.symm
   subst hz0;have:=OA.inv.2.1 0 k (by rw [hi1]; rfl);exact this
  | succ z=>
   constructor
   ·intro hl
    have hmem:k∈(k1::i::r):=by
     have:=List.mem_of_getElem? (show (i::k1::r)[z]? = some k by rw [hi2] at hz; simpa using hz);exact GL
    rw [hno k (List.any_eq_true.2 ⟨k,hmem,by simp⟩)] at hl
    cases hl
   ·intro h; omega
 ·have hk':(k1::i::r).any (Nat.beq k)=false:=by
   exact Gr
  obtain ⟨v,hv1,hv2⟩:=uh hag k p hk' hp;have:=OA.kn.2 k _ hk hv1;rw [<- hv2]; exact this
theorem mSP {C:Cx}{Q:Exit->AS->Prop}{k:List Fr}{ops:Array Oper}{sl:List (Nat×AV)}{ob:List (Nat×List AV)}(S1 S2:fX){id k0 k1 k2:Nat}{r:List Nat}(hm:C.P.follows .mixedOrders=true)
  (hi1:S1.imp=k0::k1::k2::r) (hi2:S2.imp=k0::k2::k1::r) (hlen1:S1.imp.length=S1.m) (hlen2:S2.imp.length=S2.m) (hob1:S1.obj 0=ob) (hob2:S2.obj 1=S1.obj 1) (hb:fG sl (S1.bas 0)) (hb2:S2.bas 1=S1.bas 1)
  (hbas1:∀ j,j<S1.m->fG (trL (S1.D j) (S1.bas j)) (S1.bas (j+1))) (hbas2:∀ j,j<S2.m->fG (trL (S2.D j) (S2.bas j)) (S2.bas (j+1)))
  (hnd:nodupB (k0::k1::k2::r)=true) (hin:(k0::k1::k2::r).all (λ i=>Nat.blt i ops.size)=true) (hch1:chainB ops (k0::k1::r)=true) (hch2:chainB ops (k0::k2::r)=true)
  (hord:(ops.toList.zipIdx.all λ p=>p.1.after.toList.all λ e=>!(Region.binds .any e)||Nat.blt e.on p.2)=true)
  (h:DS C ops S1 (λ rev1=>M C Q ⟨.ex .normal,k,⟨ef rev1 S1.m++S1.bas S1.m,S1.obj S1.m⟩⟩/\DS C ops S2 (λ rev2=>(⟨ef rev2 S2.m++S2.bas S2.m,S2.obj S2.m⟩:AS).le ⟨ef rev1 S1.m++S1.bas S1.m,S1.obj S1.m⟩/\tK 1 (k1::k2::r) rev1 rev2) ops.toList 0 []) ops.toList 0 []) :
  M C Q ⟨.cd (.region id ops true),k,⟨sl,ob⟩⟩ :=
 B9 S1 S2 hm hi1 hi2 hlen1 hlen2 hob1 hob2 hb hb2 hbas1 hbas2 hnd hin hch1 hch2 hord h
end Go.Ab
end
section
namespace Go.Ab.R06
open Go.Proofs Go.Ab Go.Ab.RB
variable {p:Prop}
theorem pX (h:p:=by
  exact nx 4 Z (eX _ (oi h3).symm (gE Z Z))):p:=h
theorem fS (h:p:=by
  exact nx 2 Z (eX _ (oi h2).symm (gE Z Z))):p:=h
theorem mq (h:p:=by
  exact nx 7 Z (eX _ (oi h1).symm (gE Z Z))):p:=h
theorem ru (h:p:=by
  exact nx 11 Z (eX _ (oi h1).symm (gE Z Z))):p:=h
theorem pI (h:p:=by
  exact nx 4 Z (eX _ (oi h2).symm (gE Z Z))):p:=h
theorem kV (h:p:=by
  exact nx 6 Z (mQ (hR0 _ (oi h1).symm) Z (sr))):p:=h
theorem pr (h:p:=by
  exact nx 5 Z (eX _ (oi h2).symm (gE Z Z))):p:=h
theorem iU (h:p:=by
  exact nx 2 Z (mQ (oi h0) Z (sr))):p:=h
theorem nO (h:p:=by
  exact nx 3 Z (eX _ (oi h2).symm (gE Z Z))):p:=h
theorem gJ (h:p:=by
  exact nx 8 Z (mQ (oi h0) Z (cb ⟨sr,sr,sr,trivial⟩))):p:=h
theorem Bo (h:p:=by
  exact nx 6 Z (eX _ (oi h2).symm (gE Z Z))):p:=h
theorem ip (h:p:=by
  exact eX _ (oi h1).symm (gE Z Z)):p:=h
theorem ja (h:p:=by exact eX _ (oi h1).symm (gE Z Z)):p:=h
theorem Ib (h:p:=by exact mQ (hR0 _ (hR1 _ (oi h2).symm).symm) Z (cb ⟨sr,sr,sr,trivial⟩)):p:=h
theorem sJ (h:p:=by exact mQ (oi h0) Z (cb ⟨sr,sr,trivial⟩)):p:=h
theorem yX (h:p:=by exact eX _ (oi h3).symm (gE Z Z)):p:=h
theorem rn (h:p:=by exact mQ (oi h0) Z (cb ⟨sr,sr,sr,trivial⟩)):p:=h
attribute [local irreducible] awp fV aX aK aS AV.sub M cv
def iM (UP:Int):Option Bool :=(if (-9007199254740992)<=UP then some (decide (UP<=9007199254740992))else some false : Option Bool).bind λ t2=>some t2
theorem o0 (UP:Int)(r:Bool)(h0:iM UP=some r):aK Tryz.prog 213 [eI UP] (·=.p (eB r)):=by
 unfold iM at h0;refine bV good Tryz.func213 Z Z Z λ w0=>mP (λ v:Bool=>.p (eB v)) ?_;refine nx 5 Z (bd h0 λ o4 h1 h0=>?_);refine kN o4 (λ v5=>⟨[(2,.p (eB v5))],[]⟩) ?_ ?_
 ·exact iU
 refine nx 4 Z (fD [4,5] h1 Z (λ c1 h1=>?_) λ c1 h1=>?_)
 ·exact fx
 exact fx
def cR (s7:Bk):Nat->Int->Option (Unit⊕Bool)|0,_=>none|m+1,O6=>if O6<(s7.length:Int) then(ck ((0:Int)<=O6/\O6<(s7.length:Int))<|if byt s7 O6<48 then some true else ck ((0:Int)<=O6/\O6<(s7.length:Int))<|some (decide (57<byt s7 O6)) : Option Bool).bind λ t21=>if t21=true then some (.inr false)else ck (inR (O6+1))<|cR s7 m (O6+1)else some (.inl ())
def iq (n:Nat)(NN:Bk):Option Bool :=jn ((if 0<(NN.length:Int) then ck ((0:Int)<=0/\0<(NN.length:Int))<|some (decide (byt NN 0=45))else some false : Option Bool).bind λ t3=>if t3=true then ck ((0:Int)<=1/\1<=(NN.length:Int)/\(NN.length:Int)<=(NN.length:Int))<|if sub NN 1 (NN.length:Int)=([48]:Bk) then some (.inr false)else some (.inl (sub NN 1 (NN.length:Int)))else some (.inl NN) : Option (Bk⊕Bool)) λ s7=>jn (cR s7 n 0) λ _Qr=>(if s7=([]:Bk) then some false else ck ((0:Int)<=0/\0<(s7.length:Int))<|if byt s7 0=48 then some (decide ((s7.length:Int)=1))else some true : Option Bool).bind λ Pr=>some Pr
theorem qI (n:Nat)(NN:Bk)(r:Bool)(h0:iq n NN=some r):aK Tryz.prog 238 [eS NN] (·=.p (eB r)):=by
 unfold iq at h0;refine bV good Tryz.func238 Z Z Z λ w0=>mP (λ v:Bool=>.p (eB v)) ?_;refine nx 5 rfl ?_;obtain ⟨Ta,h1,Ou,hR0⟩:=cw h0;refine kX (λ QS:Bk=>Ta=.inl QS) (λ QS=>⟨[(0,.p (eS QS))],[]⟩) (λ QS hv=>?_) ?_
 ·have h0:=Ou _ hv;refine nx 5 rfl (oLs rfl ?_);refine nx 3 rfl ?_;obtain ⟨o36,h1,Ou,hR0⟩:=cw h0;refine kEx 0 (λ v37:Unit=>o36=.inl v37) (λ v37=>⟨[(0,.p (eS QS))],[]⟩) (λ v37 hv=>?_) ?_
  ·have h0:=Ou _ hv;refine nx 2 Z (bd h0 λ o38 h1 h0=>?_);refine kN o38 (λ v39=>⟨[(2,.p (eB v39))],[]⟩) ?_ ?_
   ·exact iU
   refine nx 2 Z (oS Z Z ?_);refine nx 1 Z (fN [33,34] h1 Z (λ QD h1=>?_) λ QD h1=>?_)
   ·exact ru
   refine nx 1 Z (oI h1 Z λ PH h1=>?_);refine nx 2 Z (fN [37,38] h1 Z (λ QP h1=>?_) λ QP h1=>?_)
   ·refine nx 1 Z (oLs Z ?_);exact fx
   exact mq
  refine lG (λ (UI:Int)=>⟨[(0,.p (eS QS)),(17,.p (eI (QS.length:Int))),(18,.p (eI UI))],[]⟩) (λ m (UI:Int)=>cR QS m UI) Y 0 h1 (gE rfl rfl) ?_;rintro m O6 h1;replace h1:cR QS (m+1) O6=some o36:=h1;rw [cR] at h1;refine nx 5 rfl (fD [19] h1 rfl (λ Oo h1=>?_) λ Oo h1=>?_)
  ·refine nx 10 Z (bd h1 λ SA h2 h1=>?_);refine kN SA (λ v42=>⟨[(0,.p (eS QS)),(17,.p (eI (QS.length:Int))),(18,.p (eI O6)),(30,.p (eB v42))],[]⟩) ?_ ?_
   ·refine nx 1 Z (fB [30] h1 Z (λ Tu h1=>?_) λ Tu h1=>?_)
    ·exact kV
    refine nx 3 Z (oA h1 Z Z λ Qn h1=>?_);exact nx 2 Z (eX (O6+1) h1 (gE Z Z))
   refine nx 3 Z (oI h2 Z λ QL h2=>?_);refine nx 2 Z (fD [24,25] h2 Z (λ QE h2=>?_) λ QE h2=>?_)
   ·exact Bo
   refine nx 2 Z (oI h2 Z λ PO h2=>?_);exact nO
  exact cH
 refine nx 1 Z (bd h1 λ S0 h2 h1=>?_);refine kN S0 (λ Si=>⟨[(0,.p (eS NN)),(11,.p (eB Si))],[]⟩) ?_ ?_
 ·refine nx 1 Z (fB [11] h1 Z (λ c4 h1=>?_) λ c4 h1=>?_)
  ·refine nx 4 Z (oP h1 Z Z Z λ RP h1=>?_);refine nx 5 Z (oS Z Z ?_);refine nx 1 Z (fD [15] h1 Z (λ c6 h1=>?_) λ c6 h1=>?_)
   ·exact kV
   exact cZ
  exact cZ
 refine nx 2 Z (oLs Z ?_);refine nx 2 Z (fD [6,7] h2 Z (λ c1 h2=>?_) λ c1 h2=>?_)
 ·refine nx 1 Z (oI h2 Z λ P2 h2=>?_);exact nO
 exact pr
def ko (n:Nat)(NN:Bk):Option (Int×Int) :=(iq n NN).bind λ r1=>if (!r1)=true then some (0,2)else(jt NN 10 64).bind λ r4=>(if r4.2=true then some true else(iM r4.1).bind λ r7=>some (!r7) : Option Bool).bind λ t9=>if t9=true then some (0,5)else some (r4.1,0)
theorem uz (n:Nat)(NN:Bk)(r:Int×Int)(h0:ko n NN=some r):aK Tryz.prog 228 [eS NN] (·=.tuple [.p (eI r.1),.p (eI r.2)]):=by
 unfold ko at h0;refine bV good Tryz.func228 Z Z Z λ w0=>mP (λ v:Int×Int=>.tuple [.p (eI v.1),.p (eI v.2)]) ?_;refine nx 9 Z (bd h0 λ r1 e2 h0=>?_);refine oK (qI _ NN _ e2) Z ⟨sr,trivial⟩ Tryz.call238 Z (nx 2 Z ?_);refine fB [8] h0 Z (λ c3 h0=>?_) λ c3 h0=>?_
 ·exact nx 7 Z sJ
 refine nx 5 Z (bd h0 λ r4 e5 h0=>?_);refine oK (qE NN 10 64 _ e5) Z ⟨sr,sr,sr,trivial⟩ Tryz.call239 (ES (tX Z (tX (Mw _) BM))) (nx 8 Z ?_);refine bd h0 λ TV h1 h0=>kN TV (λ RH=>⟨[(4,.p (eI r4.1)),(20,.p (eB RH))],[]⟩) ?_ ?_
 ·refine nx 1 Z (fB [20] h0 Z (λ QF h0=>?_) λ QF h0=>?_)
  ·exact nx 7 Z sJ
  exact nx 9 Z sJ
 refine nx 2 Z (mO Z (Mo Z Z Z Z Z Z (.inr ⟨Z,Z⟩) ?_));refine nx 1 Z (fB [15,16] h1 Z (λ c6 h1=>?_) λ c6 h1=>?_)
 ·exact fx
 refine nx 1 Z (bd h1 λ r7 e8 h1=>?_);refine oK (o0 r4.1 _ e8) Z ⟨sr,trivial⟩ Tryz.call213 Z (nx 3 Z ?_);exact ip
def cO (NN:Bk):Nat->Int->Int->Option (Int×Int)|0,_,_=>none|m+1,n11,i12=>(if i12<(NN.length:Int) then some (decide (i12<6))else some false : Option Bool).bind λ Qv=>if Qv=true then ck ((0:Int)<=i12/\i12<(NN.length:Int))<|(strings_IndexByte ([48,49,50,51,52,53,54,55,56,57,97,98,99,100,101,102]:Bk) (byt NN i12)).bind λ Om=>if Om<0 then some (n11,i12)else ck (inR (i12+1))<|cO NN m (IntKind.wrap .i32 ((IntKind.wrap .i32 (16*n11))+(IntKind.wrap .i32 (Om)))) (i12+1)else some (n11,i12)
def fm (n:Nat)(NN:Bk):Option (Int×Int×Int) :=(cO NN n 0 0).bind λ Su=>if Su.2=(NN.length:Int) then some (0,0,40)else(ck ((0:Int)<=Su.2/\Su.2<(NN.length:Int))<|if byt NN Su.2=125 then if Su.2=0 then some true else if 1<Su.2 then ck ((0:Int)<=0/\0<(NN.length:Int))<|if byt NN 0=48 then some true else(dU Su.1).bind λ Px=>some (!Px)else(dU Su.1).bind λ Oc=>some (!Oc)else some true : Option Bool).bind λ t36=>if t36=true then some (0,0,2)else ck (inR (Su.2+1))<|some (Su.1,Su.2+1,0)
theorem pj (n:Nat)(NN:Bk)(r:Int×Int×Int)(h0:fm n NN=some r):aK Tryz.prog 165 [eS NN] (·=.tuple [.p (eK .i32 r.1),.p (eI r.2.1),.p (eI r.2.2)]):=by
 unfold fm at h0;refine bV good Tryz.func165 Z Z Z λ w0=>mP (λ v:Int×Int×Int=>.tuple [.p (eK .i32 v.1),.p (eI v.2.1),.p (eI v.2.2)]) ?_;refine nx 13 Z (bd h0 λ Q9 h1 h0=>?_);refine kE 0 Q9 (λ QG=>⟨[(0,.p (eS NN)),(5,.p (eK .i32 QG.1)),(6,.p (eI QG.2))],[]⟩) ?_ ?_
 ·refine nx 6 Z (oLs Z ?_);refine nx 2 Z (fD [32] h0 Z (λ QD h0=>?_) λ QD h0=>?_)
  ·exact gJ
  refine nx 4 Z (bd h0 λ o44 h1 h0=>?_);refine kN o44 (λ v45=>⟨[(5,.p (eK .i32 Q9.1)),(6,.p (eI Q9.2)),(54,.p (eB v45))],[]⟩) ?_ ?_
  ·refine nx 1 Z (fB [54] h0 Z (λ c37 h0=>?_) λ c37 h0=>?_)
   ·exact gJ
   refine nx 6 Z (oA h0 Z Z λ hk38 h0=>?_);exact nx 5 Z rn
  refine nx 3 Z (oI h1 Z λ PH h1=>?_);refine nx 2 Z (fN [36,37] h1 Z (λ QP h1=>?_) λ QP h1=>?_)
  ·refine nx 4 Z (fD [39,40,41] h1 Z (λ Ul h1=>?_) λ Ul h1=>?_)
   ·exact nx 14 Z ja
   refine nx 3 Z (fD [43,44] h1 Z (λ SO h1=>?_) λ SO h1=>?_)
   ·refine nx 1 Z (oI h1 Z λ Tf h1=>?_);refine nx 4 Z (fD [47,48,49,50] h1 Z (λ Ts h1=>?_) λ Ts h1=>?_)
    ·exact fx
    refine nx 1 Z (bd h1 λ Px SJ h1=>?_);refine oK (jx Q9.1 _ SJ) Z ⟨sr,trivial⟩ Tryz.call191 Z (nx 3 Z ?_);exact ip
   refine nx 7 Z (bd h1 λ Oc Uf h1=>?_);refine oK (jx Q9.1 _ Uf) Z ⟨sr,trivial⟩ Tryz.call191 Z (nx 3 Z ?_);exact ip
  exact nx 18 Z ja
 refine lG (λ (QW:Int×Int)=>⟨[(0,.p (eS NN)),(5,.p (eK .i32 QW.1)),(6,.p (eI QW.2))],[]⟩) (λ m (QW:Int×Int)=>cO NN m QW.1 QW.2) Y (0,0) h1 (gE rfl rfl) ?_;rintro m ⟨n11,i12⟩ h1;replace h1:cO NN (m+1) n11 i12=some Q9:=h1;rw [cO] at h1;refine nx 2 rfl (bd h1 λ o47 h2 h1=>?_);refine kN o47 (λ v48=>⟨[(0,.p (eS NN)),(5,.p (eK .i32 n11)),(6,.p (eI i12)),(15,.p (eB v48))],[]⟩) ?_ ?_
 ·refine nx 1 Z (fB [15] h1 Z (λ QQ h1=>?_) λ QQ h1=>?_)
  ·refine nx 8 Z (oI h1 Z λ RR h1=>?_);refine bd h1 λ Om RV h1=>oK (gP ([48,49,50,51,52,53,54,55,56,57,97,98,99,100,101,102]:Bk) (byt NN i12) _ RV) Z ⟨sr,sr,trivial⟩ Tryz.call82 Z (nx 8 Z ?_);refine fD [23] h1 Z (λ QE h1=>?_) λ QE h1=>?_
   ·exact cH
   refine nx 12 Z (oA h1 Z Z λ PO h1=>?_);exact nx 2 Z (eX (IntKind.wrap .i32 ((IntKind.wrap .i32 (16*n11))+(IntKind.wrap .i32 (Om))),i12+1) h1 (gE Z Z))
  exact cH
 refine nx 3 Z (oLs Z ?_);refine nx 2 Z (fD [11,12] h2 Z (λ P8 h2=>?_) λ P8 h2=>?_)
 ·exact pI
 exact pI
def jK (n:Nat)(NN:Bk):Option (Int×Int×Int) :=if NN=([]:Bk) then some (0,0,40)else ck ((0:Int)<=0/\0<(NN.length:Int))<|if byt NN 0=110 then some (10,1,0)else if byt NN 0=114 then some (13,1,0)else if byt NN 0=116 then some (9,1,0)else(if byt NN 0=34 then some true else some (decide (byt NN 0=92)) : Option Bool).bind λ t7=>if t7=true then ck ((0:Int)<=0/\0<(NN.length:Int))<|some (IntKind.wrap .i32 (byt NN 0),1,0)else if byt NN 0=117 then if (NN.length:Int)=1 then some (0,0,40)else ck ((0:Int)<=1/\1<(NN.length:Int))<|if byt NN 1=123 then ck ((0:Int)<=2/\2<=(NN.length:Int)/\(NN.length:Int)<=(NN.length:Int))<|(fm n (sub NN 2 (NN.length:Int))).bind λ N8=>ck (inR (N8.2.1+2))<|some (N8.1,N8.2.1+2,N8.2.2)else some (0,0,2)else some (0,0,2)
theorem sT (n:Nat)(NN:Bk)(r:Int×Int×Int)(h0:jK n NN=some r):aK Tryz.prog 139 [eS NN] (·=.tuple [.p (eK .i32 r.1),.p (eI r.2.1),.p (eI r.2.2)]):=by
 unfold jK at h0;refine bV good Tryz.func139 Z Z Z λ w0=>mP (λ v:Int×Int×Int=>.tuple [.p (eK .i32 v.1),.p (eI v.2.1),.p (eI v.2.2)]) ?_;refine nx 10 Z (oS Z Z ?_);refine nx 1 Z (fD [9] h0 Z (λ c1 h0=>?_) λ c1 h0=>?_)
 ·exact gJ
 refine nx 6 Z (oI h0 Z λ P2 h0=>?_);refine nx 7 Z (fD [12,13] h0 Z (λ c3 h0=>?_) λ c3 h0=>?_)
 ·exact gJ
 refine nx 6 Z (fD [14,15] h0 Z (λ c4 h0=>?_) λ c4 h0=>?_)
 ·exact gJ
 refine nx 6 Z (fD [16,17] h0 Z (λ c5 h0=>?_) λ c5 h0=>?_)
 ·exact gJ
 refine nx 2 Z (bd h0 λ Ql h1 h0=>?_);refine kN Ql (λ v20=>⟨[(0,.p (eS NN)),(11,.p (eK .u8 (byt NN 0))),(18,.p (eB v20))],[]⟩) ?_ ?_
 ·refine nx 1 Z (fB [18] h0 Z (λ c8 h0=>?_) λ c8 h0=>?_)
  ·refine nx 4 Z (oI h0 Z λ Rk h0=>?_);exact nx 6 Z rn
  refine nx 6 Z (fD [24,25] h0 Z (λ QF h0=>?_) λ QF h0=>?_)
  ·refine nx 5 Z (oLs Z ?_);refine nx 2 Z (fD [28] h0 Z (λ Qq h0=>?_) λ Qq h0=>?_)
   ·exact gJ
   refine nx 6 Z (oI h0 Z λ QM h0=>?_);refine nx 2 Z (fN [31] h0 Z (λ P8 h0=>?_) λ P8 h0=>?_)
   ·refine nx 5 Z (oP h0 Z Z Z λ RS h0=>?_);refine bd h0 λ N8 SL h0=>oK (pj _ (sub NN 2 (NN.length:Int)) _ SL) Z ⟨sr,trivial⟩ Tryz.call165 Z (nx 12 Z ?_);refine oA h0 Z Z λ UY h0=>nx 5 Z (mG (gE (t:=⟨[(2,.p (eK .i32 N8.1)),(3,.p (eI (N8.2.1+2))),(4,.p (eI N8.2.2))],[]⟩) Z Z) ?_);exact nx 1 Z rn
   exact gJ
  exact nx 9 Z rn
 refine nx 5 Z (fD [18,19] h1 Z (λ c6 h1=>?_) λ c6 h1=>?_)
 ·exact cZ
 exact fx
def eT (n:Nat)(NN:Bk):Nat->Int->(List UInt8)->Option ((Int×(List UInt8))⊕(Bk×Int×Int))|0,_,_=>none|m+1,at31,QZ=>(if at31<(NN.length:Int) then ck ((0:Int)<=at31/\at31<(NN.length:Int))<|some (!decide (byt NN at31=34))else some false : Option Bool).bind λ t35=>if t35=true then ck ((0:Int)<=at31/\at31<=(NN.length:Int)/\(NN.length:Int)<=(NN.length:Int))<|(bj (sub NN at31 (NN.length:Int))).bind λ Qa=>jn (if Qa.1=92 then ck (inR (at31+1))<|ck ((0:Int)<=at31+1/\at31+1<=(NN.length:Int)/\(NN.length:Int)<=(NN.length:Int))<|(jK n (sub NN (at31+1) (NN.length:Int))).bind λ Sn=>if Sn.2.2=0 then ck (inR (Sn.2.1+1))<|some (.inl (Sn.1,Sn.2.1+1))else some (.inr (.inr (([]:Bk),0,Sn.2.2)))else(if Qa.1=65533 then if Qa.2=1 then some true else if Qa.1<32 then some true else some (decide (Qa.1=127))else if Qa.1<32 then some true else some (decide (Qa.1=127)) : Option Bool).bind λ t51=>if t51=true then some (.inr (.inr (([]:Bk),0,2)))else some (.inl (Qa.1,Qa.2)) : Option ((Int×Int)⊕((Int×(List UInt8))⊕(Bk×Int×Int)))) λ S7=>(dY (cu.mk QZ) S7.1).bind λ QH=>ck (inR (at31+S7.2))<|eT n NN m (at31+S7.2) QH.2.2.NG else some (.inl (at31,QZ))
def gh (n:Nat)(NN:Bk):Option (Bk×Int×Int) :=if NN=([]:Bk) then some (([]:Bk),0,40)else ck ((0:Int)<=0/\0<(NN.length:Int))<|if byt NN 0=34 then jn (eT n NN n 1 []) λ TS=>if TS.1=(NN.length:Int) then some (([]:Bk),0,40)else(jy (cu.mk TS.2)).bind λ Qx=>if 4096<Qx.1 then some (([]:Bk),0,3)else(fW (cu.mk Qx.2.NG)).bind λ Qw=>ck (inR (TS.1+1))<|some (Qw.1,TS.1+1,0)else some (([]:Bk),0,2)
theorem np (n:Nat)(NN:Bk)(r:Bk×Int×Int)(h0:gh n NN=some r):aK Tryz.prog 117 [eS NN] (·=.tuple [.p (eS r.1),.p (eI r.2.1),.p (eI r.2.2)]):=by
 unfold gh at h0;refine bV good Tryz.func117 Z Z Z λ w0=>mP (λ v:Bk×Int×Int=>.tuple [.p (eS v.1),.p (eI v.2.1),.p (eI v.2.2)]) ?_;refine nx 10 Z (oS Z Z ?_);refine nx 1 Z (fD [13] h0 Z (λ c1 h0=>?_) λ c1 h0=>?_)
 ·exact gJ
 refine nx 6 Z (oI h0 Z λ P2 h0=>?_);refine nx 2 Z (fN [16] h0 Z (λ c3 h0=>?_) λ c3 h0=>?_)
 ·refine nx 4 rfl (mO rfl (ET Z Z Z Z Z Z Z ?_));refine nx 7 rfl ?_;obtain ⟨UM,h1,Ou,hR0⟩:=cw h0;refine kEx 0 (λ Se:Int×(List UInt8)=>UM=.inl Se) (λ Se=>⟨[(0,.p (eS NN)),(5,.ptr 5 0),(6,.p (eI Se.1))],[(5,[.bptr 184 2 5,.vec 101000 1 (5+1) (Se.2.map eU)])]⟩) (λ Se hv=>?_) ?_
  ·have h0:=Ou _ hv;refine nx 6 Z (oLs Z ?_);refine nx 2 Z (fD [73] h0 Z (λ c62 h0=>?_) λ c62 h0=>?_)
   ·exact gJ
   refine nx 5 Z (bd h0 λ Qx U5 h0=>?_);refine mO Z (aN [5] [101000] 103000 103001 (ov (cu.mk Se.2) _ U5) Z Z Z Z Z ⟨sr,trivial⟩ Z Z ⟨⟨_,Z,⟨sr,sr,trivial⟩⟩,trivial⟩ Z Z Z Z Z Z Z Z Tryz.call141 Z Z ?_);refine nx 2 Z (fD [75] h0 Z (λ c65 h0=>?_) λ c65 h0=>?_)
   ·exact gJ
   refine nx 4 Z (bd h0 λ Qw U4 h0=>?_);refine mO Z (aN [5] [103000] 104000 104000 (mY (cu.mk Qx.2.NG) _ U4) Z Z Z Z Z ⟨sr,trivial⟩ Z Z ⟨⟨_,Z,⟨sr,sr,trivial⟩⟩,trivial⟩ Z Z Z Z Z Z Z Z Tryz.call142 Z Z ?_);refine nx 1 Z (oA h0 Z Z λ hk68 h0=>?_);exact nx 5 Z rn
  refine lG (λ (R7:Int×(List UInt8))=>⟨[(0,.p (eS NN)),(5,.ptr 5 0),(6,.p (eI R7.1))],[(5,[.bptr 184 2 5,.vec 101000 1 (5+1) (R7.2.map eU)])]⟩) (λ m (R7:Int×(List UInt8))=>eT n NN m R7.1 R7.2) Y (1,[]) h1 (cG (jv ⟨er rfl,er rfl,er rfl,trivial⟩ ⟨⟨_,rfl,⟨sr,AV.sub_nilvec _ _ _,trivial⟩⟩,trivial⟩)) ?_;rintro m ⟨at31,QZ⟩ h1;replace h1:eT n NN (m+1) at31 QZ=some UM:=h1;rw [eT] at h1;refine nx 2 rfl (bd h1 λ S9 h2 h1=>?_);refine kN S9 (λ Ri=>⟨[(0,.p (eS NN)),(5,.ptr 5 0),(6,.p (eI at31)),(26,.p (eB Ri))],[(5,[.bptr 184 2 5,.vec 101000 1 (5+1) (QZ.map eU)])]⟩) ?_ ?_
  ·refine nx 1 Z (fB [26] h1 Z (λ Tq h1=>?_) λ Tq h1=>?_)
   ·refine nx 7 rfl (oP h1 Z Z Z λ T3 h1=>?_);refine bd h1 λ Qa Vd h1=>oK (ey (sub NN at31 (NN.length:Int)) _ Vd) rfl ⟨sr,trivial⟩ Tryz.call135 rfl (nx 7 rfl ?_);obtain ⟨TU,h2,hL1,hR1⟩:=cw h1;refine kX (λ RF:Int×Int=>TU=.inl RF) (λ RF=>⟨[(0,.p (eS NN)),(5,.ptr 5 0),(6,.p (eI at31)),(7,.p (eK .i32 RF.1)),(8,.p (eI RF.2))],[(5,[.bptr 184 2 5,.vec 101000 1 (5+1) (QZ.map eU)])]⟩) (λ RF hv=>?_) ?_
    ·have h1:=hL1 _ hv;refine nx 4 Z (bd h1 λ QH U8 h1=>?_);refine mO Z (aN [5] [101000] 102000 102001 (lH (cu.mk QZ) RF.1 _ U8) Z Z Z Z Z ⟨sr,sr,trivial⟩ Z Z ⟨⟨_,Z,⟨sr,sr,trivial⟩⟩,trivial⟩ Z Z Z Z Z Z Z Z Tryz.call140 Z Z ?_);refine nx 4 Z (oA h1 Z Z λ TX h1=>?_);exact nx 2 Z (eX (at31+RF.2,QH.2.2.NG) h1 (aU (bn 102000 101000 Z Z Z Z Z) (gE Z Z)))
    refine nx 5 Z (fD [35] h2 Z (λ RD h2=>?_) λ RD h2=>?_)
    ·refine nx 5 Z (oA h2 Z Z λ QK h2=>?_);refine oP h2 Z Z Z λ Td h2=>bd h2 λ Sn e44 h2=>oK (sT _ (sub NN (at31+1) (NN.length:Int)) _ e44) Z ⟨sr,trivial⟩ Tryz.call139 Z (nx 14 Z ?_);refine fN [46] h2 Z (λ Vl h2=>?_) λ Vl h2=>?_
     ·refine nx 5 Z (oA h2 Z Z λ SF h2=>?_);exact nO
     refine nx 8 Z (mG (gE (t:=⟨[(2,.p (eS ([]:Bk))),(3,.p (eI 0)),(4,.p (eI Sn.2.2))],[]⟩) Z Z) ?_);exact nx 1 Z Ib
    refine nx 2 Z (bd h2 λ o80 h3 h2=>?_);refine kN o80 (λ v81=>⟨[(0,.p (eS NN)),(5,.ptr 5 0),(6,.p (eI at31)),(7,.p (eK .i32 Qa.1)),(8,.p (eI Qa.2)),(64,.p (eB v81))],[(5,[.bptr 184 2 5,.vec 101000 1 (5+1) (QZ.map eU)])]⟩) ?_ ?_
    ·refine nx 1 Z (fB [64] h2 Z (λ Vk h2=>?_) λ Vk h2=>?_)
     ·exact nx 8 Z Ib
     exact fS
    refine nx 4 Z (fD [52,53] h3 Z (λ Uj h3=>?_) λ Uj h3=>?_)
    ·refine nx 4 Z (fD [55,56,57] h3 Z (λ c48 h3=>?_) λ c48 h3=>?_)
     ·exact nx 8 Z yX
     refine nx 4 Z (fD [59,60,61] h3 Z (λ c49 h3=>?_) λ c49 h3=>?_)
     ·exact pX
     exact pX
    refine nx 8 Z (fD [59,60,61] h3 Z (λ Ui h3=>?_) λ Ui h3=>?_)
    ·exact pX
    exact pX
   exact cH
  refine nx 3 Z (oLs Z ?_);refine nx 2 Z (fD [20,21] h2 Z (λ Vq h2=>?_) λ Vq h2=>?_)
  ·refine nx 2 Z (oI h2 Z λ SH h2=>?_);exact nO
  exact Bo
 exact gJ
def jq (NN:Bk):Option Bool :=(if (NN.length:Int)<=4096 then(fC NN).bind λ r2=>some r2 else some false : Option Bool).bind λ t4=>some t4
theorem oY (NN:Bk)(r:Bool)(h0:jq NN=some r):aK Tryz.prog 69 [eS NN] (·=.p (eB r)):=by
 unfold jq at h0;refine bV good Tryz.func69 Z Z Z λ w0=>mP (λ v:Bool=>.p (eB v)) ?_;refine nx 5 Z (bd h0 λ o6 h1 h0=>?_);refine kN o6 (λ v7=>⟨[(2,.p (eB v7))],[]⟩) ?_ ?_
 ·exact iU
 refine nx 2 Z (oLs Z ?_);refine nx 2 Z (fD [5,6] h1 Z (λ c1 h1=>?_) λ c1 h1=>?_)
 ·refine nx 1 Z (bd h1 λ r2 e3 h1=>?_);refine oK (ma NN _ e3) Z ⟨sr,trivial⟩ Tryz.call103 Z (nx 3 Z ?_);exact ip
 exact fx
end Go.Ab.R06
end
section
namespace Go.Ab.R06
open Go.Ab Go.Ab.RB
variable {p:Prop}
theorem C9 (h:p:=by
 refine Prod.ext ?_ rfl;show _=r.toNat
 simp only; omega):p:=h
theorem J0 (h:p:=by
 refine aR (λ h1=>aR (λ h2=>ae ?_) (λ h2=>aR (λ h3=>ae ?_) (λ h3=>ae (eqB ?_)))) (λ h1=>aR (λ h3=>ae ?_) (λ h3=>ae (eqB ?_)))
 ·symm; rw [decide_eq_true_eq]; left; simp only; omega
 ·symm; rw [decide_eq_true_eq]; right; left; simp only; omega
 ·rw [decide_eq_true_eq,decide_eq_true_eq]; unfold pi; simp only; omega
 ·symm; rw [decide_eq_true_eq]; right; left; simp only; omega
 ·rw [decide_eq_true_eq,decide_eq_true_eq]; unfold pi; simp only; omega):p:=h
theorem H0 (h:p:=by
 unfold strings_IndexByte;have:((b.toNat:Int).toNat.toUInt8)=b:=by simp
 rw [this]; rfl):p:=h
theorem yN (h:p:=by exact ay Z (ae Z)):p:=h
theorem Hk (h:p:=by exact ay O (aE O (ae (by simp; omega)))):p:=h
theorem bO (h:p:=by exact eM O O):p:=h
theorem lL (h:p:=by rw [ro]; omega):p:=h
theorem nN (h:p:=by exact aT Z Z):p:=h
theorem pU (h:p:=by exact aE (eM O O) (ae Z)):p:=h
theorem BU (h:p:=by rw [la]; omega):p:=h
theorem yv (h:p:=by exact ax O (ae Z)):p:=h
section
variable {α β:Type} {P:α->Prop}
theorem aC {g:Nat->Nat->Option β}{k:Nat->Nat->β->Option α}(x:β)(h:Ev2 g (·=x))(hk:Ev2 (λ n m=>k n m x) P):Ev2 (λ n m=>(g n m).bind (k n m)) P :=
 am (·=x) h λ y hy=>by grind
end
def qB (b:UInt8):Bool:=(decide (97<=b.toNat)&&decide (b.toNat<=122))||(decide (65<=b.toNat)&&decide (b.toNat<=90))||decide (b.toNat=95)
def jC (b:UInt8):Bool:=decide (48<=b.toNat)&&decide (b.toNat<=57)
def idB (b:UInt8):Bool:=qB b||jC b
def vt:Bk->Bool|[]=>false|b::r=>decide ((b::r).length<=64)&&qB b&&r.all idB
def AA (s:Bk)(i:Nat):Bool:=qB (s.getD i 0)||(decide (i≠0)&&jC (s.getD i 0))
def tF (p:Nat->Bool):Nat->Nat->Bool|_,0=>true|i,k+1=>p i&&tF p (i+1) k
theorem vl (p:Nat->Bool):∀ (k i:Nat),tF p i k=true↔∀ j,i<=j->j<i+k->p j=true
 | 0,i=>by grind [tF]
 | k+1,i=>by
  rw [tF,n8,vl p k (i+1)]
  grind
theorem or32:(List.range 256).all (λ n=>(decide ((97:Int)<=iOr .u8 (n:Int) 32)&&decide (iOr .u8 (n:Int) 32<=122))==((decide (97<=n)&&decide (n<=122))||(decide (65<=n)&&decide (n<=90))))=true:=by kernel_rfl
theorem Mi (b:UInt8):(97<=iOr .u8 ((b.toNat:Nat):Int) 32/\iOr .u8 ((b.toNat:Nat):Int) 32<=122)↔((97<=b.toNat/\b.toNat<=122)\/(65<=b.toNat/\b.toNat<=90)):=by
 have h:=rd.1 or32 b.toNat (List.mem_range.2 b.toNat_lt)
 grind
theorem vw (b:UInt8):qB b=true↔(97<=b.toNat/\b.toNat<=122)\/(65<=b.toNat/\b.toNat<=90)\/b.toNat=95:=by
 grind [qB]
theorem rU (b:UInt8):jC b=true↔48<=b.toNat/\b.toNat<=57:=by simp [jC]
theorem eqB {a b:Bool}(h:a=true↔b=true):a=b:=Bool.eq_iff_iff.2 h
theorem rK (s:Bk)(i:Nat):AA s i=true↔qB (s.getD i 0)=true\/(i≠0/\jC (s.getD i 0)=true):=by simp [AA]
theorem CG (s:Bk):vt s=true↔s≠[]/\s.length<=64/\tF (AA s) 0 s.length=true:=by
 rw [vl]
 cases s with
 | nil=>simp [vt]
 | cons b r=>
  simp only [vt,n8,decide_eq_true_eq,rd];constructor
  ·grind [rK,List.getElem_mem,idB]
  ·rintro ⟨_,h1,h2⟩;refine ⟨⟨h1,?_⟩,λ x hx=>?_⟩
   ·have:=(rK _ _).1 (h2 0 O G)
    grind
   grind [List.getElem_of_mem,rK,idB]
end Go.Ab.R06
namespace Go.Ab.R06
open Go.Ab Go.Ab.RB Go.Lib
def qG (acc:Nat)(l:Bk):Nat:=l.foldl (λ a b=>a*10+(b.toNat-48)) acc
theorem AJ (a:Nat):qG a []=a:=rfl
theorem wZ (a:Nat)(b:UInt8)(l:Bk):qG a (b::l)=qG (a*10+(b.toNat-48)) l:=by grind [qG]
theorem DX:∀ (l:Bk) (a:Nat),a<=qG a l
 | [],a=>Nat.le_of_eq (AJ a).symm
 | b::r,a=>by
  rw [wZ];have:=DX r (a*10+(b.toNat-48))
  grind
theorem DN {l:Bk}(h:l.all jC=true){b:UInt8}(hb:b∈l):48<=b.toNat/\b.toNat<=57:=(rU b).1 (rd.1 h b hb)
theorem Is:∀ (l:Bk) (acc:Nat),l.all jC=true->(qG acc l<=18446744073709551615->parseUintM 18446744073709551615 acc l=.ok (qG acc l))/\(18446744073709551615<qG acc l->acc<=18446744073709551615->parseUintM 18446744073709551615 acc l=.range)
 | [],acc,_=>by
  rw [AJ];exact ⟨λ _=>rfl,λ h h'=>by omega⟩
 | b::r,acc,h=>by
  have hb:=DN h List.mem_cons_self;have hr:r.all jC=true:=by grind
  rw [parseUintM,if_pos hb,wZ];have hg:=DX r (acc*10+(b.toNat-48));have ih:=Is r (acc*10+(b.toNat-48)) hr
  grind
theorem MS (l:Bk)(Ob:l≠[])(h:l.all jC=true):parseUintB 64 l=if qG 0 l<=18446744073709551615 then .ok (qG 0 l) else .range:=by
 grind [parseUintB,Is]
def E9 (l:Bk):Bool:=!l.isEmpty&&l.all jC&&(decide (l.getD 0 0≠48)||decide (l.length=1))
theorem zI (l:Bk):E9 l=true↔l≠[]/\l.all jC=true/\(l.getD 0 0≠48\/l.length=1):=by
 grind [E9]
def wU (s:Bk):Bool:=decide (0<s.length)&&decide (s.getD 0 0=45)
def digits (s:Bk):Bk:=if wU s=true then s.drop 1 else s
def wK (s:Bk):Bool:=!(wU s&&decide (s.drop 1=[48]))&&E9 (digits s)
def sW (s:Bk):Int:=if wU s=true then -(qG 0 (digits s):Int) else (qG 0 (digits s):Int)
def sZ:Int:=9007199254740992
def AQ (s:Bk):Int×Int:=if wK s=true then (if -sZ<=sW s/\sW s<=sZ then (sW s,0) else (0,5)) else (0,2)
theorem IW (s:Bk)(hs:s.length<=1000000000):∀ (k i:Nat),i+k=s.length->Ev2 (λ _ m=>cR s m (i:Int)) (·=if tF (λ j=>jC (s.getD j 0)) i k then .inl () else .inr false):=by
 intro k
 induction k with
 | zero=>
  intro i hi;refine bc ?_;simp only [cR];refine ax O (ae rfl)
 | succ k ih=>
  intro i hi;refine bc ?_;simp only [cR];refine ay O ?_;have hb:byt s i=((s.getD i 0).toNat:Int):=jO s i;rw [hb];refine aC (!jC (s.getD i 0)) ?_ ?_
  ·have h:=rU (s.getD i 0);generalize s.getD i 0=b at h ⊢;refine aE O (aR (λ h1=>ae ?_) (λ h1=>aE O (ae ?_)))
   ·grind
   grind
  ·cases hk:jC (s.getD i 0) with
   | false=>simp_all [ae,tF]
   | true=>
    refine ax G (aE bO ?_);have:=ih (i+1) O
    grind [tF]
theorem IF (s:Bk)(p:UInt8->Bool):tF (λ j=>p (s.getD j 0)) 0 s.length=s.all p:=by
 grind [vl,List.getElem_of_mem]
theorem ye (s:Bk)(hs:s.length<=1000000000):Ev2 (λ n _=>iq n s) (·=wK s):=by
 simp only [iq];have hb:byt s 0=((s.getD 0 0).toNat:Int):=jO s 0;have hneg:wU s=true↔0<s.length/\s.getD 0 0=45:=by simp [wU]
 have h45:(s.getD 0 0).toNat=45↔s.getD 0 0=45:=⟨λ h=>UInt8.toNat_inj.1 h,λ h=>by rw [h]; rfl⟩
 have body:∀ t:Bk,t.length<=1000000000->Ev2 (λ n m=>jn (cR t n 0) λ Qr=>
   ((if t=([]:Bk) then some false else ck ((0:Int)<=0/\0<(t.length:Int))<|if byt t 0=48 then some (decide ((t.length:Int)=1)) else some true):Option Bool).bind λ Pr=>some Pr) (·=E9 t):=by
  intro t ht;have l:=IW t ht t.length 0 O;rw [IF] at l;have hc:=zI t;have hb':byt t 0=((t.getD 0 0).toNat:Int):=jO t 0;have h48:(t.getD 0 0).toNat=48↔t.getD 0 0=48:=⟨λ h=>UInt8.toNat_inj.1 h,λ h=>by rw [h]; rfl⟩
  cases ha:t.all jC with
  | false=>
   rw [ha] at l hc;refine kF false (cp l) (eqB ?_)
   grind
  | true=>
   rw [ha] at l hc;refine ik () (cp l) (am (·=E9 t) ?_ (λ x hx=>ae hx));refine aR (λ h=>ae (eqB ?_)) (λ h=>aE ?_ ?_)
   ·grind
   ·grind
   ·rw [hb'];refine aR (λ h1=>ae (eqB ?_)) (λ h1=>ae (eqB ?_))
    ·grind
    grind
 refine dH (aC (wU s) ?_ ?_)
 ·refine aR (λ h=>aE O (ae (eqB ?_))) (λ h=>ae (eqB ?_))
  ·grind
  grind
 ·rw [kG];show Ev2 (λ n m=>if wU s=true then ck _ (if s.drop 1=[48] then some (Sum.inr false) else some (Sum.inl (s.drop 1))) else some (Sum.inl s)) _;refine aR (λ h=>aE ?_ (aR (λ h1=>ae ?_) (λ h1=>ae ?_))) (λ h=>ae ?_)
  ·grind
  ·grind [wK]
  ·have e:wK s=E9 (s.drop 1):=by grind [wK,digits]
   rw [e];exact body _ hC
  grind [wK,digits]
theorem L0 (v:Int):iM v=some (decide (-sZ<=v/\v<=sZ)):=by
 simp only [iM];by_cases h:(-9007199254740992:Int)<=v
 ·simp_all [sZ]
 ·rw [if_neg h,Option.bind_some];refine congrArg some (eqB ?_)
  grind [sZ]
theorem zF {s:Bk}(h:wK s=true):digits s≠[]/\(digits s).all jC=true:=by
 grind [wK,zI]
theorem MF (s:Bk)(h:wK s=true):parseIntB 64 s=if (if wU s=true then 9223372036854775808<qG 0 (digits s) else 9223372036854775808<=qG 0 (digits s)) then .range else .ok (sW s):=by
 obtain ⟨h1,h2⟩:=zF h
 cases s with
 | nil=>grind [digits]
 | cons c r=>
  have e45:c.toNat=45↔c=45:=⟨λ h=>UInt8.toNat_inj.1 h,λ h=>by rw [h]; rfl⟩
  grind [wU,digits,DN,MS,parseIntB,sW]
theorem Ak (s:Bk)(hs:s.length<=1000000000):Ev2 (λ n _=>ko n s) (·=AQ s):=by
 simp only [ko];refine aC _ (ye s hs) ?_
 cases hc:wK s with
 | false=>simp_all [ae,AQ]
 | true=>
  refine ax G ?_
  have hp:jt s 10 64=some (match parseIntB 64 s with|.ok v=>(v,false)|.range=>(intSat 64 s,true)|_=>(0,true)):=by
   grind [jt,jW]
  rw [MF s hc] at hp;have e:AQ s=(if -sZ<=sW s/\sW s<=sZ then (sW s,0) else (0,5)):=by simp [AQ,hc]
  rw [e];by_cases hr:(if wU s=true then 9223372036854775808<qG 0 (digits s) else 9223372036854775808<=qG 0 (digits s))
  ·rw [if_pos hr] at hp;refine aC _ (aT hp rfl) ?_;refine aC true yN (ay rfl (ae ?_))
   grind [sW,sZ]
  ·rw [if_neg hr] at hp;refine aC _ (aT hp rfl) ?_;refine aC (!decide (-sZ<=sW s/\sW s<=sZ)) ?_ ?_
   ·simp_all [L0,ae]
   ·by_cases q:-sZ<=sW s/\sW s<=sZ
    ·simp_all [ae]
    ·rw [if_neg q];exact ay (by grind) (ae rfl)
end Go.Ab.R06
namespace Go.Ab.R06
open Go.Ab Go.Ab.RB Go.Lib
theorem zO (x:Int):IntKind.wrap .u8 x=x%256:=by simp [IntKind.wrap,IntKind.bits,IntKind.signed]
theorem wrap32 (x:Int):IntKind.wrap .u32 x=x%4294967296:=by simp [IntKind.wrap,IntKind.bits,IntKind.signed]
theorem shr6 (x:Int):ij .i32 x 6=x / 64:=by
 show x.fdiv (2^6)=x / 64
 grind
theorem ND (x:Int):ij .i32 x 12=x / 4096:=by
 show x.fdiv (2^12)=x / 4096
 grind
theorem Nb (x:Int):ij .i32 x 18=x / 262144:=by
 show x.fdiv (2^18)=x / 262144
 grind
theorem t63:(List.range 256).all (λ n=>iz .u8 (n:Int) 63==((n%64:Nat):Int))=true:=by kernel_rfl
theorem t128:(List.range 64).all (λ n=>iOr .u8 128 (n:Int)==((128+n:Nat):Int))=true:=by kernel_rfl
theorem t192:(List.range 32).all (λ n=>iOr .u8 192 (n:Int)==((192+n:Nat):Int))=true:=by kernel_rfl
theorem t224:(List.range 16).all (λ n=>iOr .u8 224 (n:Int)==((224+n:Nat):Int))=true:=by kernel_rfl
theorem t240:(List.range 8).all (λ n=>iOr .u8 240 (n:Int)==((240+n:Nat):Int))=true:=by kernel_rfl
theorem Ix (x:Int):iz .u8 (IntKind.wrap .u8 x) 63=x%64:=by
 rw [zO];obtain ⟨n,hn⟩:∃ n:Nat,x%256=n:=⟨(x%256).toNat,by omega⟩
 grind [t63]
theorem HK {x:Int}(h0:0<=x)(h1:x<64):iOr .u8 128 x=128+x:=by
 obtain ⟨n,rfl⟩:∃ n:Nat,x=n:=⟨x.toNat,by omega⟩
 grind [t128]
theorem M8 {x:Int}(h0:0<=x)(h1:x<32):iOr .u8 192 x=192+x:=by
 obtain ⟨n,rfl⟩:∃ n:Nat,x=n:=⟨x.toNat,by omega⟩
 grind [t192]
theorem MY {x:Int}(h0:0<=x)(h1:x<16):iOr .u8 224 x=224+x:=by
 obtain ⟨n,rfl⟩:∃ n:Nat,x=n:=⟨x.toNat,by omega⟩
 grind [t224]
theorem NA {x:Int}(h0:0<=x)(h1:x<8):iOr .u8 240 x=240+x:=by
 obtain ⟨n,rfl⟩:∃ n:Nat,x=n:=⟨x.toNat,by omega⟩
 grind [t240]
def iE (r:Int):Prop:=(0<=r/\r<55296)\/(57343<r/\r<=1114111)
theorem zm (p:Bk)(r:Int)(h:iE r)(hp:p.length<=100000000000):eC p r=some (p++encodeRune r):=by
 have h0:0<=r/\r<=1114111:=by grind [iE]
 have hw:IntKind.wrap .u32 r=r:=by rw [wrap32]; omega
 unfold eC;rw [hw];by_cases h1:r<=127
 ·have hw8:IntKind.wrap .u8 r=r:=by rw [zO]; omega
  grind [jW,encodeRune,encodeRuneZ,u8]
 rw [if_neg h1];unfold dD;rw [hw,Ix,shr6,ND,Nb,Ix,Ix];have o1:iOr .u8 128 (r%64)=128+r%64:=HK O O;have o2:iOr .u8 128 (r / 64%64)=128+r / 64%64:=HK O O;have o3:iOr .u8 128 (r / 4096%64)=128+r / 4096%64:=HK O O;rw [o1,o2,o3];have n1:¬ (0<=r/\r<=127):=by omega
 by_cases h2:r<=2047
 ·grind [u8,zO,M8,jW,encodeRune,encodeRuneZ]
 rw [if_neg h2];have n2:¬ (128<=r/\r<=2047):=by omega
 by_cases h3:r<55296\/(57343<r/\r<=65535)
 ·have hw8:IntKind.wrap .u8 (r / 4096)=r / 4096:=by rw [zO]; omega
  grind [MY,jW,encodeRune,encodeRuneZ,u8]
 ·have h4:65535<r:=by grind [iE]
  have hw8:IntKind.wrap .u8 (r / 262144)=r / 262144:=by rw [zO]; omega
  grind [NA,jW,encodeRune,encodeRuneZ,u8]
theorem rQ (l:Bk)(h:l≠[]):decodeGo (str l)=decodeL l:=by
 unfold decodeGo;rw [if_neg]
 ·rfl
 grind [jc]
theorem nc (r:Int)(_h:iE r):1<=(encodeRune r).length/\(encodeRune r).length<=4:=by
 grind [encodeRune,encodeRuneZ]
theorem Dd (r:Int)(h:iE r)(t:Bk):decodeL (encodeRune r++t)=(r.toNat,(encodeRune r).length):=by
 have h0:0<=r/\r<=1114111:=by unfold iE at h; omega
 have hb:∀ x:Int,0<=x->x<256->(x.toNat.toUInt8).toNat=x.toNat:=λ x a b=>by
  show (UInt8.ofNat x.toNat).toNat=_;rw [UInt8.toNat_ofNat']; omega
 rw [decodeL_N];by_cases h1:r<=127
 ·have e:encodeRune r=[r.toNat.toUInt8]:=by simp only [encodeRune,encodeRuneZ,if_pos (show 0<=r/\r<=127 from ⟨h0.1,h1⟩),dg,th]
  rw [e];have b0:=hb r O O;simp only [List.cons_append,List.getD_cons_zero,b0];unfold decodeN;rw [if_pos O]; rfl
 have n1:¬ (0<=r/\r<=127):=by omega
 by_cases h2:r<=2047
 ·have e:encodeRune r=[(192+r / 64).toNat.toUInt8,(128+r%64).toNat.toUInt8]:=by
   simp only [encodeRune,encodeRuneZ,if_neg n1,if_pos (show 128<=r/\r<=2047 by omega),dg,th]
  rw [e];have b0:=hb (192+r / 64) O O;have b1:=hb (128+r%64) O O;simp only [List.cons_append,List.getD_cons_zero,List.getD_cons_succ,b0,b1,cl,List.nil_append];unfold decodeN;rw [if_neg O,if_pos O,if_pos O];exact C9
 have n2:¬ (128<=r/\r<=2047):=by omega
 by_cases h3:r<55296\/(57343<r/\r<=65535)
 ·have e:encodeRune r=[(224+r / 4096).toNat.toUInt8,(128+r / 64%64).toNat.toUInt8,(128+r%64).toNat.toUInt8]:=by
   simp only [encodeRune,encodeRuneZ,if_neg n1,if_neg n2,if_pos (show (2048<=r/\r<55296)\/(57343<r/\r<=65535) by omega),dg,th]
  rw [e];have b0:=hb (224+r / 4096) O O;have b1:=hb (128+r / 64%64) O O;have b2:=hb (128+r%64) O O;simp only [List.cons_append,List.getD_cons_zero,List.getD_cons_succ,b0,b1,b2,cl,List.nil_append];unfold decodeN;rw [if_neg O,if_neg O,if_pos O,if_pos O];exact C9
 ·have h4:65535<r:=by unfold iE at h; omega
  have e:encodeRune r=[(240+r / 262144).toNat.toUInt8,(128+r / 4096%64).toNat.toUInt8,(128+r / 64%64).toNat.toUInt8,(128+r%64).toNat.toUInt8]:=by
   simp only [encodeRune,encodeRuneZ,if_neg n1,if_neg n2,if_neg (show ¬ ((2048<=r/\r<55296)\/(57343<r/\r<=65535)) by omega),if_pos (show 65536<=r/\r<=1114111 by omega),dg,th]
  rw [e];have b0:=hb (240+r / 262144) O O;have b1:=hb (128+r / 4096%64) O O;have b2:=hb (128+r / 64%64) O O;have b3:=hb (128+r%64) O O;simp only [List.cons_append,List.getD_cons_zero,List.getD_cons_succ,b0,b1,b2,b3,cl,List.nil_append];unfold decodeN;rw [if_neg O,if_neg O,if_neg O,if_pos O,if_pos O];exact C9
theorem xy (r:Int)(h:iE r)(t:Bk):validD (encodeRune r++t)=validD t:=by
 have hl:=nc r h
 have Ob:encodeRune r++t≠[]:=by
  intro q; rw [List.append_eq_nil_iff] at q; rw [q.1] at hl; simp at hl
 rw [validD_step _ Ob,Dd r h t,if_neg]
 ·simp
 ·rintro ⟨a,b⟩;have hr:r=65533:=by omega
  subst hr;simp [encodeRune,encodeRuneZ] at b
theorem me (l:Bk)(h:l≠[]):1<=(decodeL l).2/\(decodeL l).2<=l.length/\(¬ ((decodeL l).1=65533/\(decodeL l).2=1)->iE ((decodeL l).1:Int)/\encodeRune ((decodeL l).1:Int)=l.take (decodeL l).2):=by
 have hl:0<l.length:=List.length_pos_iff.2 h;have hd:=decN l.length (l.getD 0 0).toNat (l.getD 1 0).toNat (l.getD 2 0).toNat (l.getD 3 0).toNat O (UInt8.toNat_lt _);rw [<- decodeL_N] at hd;refine ⟨hd.1,hd.2.1,λ q=>⟨?_,encode_decode l h q⟩⟩;have:=hd.2.2.2.2.2;unfold iE; omega
end Go.Ab.R06
namespace Go.Ab.R06
open Go.Ab Go.Ab.RB Go.Lib
theorem Lx (f:Bk)(r:Int)(hr:iE r)(h:f.length<=10000000000):dY (cu.mk f) r=some (((encodeRune r).length:Int),false,cu.mk (f++encodeRune r)):=by
 have hl:=nc r hr;unfold dY gI;rw [Option.bind_some,zm f r hr O,Option.bind_some];have e:((f++encodeRune r).length:Int)-(f.length:Int)=(encodeRune r).length:=by rw [la]; omega
 rw [e,jW bO]
theorem bstr (f:Bk)(h:f.length<=1000000000000):fW (cu.mk f)=some (f,cu.mk f):=by
 unfold fW;rw [jW (by simp only; omega)]
theorem LZ (s:Bk):jq s=some (decide (s.length<=4096)&&validD s):=by
 unfold jq;by_cases h:(s.length:Int)<=4096
 ·have hv:fC s=some (validD s):=by unfold fC; exact jW O
  rw [if_pos h,hv];simp; omega
 ·rw [if_neg h];simp; intro q; omega
end Go.Ab.R06
namespace Go.Ab.R06
open Go.Ab Go.Ab.RB Go.Lib
def ux (b:UInt8):Option Nat:=if 48<=b.toNat/\b.toNat<=57 then some (b.toNat-48) else if 97<=b.toNat/\b.toNat<=102 then some (b.toNat-87) else none
def Fx:Bk:=[48,49,50,51,52,53,54,55,56,57,97,98,99,100,101,102]
theorem hexT:(List.range 256).all (λ n=>indexByte Fx (UInt8.ofNat n)==(match ux (UInt8.ofNat n) with|some d=>(d:Int)|none=>-1))=true:=by kernel_rfl
theorem xr (b:UInt8):indexByte Fx b=match ux b with|some d=>(d:Int)|none=>-1:=by
 have:=eq_of_beq (rd.1 hexT b.toNat (List.mem_range.2 b.toNat_lt));simpa using this
theorem KJ {b:UInt8}{d:Nat}(h:ux b=some d):d<16:=by
 unfold ux at h;split at h
 ·cases h; omega
 ·split at h
  ·cases h; omega
  ·cases h
def dc:Nat->Bk->Nat->Nat×Nat
 | 0,_,a=>(a,0)
 | _+1,[],a=>(a,0)
 | k+1,b::r,a=>match ux b with
  | some d=>((dc k r (16*a+d)).1,(dc k r (16*a+d)).2+1)
  | none=>(a,0)
theorem qy:∀ (k:Nat) (l:Bk) (a:Nat),(dc k l a).2<=k/\(dc k l a).2<=l.length
 | 0,_,_=>⟨bt _,qr _⟩
 | _+1,[],_=>⟨qr _,bt _⟩
 | k+1,b::r,a=>by
  unfold dc
  cases ux b with
  | none=>exact ⟨qr _,qr _⟩
  | some d=>have:=qy k r (16*a+d); simp only [cl]; omega
theorem qg (n:Int)(h0:0<=n)(h1:n<2147483648):IntKind.wrap .i32 n=n:=by
 simp [IntKind.wrap,IntKind.bits,IntKind.signed];omega
theorem Ml (s:Bk)(_hs:s.length<=1000000000):∀ (k i a:Nat),i+k=6->i<=s.length->a<16^i->Ev2 (λ _ m=>cO s m (a:Int) (i:Int))
  (·=(((dc k (s.drop i) a).1:Int),((i+(dc k (s.drop i) a).2:Nat):Int))):=by
 intro k
 induction k with
 | zero=>
  intro i a hi hl ha;refine bc ?_;simp only [cO];refine aC false ?_ (ax G (ae (by simp [dc])));exact aR (λ h=>ae hC) (λ h=>ae rfl)
 | succ k ih=>
  intro i a hi hl ha;refine bc ?_;simp only [cO];by_cases h:i<s.length
  ·refine aC true (ay O (ae hC)) (ay Z (aE O ?_));have hb:byt s i=((s.getD i 0).toNat:Int):=jO s i;rw [hb]
   have hd:s.drop i=s.getD i 0::s.drop (i+1):=by
    rw [List.getD_eq_getElem?_getD,List.getElem?_eq_getElem h,n9];exact List.drop_eq_getElem_cons h
   rw [hd];generalize s.getD i 0=b
   have hx:strings_IndexByte ([48,49,50,51,52,53,54,55,56,57,97,98,99,100,101,102]:Bk) (b.toNat:Int)=some (indexByte Fx b):=by
    exact H0
   refine aC _ (aT hx Z) ?_;rw [xr];unfold dc
   cases hh:ux b with
   | none=>exact ay (by decide) (ae G)
   | some d=>
    have hlt:=KJ hh;have hp:16^i<=16^5:=Nat.pow_le_pow_right (by decide) O;have hp5:(16:Nat)^5=1048576:=rfl;refine ax G (aE bO ?_);have e1:IntKind.wrap .i32 (16*(a:Int))=16*(a:Int):=qg _ O O;have e2:IntKind.wrap .i32 (d:Int)=(d:Int):=qg _ O O
    have e3:IntKind.wrap .i32 (16*(a:Int)+(d:Int))=((16*a+d:Nat):Int):=by
     rw [qg _ O O]; omega
    rw [e1,e2,e3];have:=ih (i+1) (16*a+d) O O  (by rw [Nat.pow_succ]; omega);rw [show (((i+1:Nat)):Int)=(i:Int)+1 by omega] at this;refine bZ this λ r hr=>?_;rw [hr];refine Prod.ext rfl ?_;show ((i+1+_:Nat):Int)=((i+(_+1):Nat):Int);omega
  ·refine aC false yv (ax G (ae ?_));rw [List.drop_of_length_le O];simp [dc]
def i7 (s:Bk):Int×Int×Int :=
 let h:=dc 6 s 0
 if h.2=s.length then (0,0,40)
 else if s.getD h.2 0≠125\/h.2=0\/(1<h.2/\s.getD 0 0=48)\/validRune (h.1:Int)=false then (0,0,2)
 else ((h.1:Int),((h.2+1:Nat):Int),0)
theorem AN {b:UInt8}{n:Nat}(hn:n<256):b.toNat=n↔b=UInt8.ofNat n:=by
 constructor
 ·intro h; apply UInt8.toNat_inj.1; rw [h,UInt8.toNat_ofNat']; omega
 ·intro h; rw [h,UInt8.toNat_ofNat']; omega
theorem Lr {s:Bk}{v c:Nat}(h:dc 6 s 0=(v,c)):i7 s=if c=s.length then (0,0,40) else if s.getD c 0≠125\/c=0\/(1<c/\s.getD 0 0=48)\/validRune (v:Int)=false then (0,0,2) else ((v:Int),((c+1:Nat):Int),0):=by
 unfold i7; rw [h]
theorem Lc (s:Bk)(hs:s.length<=1000000000):Ev2 (λ n _=>fm n s) (·=i7 s):=by
 simp only [fm];have l:=Ml s hs 6 0 0 rfl (qr _) (by decide);rw [List.drop_zero,sm] at l;have hle:=qy 6 s 0;refine aC _ (cp l) ?_;obtain ⟨v,c,hh⟩:∃ v c,dc 6 s 0=(v,c):=⟨_,_,rfl⟩
 have hP:=Lr hh;rw [hh] at hle ⊢;simp only at hle ⊢;refine aR (λ h=>ae ?_) (λ h=>?_)
 ·rw [hP,if_pos O]
 rw [if_neg (show ¬ c=s.length by omega)] at hP;have hb:byt s c=((s.getD c 0).toNat:Int):=jO s c;have hb0:byt s 0=((s.getD 0 0).toNat:Int):=jO s 0;have h125:(s.getD c 0).toNat=125↔s.getD c 0=125:=AN (by decide);have h48:(s.getD 0 0).toNat=48↔s.getD 0 0=48:=AN (by decide);have hv:dU (v:Int)=some (validRune (v:Int)):=rfl
 have key:Ev2 (λ _ _=>(ck ((0:Int)<=(c:Int)/\(c:Int)<(s.length:Int)) <|
  if byt s c=125 then
   if (c:Int)=0 then some true
   else
   if 1<(c:Int) then
    ck ((0:Int)<=0/\0<(s.length:Int)) <|
    if byt s 0=48 then some true
    else (dU (v:Int)).bind λ Px=>some (!Px)
   else (dU (v:Int)).bind λ Oc=>some (!Oc)
  else some true:Option Bool)) (·=decide (s.getD c 0≠125\/c=0\/(1<c/\s.getD 0 0=48)\/validRune (v:Int)=false)):=by
  refine aE O ?_;rw [hb,hb0];refine aR (λ h1=>aR (λ h2=>ae ?_) (λ h2=>aR (λ h3=>aE O (aR (λ h4=>ae ?_) (λ h4=>?_))) (λ h3=>?_))) (λ h1=>ae ?_)
  ·symm; rw [decide_eq_true_eq]; right; left; omega
  ·symm; rw [decide_eq_true_eq]; right; right; left; exact ⟨by omega,h48.1 O⟩
  ·have q1:¬ s.getD c 0≠125:=λ q=>q (h125.1 O);have q2:¬ (1<c/\s.getD 0 0=48):=λ q=>h4 (by have:=h48.2 q.2; omega);refine aC _ (aT hv Z) (ae (eqB ?_));rw [decide_eq_true_eq];have:¬ c=0:=by omega
   simp only [q1,q2,false_or,this,Bool.not_eq_true']
  ·have q1:¬ s.getD c 0≠125:=λ q=>q (h125.1 O);refine aC _ (aT hv Z) (ae (eqB ?_));rw [decide_eq_true_eq];have a1:¬ c=0:=by omega
   have a2:¬ 1<c:=by omega
   simp only [q1,a1,a2,false_or,false_and,Bool.not_eq_true']
  ·symm; rw [decide_eq_true_eq]; left; intro q; exact h1 (by have:=h125.2 q; omega)
 refine aC _ key ?_;refine aR (λ h1=>ae ?_) (λ h1=>aE bO (ae ?_))
 ·rw [hP,if_pos (of_decide_eq_true h1)]
 ·rw [hP,if_neg (λ q=>h1 (decide_eq_true q))];refine Prod.ext rfl (Prod.ext ?_ rfl);show (c:Int)+1=((c+1:Nat):Int);omega
def fc (s:Bk):Int×Int×Int:=match s with
 | []=>(0,0,40)
 | b::r=>if b.toNat=110 then (10,1,0) else if b.toNat=114 then (13,1,0) else if b.toNat=116 then (9,1,0)
  else if b.toNat=34\/b.toNat=92 then ((b.toNat:Int),1,0)
  else if b.toNat=117 then (match r with
   | []=>(0,0,40)
   | c::t=>if c.toNat=123 then ((i7 t).1,(i7 t).2.1+2,(i7 t).2.2) else (0,0,2))
  else (0,0,2)
theorem tv (b:UInt8)(r:Bk):fc (b::r)=if b.toNat=110 then (10,1,0) else if b.toNat=114 then (13,1,0) else if b.toNat=116 then (9,1,0)
  else if b.toNat=34\/b.toNat=92 then ((b.toNat:Int),1,0)
  else if b.toNat=117 then (match r with
   | []=>(0,0,40)
   | c::t=>if c.toNat=123 then ((i7 t).1,(i7 t).2.1+2,(i7 t).2.2) else (0,0,2))
  else (0,0,2):=rfl
theorem D8 (s:Bk):0<=(i7 s).2.1/\(i7 s).2.1<=s.length/\((i7 s).2.2=0->iE (i7 s).1)/\0<=(i7 s).2.2:=by
 have hle:=qy 6 s 0;unfold i7;generalize dc 6 s 0=h at hle ⊢;obtain ⟨v,c⟩:=h;simp only at hle ⊢;split
 ·simp <;> omega
 ·split
  ·simp <;> omega
  ·rename_i h1 h2;refine ⟨by simp only; omega,by simp only; omega,λ _=>?_,by simp⟩
   have:validRune (v:Int)=true:=by
    cases hv:validRune (v:Int) with
    | true=>rfl
    | false=>exact absurd (.inr (.inr (.inr hv))) h2
   simp only [validRune,decide_eq_true_eq] at this;unfold iE; simp only; omega
theorem rS (s:Bk):0<=(fc s).2.1/\(fc s).2.1<=s.length+1/\((fc s).2.2=0->iE (fc s).1/\(fc s).2.1<=s.length)/\0<=(fc s).2.2:=by
 unfold fc;split
 ·simp
 ·rename_i b r;have hb:=b.toNat_lt;split
  ·simp [iE] <;> omega
  split
  ·simp [iE] <;> omega
  split
  ·simp [iE] <;> omega
  split
  ·simp [iE] <;> omega
  split
  ·split
   ·simp
   ·rename_i c t;have:=D8 t;split
    ·refine ⟨by simp only; omega,by simp only [cl]; omega,λ q=>⟨this.2.2.1 q,by simp only [cl]; omega⟩,this.2.2.2⟩
    ·simp <;> omega
  ·simp <;> omega
theorem Kp (s:Bk)(hs:s.length<=1000000000):Ev2 (λ n _=>jK n s) (·=fc s):=by
 simp only [jK]
 cases s with
 | nil=>exact ay Z (ae Z)
 | cons b r=>
  have hl:((b::r).length:Int)=(r.length:Int)+1:=by simp
  refine ax G (aE O ?_);have hb:byt (b::r) 0=(b.toNat:Int):=rfl;have hbl:=b.toNat_lt;rw [hb];have hP:=tv b r;refine aR (λ h=>ae (by rw [hP,if_pos O])) (λ h1=>?_);rw [if_neg (show ¬ b.toNat=110 by omega)] at hP;refine aR (λ h=>ae (by rw [hP,if_pos O])) (λ h2=>?_);rw [if_neg (show ¬ b.toNat=114 by omega)] at hP;refine aR (λ h=>ae (by rw [hP,if_pos O])) (λ h3=>?_);rw [if_neg (show ¬ b.toNat=116 by omega)] at hP;refine aC (decide (b.toNat=34\/b.toNat=92)) ?_ ?_
  ·by_cases h:b.toNat=34
   ·exact ay O (ae (by simp [h]))
   ·exact ax O (ae (eqB (by rw [decide_eq_true_eq,decide_eq_true_eq]; omega)))
  by_cases h4:b.toNat=34\/b.toNat=92
  ·rw [if_pos h4] at hP;rw [hP];refine ay (by simp [h4]) (aE O (ae ?_));rw [qg _ O O]
  rw [if_neg h4] at hP;refine ax (by simp only [decide_eq_true_eq]; exact h4) ?_;refine aR (λ h5=>?_) (λ h5=>ae (by rw [hP,if_neg O]));rw [if_pos (show b.toNat=117 by omega)] at hP;rw [hP]
  cases r with
  | nil=>exact ay G (ae Z)
  | cons c t=>
   have hl2:((b::c::t).length:Int)=(t.length:Int)+2:=by simp <;> omega
   refine ax O (aE O ?_);have hc:byt (b::c::t) 1=(c.toNat:Int):=rfl;rw [hc];refine aR (λ h6=>aE O ?_) (λ h6=>ae (by show _=if c.toNat=123 then _ else _; rw [if_neg O]));have e6:(if c.toNat=123 then ((i7 t).1,(i7 t).2.1+2,(i7 t).2.2) else ((0,0,2):Int×Int×Int))=((i7 t).1,(i7 t).2.1+2,(i7 t).2.2):=if_pos O;show Ev2 _ (·=if c.toNat=123 then ((i7 t).1,(i7 t).2.1+2,(i7 t).2.2) else ((0,0,2):Int×Int×Int));rw [e6,kG];show Ev2 (λ n m=>(fm n t).bind _) _;have hle:=D8 t;have htl:t.length<=1000000000:=by simp at hs; omega
   exact aC _ (Lc t htl) pU
end Go.Ab.R06
namespace Go.Ab.R06
open Go.Ab Go.Ab.RB Go.Lib
def pi (c:Nat×Nat):Prop:=(c.1=65533/\c.2=1)\/c.1<32\/c.1=127
instance (c:Nat×Nat):Decidable (pi c):=inferInstanceAs (Decidable (_\/_))
def pM:Nat->Bk->Nat->Bk->(Int×Bk)⊕(Bk×Int×Int)|0,_,at',acc=>.inl ((at':Int),acc)|_+1,[],at',acc=>.inl ((at':Int),acc)|n+1,b::r,at',acc=>if b.toNat=34 then .inl ((at':Int),acc)else if (decodeL (b::r)).1=92 then(if (fc r).2.2=0 then pM n (r.drop (fc r).2.1.toNat) (at'+((fc r).2.1.toNat+1)) (acc++encodeRune (fc r).1) else .inr ([],0,(fc r).2.2))else if pi (decodeL (b::r)) then .inr ([],0,2)else pM n ((b::r).drop (decodeL (b::r)).2) (at'+(decodeL (b::r)).2) (acc++encodeRune ((decodeL (b::r)).1:Int))
theorem qm (n:Nat)(b:UInt8)(r:Bk)(at':Nat)(acc:Bk):pM (n+1) (b::r) at' acc=if b.toNat=34 then .inl ((at':Int),acc)
  else if (decodeL (b::r)).1=92 then
   (if (fc r).2.2=0 then pM n (r.drop (fc r).2.1.toNat) (at'+((fc r).2.1.toNat+1)) (acc++encodeRune (fc r).1) else .inr ([],0,(fc r).2.2))
  else if pi (decodeL (b::r)) then .inr ([],0,2)
  else pM n ((b::r).drop (decodeL (b::r)).2) (at'+(decodeL (b::r)).2) (acc++encodeRune ((decodeL (b::r)).1:Int)):=by rw [pM]
theorem MD (s:Bk)(hs:s.length<=1000000000):∀ (k:Nat) (l:Bk) (i:Nat) (f:Bk),l.length<k->s.drop i=l->i+l.length=s.length->f.length<=4*i->Ev2 (λ n m=>eT n s m (i:Int) f) (·=pM k l i f):=by
 intro k
 induction k with
 | zero=>intro l i f h; omega
 | succ k ih=>
  intro l i f hk hl hi hf;refine bc ?_;simp only [eT]
  cases l with
  | nil=>
   simp only [n7] at hi;refine aC false yv (ax G (ae ?_));rw [pM]
  | cons b r=>
   have hil:i<s.length:=by simp only [cl] at hi; omega
   have hb:byt s i=(b.toNat:Int):=by
    rw [jO]
    have:s.getD i 0=b:=by
     have:=List.drop_eq_getElem_cons hil;rw [hl] at this;rw [List.getD_eq_getElem?_getD,List.getElem?_eq_getElem hil];exact (ur this).1.symm
    rw [this]
   have hr:s.drop (i+1)=r:=by
    have:=List.drop_eq_getElem_cons hil;rw [hl] at this;exact (ur this).2.symm
   have hlr:r.length+i+1=s.length:=by simp only [cl] at hi; omega
   have hU:=qm k b r i f;rw [hb];by_cases h34:b.toNat=34
   ·rw [if_pos h34] at hU;exact aC false Hk (ax G (ae hU.symm))
   rw [if_neg h34] at hU;refine aC true Hk (ay rfl (aE O ?_));rw [kG,Int.toNat_natCast,hl]
   have hd:bj (b::r)=some (((decodeL (b::r)).1:Int),((decodeL (b::r)).2:Int)):=by
    unfold bj;rw [rQ _ G]
   refine aC _ (aT hd rfl) ?_;have hdf:=me (b::r) G;generalize hD:decodeL (b::r)=D at hU hdf ⊢;obtain ⟨c,w⟩:=D;simp only at hU hdf ⊢;by_cases h92:c=92
   ·rw [if_pos h92] at hU;have hes:=rS r;have NZ:=Kp r O
    have sub1:sub s ((i:Int)+1) (s.length:Int)=r:=by
     rw [kG,show ((i:Int)+1).toNat=i+1 by omega,hr]
    generalize fc r=E at hU hes NZ;obtain ⟨x,y,z⟩:=E;simp only at hU hes NZ;by_cases hz:z=0
    ·rw [if_pos hz] at hU;refine dH (ay O (aE bO (aE O ?_)));rw [sub1];obtain ⟨e1,e2⟩:=hes.2.2.1 hz;obtain ⟨y',rfl⟩:∃ y':Nat,y=y':=⟨y.toNat,by omega⟩
     rw [Int.toNat_natCast] at hU;refine aC _ NZ (ay hz (aE (eM (by dsimp only; omega) (by dsimp only; omega)) (ae ?_)));refine aC _ (aT (Lx f x e1 O) rfl) (aE (eM (by dsimp only; omega) (by dsimp only; omega)) ?_);have hle:=nc x e1;have:=ih (r.drop y') (i+(y'+1)) (f++encodeRune x) (by rw [ro]; simp only [cl] at hk; omega) (by rw [<- hr,List.drop_drop]; congr 1; omega) lL BU;rw [<- hU] at this;rw [show ((i+(y'+1):Nat):Int)=(i:Int)+((y':Int)+1) by omega] at this;exact this
    ·rw [if_neg hz] at hU;refine dH (ay O (aE bO (aE O ?_)));rw [sub1];refine aC _ NZ (ax hz (ae ?_));exact hU.symm
   ·rw [if_neg h92] at hU
    have hbad:Ev2 (λ _ _=>(if (c:Int)=65533 then if (w:Int)=1 then some true else if (c:Int)<32 then some true else some (decide ((c:Int)=127)) else if (c:Int)<32 then some true else some (decide ((c:Int)=127)):Option Bool)) (·=decide (pi (c,w))):=by
     exact J0
    by_cases hbd:pi (c,w)
    ·rw [if_pos hbd] at hU;refine dH (ax O (aC _ hbad (ay (by simp only [decide_eq_true_eq]; exact hbd) (ae ?_))));exact hU.symm
    ·rw [if_neg hbd] at hU;refine dH (ax O (aC _ hbad (ax (by simp only [decide_eq_true_eq]; exact hbd) (ae ?_))));have hgood:=hdf.2.2 (λ q=>hbd (.inl q));refine aC _ (aT (Lx f c hgood.1 O) rfl) (aE (eM (by simp only [cl] at hdf; omega) (by simp only [cl] at hdf; omega)) ?_);have hle:=nc c hgood.1;have hw:w<=r.length+1:=by simpa using hdf.2.1
     have hw1:=hdf.1;have:=ih ((b::r).drop w) (i+w) (f++encodeRune (c:Int)) (by rw [ro]; simp only [cl] at hk ⊢; omega) (by rw [<- hl,List.drop_drop]) (by rw [ro]; simp only [cl]; omega) BU;rw [<- hU] at this;rw [show ((i+w:Nat):Int)=(i:Int)+(w:Int) by omega] at this;exact this
def nH:Bk->Bk×Int×Int
 | []=>([],0,40)
 | b::r=>if b.toNat=34 then (match pM (r.length+1) r 1 [] with
   | .inl q=>if q.1=((r.length+1:Nat):Int) then ([],0,40) else if 4096<q.2.length then ([],0,3) else (q.2,q.1+1,0)
   | .inr e=>e)
  else ([],0,2)
theorem tH (b:UInt8)(r:Bk):nH (b::r)=if b.toNat=34 then (match pM (r.length+1) r 1 [] with
   | .inl q=>if q.1=((r.length+1:Nat):Int) then ([],0,40) else if 4096<q.2.length then ([],0,3) else (q.2,q.1+1,0)
   | .inr e=>e)
  else ([],0,2):=rfl
theorem Dk:∀ (k:Nat) (l:Bk) (i:Nat) (f:Bk),(∀ a g,pM k l i f=.inl (a,g)->(i:Int)<=a/\a<=((i+l.length:Nat):Int)/\g.length<=f.length+4*l.length/\((∀ t,validD (f++t)=validD t)->∀ t,validD (g++t)=validD t))/\(∀ x,pM k l i f=.inr x->x.1=[]/\x.2.1=0/\x.2.2≠0):=by
 intro k
 induction k with
 | zero=>
  intro l i f;refine ⟨λ a g h=>?_,λ x h=>(by rw [pM] at h; cases h)⟩;rw [pM] at h; cases h;exact ⟨by omega,by omega,by omega,λ q=>q⟩
 | succ k ih=>
  intro l i f
  cases l with
  | nil=>
   refine ⟨λ a g h=>?_,λ x h=>(by rw [pM] at h; cases h)⟩;rw [pM] at h; cases h;exact ⟨by omega,by simp,by simp,λ q=>q⟩
  | cons b r=>
   rw [qm];have hdf:=me (b::r) G;have hes:=rS r;split
   ·refine ⟨λ a g h=>?_,λ x h=>(by cases h)⟩
    cases h
    exact ⟨by omega,by simp only [cl]; omega,by omega,λ q=>q⟩
   split
   ·split
    ·rename_i hz;obtain ⟨e1,e2⟩:=hes.2.2.1 hz;have hle:=nc _ e1;have hi:=ih (r.drop (fc r).2.1.toNat) (i+((fc r).2.1.toNat+1)) (f++encodeRune (fc r).1);refine ⟨λ a g h=>?_,hi.2⟩;have:=hi.1 a g h;rw [ro,la] at this;refine ⟨by omega,by simp only [cl]; omega,by simp only [cl]; omega,λ q=>this.2.2.2 λ t=>?_⟩;rw [List.append_assoc,q,xy _ e1]
    ·rename_i hz;refine ⟨λ a g h=>(by cases h),λ x h=>?_⟩
     cases h
     exact ⟨Z,Z,hz⟩
   split
   ·refine ⟨λ a g h=>(by cases h),λ x h=>?_⟩
    cases h
    exact ⟨Z,Z,by decide⟩
   ·rename_i hbd;have hgood:=hdf.2.2 (λ q=>hbd (.inl q));have hle:=nc _ hgood.1;have hi:=ih ((b::r).drop (decodeL (b::r)).2) (i+(decodeL (b::r)).2) (f++encodeRune ((decodeL (b::r)).1:Int));refine ⟨λ a g h=>?_,hi.2⟩;have:=hi.1 a g h;rw [ro,la] at this;simp only [cl] at this hdf ⊢;refine ⟨by omega,by omega,by omega,λ q=>this.2.2.2 λ t=>?_⟩;rw [List.append_assoc,q,xy _ hgood.1]
theorem Hz (s:Bk)(hs:s.length<=1000000000):Ev2 (λ n _=>gh n s) (·=nH s):=by
 simp only [gh]
 cases s with
 | nil=>exact ay Z (ae Z)
 | cons b r=>
  have hl:((b::r).length:Int)=(r.length:Int)+1:=by simp
  have hln:(b::r).length=r.length+1:=by simp
  refine ax G (aE O ?_);have hb:byt (b::r) 0=(b.toNat:Int):=rfl;rw [hb];rw [tH];refine aR (λ h=>?_) (λ h=>ae (by rw [if_neg (show ¬ b.toNat=34 by omega)]));have l:=MD (b::r) hs (r.length+1) r 1 [] O rfl O G;have hle:=Dk (r.length+1) r 1 [];have e34:b.toNat=34:=by omega
  simp only [e34,if_true];generalize pM (r.length+1) r 1 []=U at l hle ⊢
  cases U with
  | inr e=>exact kF e (cp l) Z
  | inl q=>
   obtain ⟨a,g⟩:=q;have hq:=hle.1 a g rfl;simp only [n7,sm] at hq;refine ik (a,g) (cp l) ?_;refine aR (λ h=>ae (by simp only at h ⊢; rw [if_pos O])) (λ h=>?_);simp only at h ⊢;rw [if_neg O];refine aC _ nN (aR (λ h1=>ae (by simp only at h1; rw [if_pos O])) (λ h1=>?_));simp only at h1;rw [if_neg O];refine aC _ (aT (bstr g O) rfl) pU
theorem KO (s:Bk):0<=(nH s).2.1/\(nH s).2.1<=s.length/\((nH s).2.2≠0->(nH s).1=[]/\(nH s).2.1=0)/\(nH s).1.length<=4096:=by
 cases s with
 | nil=>exact ⟨Int.le_refl _,Int.le_refl _,λ _=>⟨Z,Z⟩,qr _⟩
 | cons b r=>
  rw [tH];split
  ·have hle:=Dk (r.length+1) r 1 [];split
   ·rename_i q hq;obtain ⟨a,g⟩:=q;have hg:=hle.1 a g hq;simp only;split
    ·simp; omega
    ·split
     ·simp; omega
     ·rename_i h1 h2;simp only [cl] at *;exact ⟨by omega,by omega,λ q=>absurd rfl q,by omega⟩
   ·rename_i e he;have:=hle.2 _ he;rw [this.1,this.2.1];simp; omega
  ·simp; omega
theorem E3 (b:UInt8)(h:b.toNat<128):encodeRune (b.toNat:Int)=[b]:=by
 simp only [encodeRune,encodeRuneZ,if_pos (show (0:Int)<=(b.toNat:Int)/\(b.toNat:Int)<=127 by omega),dg,th];simp
end Go.Ab.R06
end
section
namespace Go.Ab
open Go
variable {p:Prop}
theorem HD (h:p:=by
 by_cases hj:j<S.m
 ·exact LK e7 j hj
 ·have:look (S.bas (j-S.m+S.m)) d=none:=congrFun e8 (j-S.m)
  rwa [show j-S.m+S.m=j by omega] at this):p:=h
theorem F1 (h:p:=by
 unfold bnP
 split <;> first|rfl|contradiction|(rename_i h _; cases h)|(rename_i h; cases h)):p:=h
def tmO:Operand->List Nat|.tmp t=>[t]|_=>[]
def tmL:List (Nat×Operand)->List Nat|[]=>[]|(_,x)::r=>tmO x++tmL r
def opR (o:Oper):List Nat:=match o.op with
 | .move x=>tmO x
 | .assign x=>tmO x
 | .pick c x y=>tmO c++(tmO x++tmO y)
 | .binOp _ _ x y _=>tmO x++tmO y
 | .unOp _ _ x=>tmO x
 | .fieldAddr _ x _=>tmO x
 | .load _ x=>tmO x
 | .nilCheck x=>tmO x
 | .extract x _=>tmO x
 | .field _ x _=>tmO x
 | .convert _ _ x=>tmO x
 | .build _ parts=>tmL parts.toList
 | .store _ x v=>tmO x++tmO v
 | _=>[]
def ri (o:Oper):Bool:=match o.op with
 | .call _=>false
 | _=>true
def knKS:gD->Nat->Option Nat|[],_=>none|(k,d,_)::r,i=>bif Nat.beq d i then some k else knKS r i
def Mg (bas:List (Nat×AV))(o:Oper)(rev:gD)(j i:Nat):Option AV:=match look bas i with
 | some x=>some x
 | none=>(match knKS rev i with
  | some k=>(match iW o k with
   | true=>(match dK rev k with
    | some (i',v)=>(match Nat.beq i' i with
     | true=>some (v j)
     | false=>none)
    | none=>none)
   | false=>none)
  | none=>none)
def AX (bas:List (Nat×AV))(o:Oper)(rev:gD)(j:Nat):List Nat->List (Nat×AV)
 | []=>[]
 | i::r=>(match Mg bas o rev j i with
  | some x=>(i,x)::AX bas o rev j r
  | none=>AX bas o rev j r)
theorem KQ {bas:List (Nat×AV)}{o:Oper}{rev:gD}{j i:Nat}{x:AV}(h:Mg bas o rev j i=some x):look bas i=some x\/∃ k v,iW o k=true/\dK rev k=some (i,v)/\v j=x:=by
 unfold Mg at h;split at h
 ·rename_i y hy; cases h; exact .inl hy
 ·split at h
  ·rename_i k hk;split at h
   ·rename_i hb;split at h
    ·rename_i i' v hl;split at h
     ·rename_i hi
      cases h
      exact .inr ⟨k,v,hb,by rw [hl,bx hi],Z⟩
     ·cases h
    ·cases h
   ·cases h
  ·cases h
theorem oq {bas:List (Nat×AV)}{o:Oper}{rev:gD}{j:Nat}:∀ (l:List Nat),KnS bas o rev j (AX bas o rev j l)
 | []=>trivial
 | i::r=>by
  unfold AX;split
  ·rename_i x hx; exact ⟨KQ hx,oq r⟩
  ·exact oq r
section
variable {kn sl:List (Nat×AV)} {ob:List (Nat×List AV)} {C:Cx} {o:Oper}
theorem Ck {F:Option AV->Option AV}{x:Operand}{y:AV}(hs:∀ i x,look kn i=some x->look sl i=some x)(hF:F none=none)(h:F (evo kn x)=some y):F (evo sl x)=some y:=by
 cases hx:evo kn x with
 | none=>rw [hx,hF] at h; cases h
 | some v=>rw [hx] at h; rw [jV hs hx]; exact h
theorem J6 {c x y:Operand}{z:AV}(hs:∀ i x,look kn i=some x->look sl i=some x)(h:pkP kn x y (evo kn c)=some z):pkP sl x y (evo sl c)=some z:=by
 cases hc:evo kn c with
 | none=>rw [hc] at h; cases h
 | some v=>
  rw [hc] at h;rw [jV hs hc];unfold pkP at h ⊢;split at h
  ·exact jV hs h
  ·exact jV hs h
  ·cases h
theorem K9 {op:BinOp}{t:TypeId}(Y0z:Option AV):bnP C op t none Y0z=none:=by
 exact F1
theorem Hn {op:BinOp}{t:TypeId}(X:Option AV):bnP C op t X none=none:=by
 exact F1
theorem Kh {op:BinOp}{t:TypeId}{x y:Operand}{z:AV}(hs:∀ i x,look kn i=some x->look sl i=some x)(h:bnP C op t (evo kn x) (evo kn y)=some z):bnP C op t (evo sl x) (evo sl y)=some z:=by
 cases hx:evo kn x with
 | none=>rw [hx,K9] at h; cases h
 | some v=>
  cases hy:evo kn y with
  | none=>rw [hy,Hn] at h; cases h
  | some u=>
   rw [hx,hy] at h;rw [jV hs hx,jV hs hy]; exact h
theorem uS (hs:∀ i x,look kn i=some x->look sl i=some x):∀ {ps:List (Nat×Operand)} {l:List (Nat×AV)},fU kn ps=some l->fU sl ps=some l
 | [],l,h=>h
 | (i,x)::r,l,h=>by
  unfold fU at h ⊢
  cases hx:evo kn x with
  | none=>rw [hx] at h; cases h
  | some v=>
   cases hr:fU kn r with
   | none=>rw [hx,hr] at h; cases h
   | some m=>
    rw [hx,hr] at h;rw [jV hs hx,uS hs hr]; exact h
theorem Lk {t f:Nat}:faP C t f none=none:=by
 unfold faP
 repeat' split
 all_goals first|rfl|contradiction
theorem K8 {t:Nat}:ldP C ob t none=none:=by
 unfold ldP
 repeat' split
 all_goals first|rfl|contradiction
theorem Km {t f:Nat}:flP C t f none=none:=by
 unfold flP
 repeat' split
 all_goals first|rfl|contradiction
theorem Ky {t f:Nat}:cvP C t f none=none:=by
 unfold cvP
 repeat' split
 all_goals first|rfl|contradiction
theorem Lm {t:Nat}:buP C t none=none:=by
 unfold buP
 repeat' split
 all_goals first|rfl|contradiction
theorem Lb {t:Nat}{ps:List (Nat×Operand)}{y:AV}(hs:∀ i x,look kn i=some x->look sl i=some x)(h:buP C t (fU kn ps)=some y):buP C t (fU sl ps)=some y:=by
 cases hp:fU kn ps with
 | none=>rw [hp,Lm] at h; cases h
 | some l=>rw [hp] at h; rw [uS hs hp]; exact h
theorem AM {y:AV}(hs:∀ i x,look kn i=some x->look sl i=some x)(hc:ri o=true)(h:opV C o kn ob=some y):opV C o sl ob=some y:=by
 unfold opV ri at *
 cases ho:o.op <;> simp only [ho] at h hc ⊢
 all_goals first
  | (cases h; done)
  | exact jV hs h
  | exact J6 hs h
  | exact Kh hs h
  | exact Ck (F:=faP C _ _) hs Lk h
  | exact Ck (F:=ldP C ob _) hs K8 h
  | exact Ck (F:=ncP) hs Z h
  | exact Ck (F:=xtP _) hs Z h
  | exact Ck (F:=flP C _ _) hs Km h
  | exact Ck (F:=cvP C _ _) hs Ky h
  | exact Lb hs h
  | (cases hc; done)
  | skip
 all_goals (rename_i op _ _; cases op <;> simp only at h ⊢)
 all_goals first
  | (cases h; done)
  | exact Ck (F:=ntP) hs Z h
def stV (C:Cx)(o:Oper)(kn:List (Nat×AV))(ob:List (Nat×List AV)):Option (List (Nat×List AV)):=match o.op with
 | .store t x v=>(match look C.tt t with
  | some i=>(match evo kn x with
   | some (.ptr id k)=>(match evo kn v with
    | some y=>(match y.cellsA with
     | some xs=>(match Nat.beq xs.length i.size with
      | true=>(match look ob id with
       | some cs=>(match Nat.ble (k+xs.length) cs.length with
        | true=>some ((id,mV cs k xs)::ob)
        | false=>none)
       | none=>none)
      | false=>none)
     | none=>none)
    | none=>none)
   | _=>none)
  | none=>none)
 | _=>none
theorem Mn {ops:Array Oper}{ob':List (Nat×List AV)}{K:AS->Prop}(h:stV C o kn ob=some ob')(hg:o.guard=none)(hd:o.dst=none)(hs:∀ i x,look kn i=some x->look sl i=some x)(hK:K ⟨sl,ob'⟩):One C ops o K ⟨sl,ob⟩:=by
 unfold stV at h;split at h
 ·rename_i t x v ho;split at h
  ·rename_i i hi;split at h
   ·rename_i id k hx;split at h
    ·rename_i y hv;split at h
     ·rename_i xs hc;split at h
      ·rename_i NR;split at h
       ·rename_i cs hob;split at h
        ·rename_i hl
         cases h
         exact ah hg (fe ho hd hi (jV hs hx) (jV hs hv) hc (bx NR) hob (ld hl) hK)
        ·cases h
       ·cases h
      ·cases h
     ·cases h
    ·cases h
   ·cases h
  ·cases h
 ·cases h
end
section
variable {C:Cx} {ops:Array Oper} {S:fX} {K:gD->Prop} {o:Oper} {k:Nat} {rev:gD} {d:Nat}
def sV (C:Cx)(ops:Array Oper)(S:fX)(o:Oper)(R:List Nat)(k:Nat)(rev:gD)(v:Nat->AV)(j:Nat):Option AV:=match oh ops S.imp o k j with
 | true=>opV C o (AX (S.bas j) o rev j R) (S.obj j)
 | false=>some (v j)
def sL (C:Cx)(ops:Array Oper)(S:fX)(o:Oper)(R:List Nat)(k:Nat)(rev:gD)(v:Nat->AV):Nat->List (Option AV)|0=>[]|j+1=>sV C ops S o R k rev v j::sL C ops S o R k rev v j
def gL (ops:Array Oper)(S:fX)(o:Oper)(R:List Nat)(k:Nat)(rev:gD)(t:Nat)(x:AV):Nat->List (Option AV)
 | 0=>[]
 | j+1=>(match oh ops S.imp o k j with
  | true=>look (AX (S.bas j) o rev j R) t
  | false=>some x)::gL ops S o R k rev t x j
def vL (v:Nat->AV):Nat->List (Option AV)|0=>[]|j+1=>some (v j)::vL v j
theorem LE {v:Nat->AV}(hg:o.guard=none)(hd:o.dst=some d)(hn:Nat.blt d C.n=true)(hc:ri o=true):∀ {m:Nat},sL C ops S o (opR o) k rev v m=vL v m->Stg C ops S o k rev d v m
 | 0,_=>trivial
 | j+1,h=>by
  have h1:sV C ops S o (opR o) k rev v j=some (v j):=(ur h).1;refine ⟨λ ha=>?_,LE hg hd hn hc (ur h).2⟩;unfold sV at h1;rw [ha] at h1;exact ⟨_,oq _,λ sl hs K hK=>ah hg (vH (AM hs hc h1) hd hn hK)⟩
def cL (S:fX)(d:Nat):Nat->List (Option AV)|0=>[]|j+1=>look (S.bas j) d::cL S d j
def nL:Nat->List (Option AV)|0=>[]|j+1=>none::nL j
def aL (v:Nat->AV):Nat->List AV|0=>[]|j+1=>v (j+1)::aL v j
def bL (S:fX)(v:Nat->AV):Nat->List AV|0=>[]|j+1=>trA (S.D j) (v j)::bL S v j
theorem LK:∀ {m:Nat},cL S d m=nL m->∀ j,j<m->look (S.bas j) d=none
 | 0,_,j,h=>absurd h (Nat.not_lt_zero _)
 | m+1,h,j,hj=>by
  by_cases e:j=m
  ·subst e; exact (ur h).1
  ·exact LK (ur h).2 j O
theorem zG {v:Nat->AV}:∀ {m:Nat},aL v m=bL S v m->∀ j,j<m->v (j+1)=trA (S.D j) (v j)
 | 0,_,j,h=>absurd h (Nat.not_lt_zero _)
 | m+1,h,j,hj=>by
  by_cases e:j=m
  ·subst e; exact (ur h).1
  ·exact zG (ur h).2 j O
theorem dP {rest:List Oper}(v:Nat->AV)
  (e:(o.dst,S.imp.findIdx? (Nat.beq k),o.guard,ri o,(rev.all λ p=>!(Nat.beq p.2.1 d)),Nat.blt d C.n,cL S d S.m,(λ j=>look (S.bas (j+S.m)) d),aL v S.m,sL C ops S o (opR o) k rev v (S.m+1))=(some d,none,none,true,true,true,nL S.m,(λ _=>none),bL S v S.m,vL v (S.m+1)))
  (h:DS C ops S K rest (k+1) ((k,d,v)::rev)):DS C ops S K (o::rest) k rev:=by
 simp only [Prod.mk.injEq] at e;obtain ⟨e1,e2,e3,e4,e5,e6,e7,e8,e9,Qp⟩:=e;refine ar v e2 e1 e5 (λ j=>?_) (zG e9) (LE e3 e1 e6 e4 Qp) h;exact HD
theorem dPc {rest:List Oper}(y:AV)
  (e:(o.dst,S.imp.findIdx? (Nat.beq k),o.guard,ri o,(rev.all λ p=>!(Nat.beq p.2.1 d)),Nat.blt d C.n,cL S d S.m,(λ j=>look (S.bas (j+S.m)) d),aL (λ _=>y) S.m,sL C ops S o (opR o) k rev (λ _=>y) (S.m+1))=(some d,none,none,true,true,true,nL S.m,(λ _=>none),bL S (λ _=>y) S.m,vL (λ _=>y) (S.m+1)))
  (h:DS C ops S K rest (k+1) ((k,d,λ _=>y)::rev)):DS C ops S K (o::rest) k rev:=dP (λ _=>y) e h
theorem dS {rest:List Oper}{i:Nat}
  (e:(S.imp.findIdx? (Nat.beq k),o.dst,o.guard,S.D i,stV C o (AX (S.bas i) o rev i (opR o)) (S.obj i))=(some i,none,none,Tr.none,some (S.obj (i+1))))
  (h:DS C ops S K rest (k+1) rev):DS C ops S K (o::rest) k rev:=by
 simp only [Prod.mk.injEq] at e;obtain ⟨e1,e2,e3,e4,e5⟩:=e;refine dI _ e1 (oq (opR o)) e2 (λ sl hs K hK=>?_) h;rw [e4] at hK;exact Mn e5 e3 e2 hs hK
theorem Cn (e7:cL S d S.m=nL S.m)(e8:(λ j=>look (S.bas (j+S.m)) d)=λ _=>none)(j:Nat):look (S.bas j) d=none:=by
 exact HD
theorem Jl {v:Nat->AV}{R:List Nat}{w b:Bool}{g t:Nat}(hb:b=w)(hg:o.guard=some (g,w))(hj:(ops.toList[g]?).bind (·.dst)=some t)(hd:o.dst=some d)(hn:Nat.blt d C.n=true)(hc:ri o=true) :
  ∀ {m:Nat},gL ops S o R k rev t (.p (.val (.bool b))) m=vL (λ _=>.p (.val (.bool b))) m->sL C ops S o R k rev v m=vL v m->Stg C ops S o k rev d v m
 | 0,_,_=>trivial
 | j+1,hG,h=>by
  have h1:sV C ops S o R k rev v j=some (v j):=(ur h).1;have h2:=(ur hG).1;refine ⟨λ ha=>?_,Jl hb hg hj hd hn hc (ur hG).2 (ur h).2⟩;unfold sV at h1;rw [ha] at h1 h2;exact ⟨_,oq _,λ sl hs K hK=>fE (vH (AM hs hc h1) hd hn hK) hg hj (hs _ _ h2) hb⟩
theorem dPy {rest:List Oper}{w b:Bool}{g t:Nat}(v:Nat->AV)(hb:b=w)
  (e:(o.dst,o.guard,(ops.toList[g]?).bind (·.dst),S.imp.findIdx? (Nat.beq k),ri o,(rev.all λ p=>!(Nat.beq p.2.1 d)),Nat.blt d C.n,cL S d S.m,(λ j=>look (S.bas (j+S.m)) d),aL v S.m,gL ops S o (t::opR o) k rev t (.p (.val (.bool b))) (S.m+1),sL C ops S o (t::opR o) k rev v (S.m+1))=(some d,some (g,w),some t,none,true,true,true,nL S.m,(λ _=>none),bL S v S.m,vL (λ _=>.p (.val (.bool b))) (S.m+1),vL v (S.m+1)))
  (h:DS C ops S K rest (k+1) ((k,d,v)::rev)):DS C ops S K (o::rest) k rev:=by
 simp only [Prod.mk.injEq] at e;obtain ⟨e1,e2,e3,e4,e5,e6,e7,e8,e9,Qp,Qe,QN⟩:=e;exact ar v e4 e1 e6 (Cn e8 e9) (zG Qp) (Jl hb e2 e3 e1 e7 e5 Qe QN) h
theorem ID {R:List Nat}{w b:Bool}{g t:Nat}(hb:b=!w)(hg:o.guard=some (g,w))(hj:(ops.toList[g]?).bind (·.dst)=some t)(hd:o.dst=some d)(hn:Nat.blt d C.n=true) :
  ∀ {m:Nat},gL ops S o R k rev t (.p (.val (.bool b))) m=vL (λ _=>.p (.val (.bool b))) m->Stg C ops S o k rev d (λ _=>.p (.val Go.undef)) m
 | 0,_=>trivial
 | j+1,hG=>by
  have h2:=(ur hG).1;refine ⟨λ ha=>?_,ID hb hg hj hd hn (ur hG).2⟩;rw [ha] at h2;exact ⟨_,oq _,λ sl hs K hK=>JX hg hj (hs _ _ h2) hb hd hn hK⟩
theorem dPn {rest:List Oper}{w b:Bool}{g t:Nat}(hb:b=!w)
  (e:(o.dst,o.guard,(ops.toList[g]?).bind (·.dst),S.imp.findIdx? (Nat.beq k),(rev.all λ p=>!(Nat.beq p.2.1 d)),Nat.blt d C.n,cL S d S.m,(λ j=>look (S.bas (j+S.m)) d),aL (λ _=>.p (.val Go.undef)) S.m,gL ops S o [t] k rev t (.p (.val (.bool b))) (S.m+1))=(some d,some (g,w),some t,none,true,true,nL S.m,(λ _=>none),bL S (λ _=>.p (.val Go.undef)) S.m,vL (λ _=>.p (.val (.bool b))) (S.m+1)))
  (h:DS C ops S K rest (k+1) ((k,d,λ _=>.p (.val Go.undef))::rev)):DS C ops S K (o::rest) k rev:=by
 simp only [Prod.mk.injEq] at e;obtain ⟨e1,e2,e3,e4,e6,e7,e8,e9,Qp,Qe⟩:=e;exact ar _ e4 e1 e6 (Cn e8 e9) (zG Qp) (ID hb e2 e3 e1 e7 Qe) h
theorem IH {R:List Nat}{w:Bool}{g t:Nat}(hg:o.guard=some (g,w))(hj:(ops.toList[g]?).bind (·.dst)=some t)(hd:o.dst=some d)(hn:Nat.blt d C.n=true) :
  ∀ {m:Nat},gL ops S o R k rev t (.p (.val Go.undef)) m=vL (λ _=>.p (.val Go.undef)) m->Stg C ops S o k rev d (λ _=>.p (.val Go.undef)) m
 | 0,_=>trivial
 | j+1,hG=>by
  have h2:=(ur hG).1;refine ⟨λ ha=>?_,IH hg hj hd hn (ur hG).2⟩;rw [ha] at h2;exact ⟨_,oq _,λ sl hs K hK=>AF hg hj (hs _ _ h2) hd hn hK⟩
theorem dPx {rest:List Oper}{w:Bool}{g t:Nat}
  (e:(o.dst,o.guard,(ops.toList[g]?).bind (·.dst),S.imp.findIdx? (Nat.beq k),(rev.all λ p=>!(Nat.beq p.2.1 d)),Nat.blt d C.n,cL S d S.m,(λ j=>look (S.bas (j+S.m)) d),aL (λ _=>.p (.val Go.undef)) S.m,gL ops S o [t] k rev t (.p (.val Go.undef)) (S.m+1))=(some d,some (g,w),some t,none,true,true,nL S.m,(λ _=>none),bL S (λ _=>.p (.val Go.undef)) S.m,vL (λ _=>.p (.val Go.undef)) (S.m+1)))
  (h:DS C ops S K rest (k+1) ((k,d,λ _=>.p (.val Go.undef))::rev)):DS C ops S K (o::rest) k rev:=by
 simp only [Prod.mk.injEq] at e;obtain ⟨e1,e2,e3,e4,e6,e7,e8,e9,Qp,Qe⟩:=e;exact ar _ e4 e1 e6 (Cn e8 e9) (zG Qp) (IH e2 e3 e1 e7 Qe) h
end
def lkM (s:List (Nat×List AV)):List (Nat×List AV)->List (Option (List AV))|[]=>[]|(j,_)::r=>look s j::lkM s r
def smM:List (Nat×List AV)->List (Option (List AV))|[]=>[]|(_,cs)::r=>some cs::smM r
theorem vT {s:List (Nat×List AV)}:∀ {t:List (Nat×List AV)},lkM s t=smM t->leO s t
 | [],_=>trivial
 | (_j,cs)::_r,h=>⟨⟨cs,(ur h).1,aV cs⟩,vT (ur h).2⟩
theorem wt:∀ l:List AV,nj l l
 | []=>trivial
 | x::r=>⟨AV.sub_refl x,wt r⟩
def lkB (sl:List (Nat×AV)):List (Nat×AV)->List (Option AV)|[]=>[]|(i,_)::r=>look sl i::lkB sl r
def smB:List (Nat×AV)->List (Option AV)|[]=>[]|(_,x)::r=>some x::smB r
theorem ta {sl:List (Nat×AV)}:∀ {b:List (Nat×AV)},lkB sl b=smB b->fG sl b
 | [],_=>trivial
 | (_i,_x)::_r,h=>⟨(ur h).1,ta (ur h).2⟩
def lkS (S:fX):Nat->List (List (Option AV))|0=>[]|j+1=>lkB (trL (S.D j) (S.bas j)) (S.bas (j+1))::lkS S j
def smS (S:fX):Nat->List (List (Option AV))|0=>[]|j+1=>smB (S.bas (j+1))::smS S j
theorem uR {S:fX}:∀ {m:Nat},lkS S m=smS S m->∀ j,j<m->fG (trL (S.D j) (S.bas j)) (S.bas (j+1))
 | 0,_,j,h=>absurd h (Nat.not_lt_zero _)
 | m+1,h,j,hj=>by
  by_cases e:j=m
  ·subst e; exact ta (ur h).1
  ·exact uR (ur h).2 j O
section
variable {C:Cx} {Q:Exit->AS->Prop} {K:AS->Prop} {sl:List (Nat×AV)} {ob:List (Nat×List AV)} {o:Oper} {d:Nat} {s:AS} {k:List Fr} {ops:Array Oper}
theorem cVq (ids NS:List Nat)(NB NE:Nat){f:FuncId}{args:Array Operand}{ts:Array TypeId}{l q:List AV}{Of qo rob ob':List (Nat×List AV)}{r r':AV}(hc:aS C.P f q qo (λ x y=>x=r/\y=rob))(henter:∀ vs w,(callFunc f vs).run C.P w=.ok (.enter f vs) w)
  (e:(o.op,o.dst,Nat.blt d C.n,j8 sl args.toList,AV.mapA.go (lO ids NS) l,iQ ob ids,iK (lO ids NS) Of,lkM qo qo,nodupB ids,ids.all (λ i=>Nat.blt i (2*M1)),Nat.ble ids.length M1,Nat.ble NE M1,ids.all (λ i=>!(dp NS NB NE i)),nodupB NS,NS.all (λ i=>Nat.blt i M1),Nat.ble NS.length 100000,r.mapA (lD ids NB NE),iK (lD ids NB NE) rob)=(.call { callee:=.value (.func f),args:=args,argTypes:=ts },some d,true,some l,some q,some Of,some qo,smM qo,true,true,true,true,true,true,true,true,some r',some ob'))
  (hK:K ⟨(d,r')::(cq (dp NS NB NE) ⟨sl,ob⟩).sl,ob'++(cq (dp NS NB NE) ⟨sl,ob.filter λ p=>!(ids.any (Nat.beq p.1))⟩).ob⟩):aX C o K ⟨sl,ob⟩:=by
 simp only [Prod.mk.injEq] at e;obtain ⟨e1,e2,e3,e4,e5,e6,e7,e8,e9,Qp,Qe,QN,Q0,Vh,RX,SL,Rh,RV⟩:=e;exact aN ids NS NB NE hc e1 e2 e3 e4 e5 (wt _) e6 e7 (vT e8) e9 Qp Qe QN Q0 Vh RX SL henter Rh RV hK
theorem qD {β:Type}{v v0:β}{tt:List (Nat×TI)}{fn:Func}{ts ids:List Nat}{mk:β->AV}{mo:β->List (Nat×List AV)}{Of:List (Nat×List AV)}{l:List AV}(e:some v=some v0)
  (h:(nB tt fn.results.toList s,(sy l).mapA (mH ts),iQ s.ob ids,iK (mH ts) Of,lkM (mo v) (mo v))=(some l,some (mk v),some Of,some (mo v),smM (mo v))):M C (λ e s=>∃ v,v=v0/\wT C tt fn ts ids (mk v) (mo v) e s) ⟨.ex .ret,[],s⟩:=by
 simp only [Prod.mk.injEq] at h;obtain ⟨h1,h2,h3,h4,h5⟩:=h;exact mQo (Option.some.inj e) (aJ _) h1 h2 h3 h4 (AV.sub_refl _) (vT h5)
theorem mSq (S:fX){id:Nat}
  (e:(C.P.follows .mixedOrders,S.imp.length,S.obj 0,lkB sl (S.bas 0),lkS S S.m,nodupB S.imp,S.imp.all (λ i=>Nat.blt i ops.size),chainB ops S.imp,(ops.toList.zipIdx.all λ p=>p.1.after.toList.all λ e=>!(Region.binds .any e)||Nat.blt e.on p.2))=(true,S.m,ob,smB (S.bas 0),smS S S.m,true,true,true,true))
  (h:DS C ops S (λ rev=>M C Q ⟨.ex .normal,k,⟨ef rev S.m++S.bas S.m,S.obj S.m⟩⟩) ops.toList 0 []):M C Q ⟨.cd (.region id ops true),k,⟨sl,ob⟩⟩:=by
 simp only [Prod.mk.injEq] at e;obtain ⟨e1,e2,e3,e4,e5,e6,e7,e8,e9⟩:=e;exact mS S e1 e2 e3 (ta e4) (uR e5) e6 e7 e8 e9 h
end
def ob2 (A:List (Nat×List AV))(x:Nat×List AV):Nat->List (Nat×List AV)|0=>A|_+1=>x::A
def ob3 (A:List (Nat×List AV))(x y:Nat×List AV):Nat->List (Nat×List AV)|0=>A|1=>x::A|_+2=>y::x::A
def ob5 (A:List (Nat×List AV))(x y z u:Nat×List AV):Nat->List (Nat×List AV)|0=>A|1=>x::A|2=>y::x::A|3=>z::y::x::A|_+4=>u::z::y::x::A
end Go.Ab
end
