/- The statement ExprTokens is proved, and its tied card: for all inputs that are Go values of the law's parameters' types, the law returns true and never panics. No further condition. -/
import Derived.Test.YtihghalcmfpnaaaGreatDoorCards
import Derived.Test.YtihghalcmfpnaaaGreatDoorTie
import Derived.WalkKit
import Derived.SizedLaws
import Derived.ProofKit
import Derived.OpenShut
import Derived.ShutString
import Derived.LaidMore
import Derived.Stop.Joined
import Derived.Deep.DeepHandedRow
import Derived.Deep.DeepWitnessRowRef
import Derived.Test.YtihghalcmfpnaaaGreatDoorZ14Ra
import Derived.Test.YtihghalcmfpnaaaGreatDoorZ14Rb
import Derived.Test.YtihghalcmfpnaaaGreatDoorZ14Rc
import Derived.Test.YtihghalcmfpnaaaGreatDoorZ14Rd
import Derived.Test.YtihghalcmfpnaaaGreatDoorZ14Re
import Derived.Test.YtihghalcmfpnaaaGreatDoorZ14Rf
import Derived.Test.YtihghalcmfpnaaaGreatDoorZ14Rg
section
namespace Go.Ab.R06
open Go.Proofs Go.Ab Go.Ab.RB Go.Lib
def Ra (_ _:Int):Prop:=True
theorem Bj {x y:ac}(h:RE Ra x y):Sz x→Ev2 (λ n _=>eV n x y) (·=true):=by
 induction h with
 | @mk x y k o n m v a c l s ih =>
  intro zx
  have l1:∀ k i:Nat,i+k=x.fKids.length→Ev2 (λ n m=>dV (eV n) x y m i) (·=.inl ()):=by
   intro k
   induction k with
   | zero=>intro i hi; exact aZ (by simp only [dV]; exact ag O (ab rfl))
   | succ k ihk =>
    intro i hi
    have hx:i < x.fKids.length:=by omega
    have hy:i < y.fKids.length:=by omega
    have ex:lat x.fKids (i:Int)=x.fKids[i]:=by rw [qw,List.getD_eq_getElem?_getD,List.getElem?_eq_getElem hx]; rfl
    have ey:lat y.fKids (i:Int)=y.fKids[i]:=by rw [qw,List.getD_eq_getElem?_getD,List.getElem?_eq_getElem hy]; rfl
    have hm:(x.fKids[i],y.fKids[i])∈x.fKids.zip y.fKids:=by
     have hz:i < (x.fKids.zip y.fKids).length:=by rw [List.length_zip]; omega
     have:=List.getElem_mem hz
     rwa [List.getElem_zip] at this
    refine aZ ?_
    simp only [dV]
    exact ai O (av O (av O (am _ (by rw [ex,ey]; exact ih _ hm (zx.kids _ (List.getElem_mem hx))) (ag (by decide) (av (aI O O) (ihk (i+1) O))))))
  refine cq ?_
  simp only [eV]
  refine am false (ai k.symm (ai o.symm (ai n.symm (ai m.symm (am _ (by rw [v]; exact vg zx.w) (ag (by decide) (ab (by simp [l])))))))) (ag (by decide) ?_)
  exact f0 () (bT (f:=λ n m=>dV (eV n) x y m 0) (l1 x.fKids.length 0 O)) (ab Z)
theorem yT {s s':Bytes}(h1:(s.length:Int)≤1000000)(hk:(dQ s).2.fKind=0)(hk':(dQ s').2.fKind=0)(h:F2 (TR Ra) ((dQ s).1.map (mvT 0)) ((dQ s').1.map (mvT 0))):∀ f,RT Ra (RE Ra) (dO f s 0) (dO f s' 0)
 | 0=>by rw [dO,dO]; exact trivial
 | f+1=>by
  rw [dO,dO,if_neg (by simp [hk]),if_neg (by simp [hk'])]
  have hg:=oN (s:=s) (a:=0) O O  hk
  have hx':=(fct f).e true _ hg
  have hx:=(alk (R:=Ra) (λ _ _ _ _ _ _=>trivial) f).e true h hg
  generalize eC f true ((dQ s).1.map (mvT 0))=u at hx hx' ⊢
  generalize eC f true ((dQ s').1.map (mvT 0))=v at hx ⊢
  match u,v,hx with
  | none,none,_=>exact trivial
  | some (.inl e),some (.inl e'),h'=>exact h'
  | some (.inr (e,l)),some (.inr (e',m)),h' =>
   have gl:=(hx' _ Z).2.2
   simp only [k2' h'.2 gl]
   exact nJ (λ _=>h'.1) (λ _=>⟨Z,trivial⟩)
theorem Fo {s s':Bytes}{a b:List Tk}(h:F2 xW a b):F2 (TR Ra) ((a.map (tkS s)).map (mvT 0)) ((b.map (tkS s')).map (mvT 0)):=by
 induction h with
 | nil=>exact .nil
 | cons p _ ih=>exact .cons ⟨p.1,p.2,trivial⟩ ih
theorem xi (s:Bytes):Ev2 (λ n _=>gQ n s) (·=true):=by
 simp only [gQ]
 refine aK (λ _=>af _ mn (λ t ht=>ab ht)) (λ h=>?_)
 have hs:(s.length:Int)≤1500:=by omega
 refine am _ (yj s) (aK (λ hk=>?_) (λ _=>af _ mn (λ t ht=>ab ht)))
 have h0:dQ s=x6 s [] (fF (s.length+1) 0 s):=by unfold dQ; rw [if_neg O]
 cases hq:fF (s.length+1) 0 s with
 | inl e =>
  rw [h0,hq] at hk
  exact absurd hk (tG _ _ _ e hq)
 | inr ts =>
  rw [hq] at h0
  have htl:=(nT (s:=s) (a:=0) O O  hk).2.2
  obtain ⟨⟨z,r,rfl,_⟩,hlen,hb⟩:=sd _ _ _ _ hq
  have h1:(dQ s).1=(z::r).map (tkS s):=by rw [h0]; rfl
  rw [h1,List.length_map] at htl
  obtain ⟨ts',f2,e1,_⟩:=hb (max (s.length+1) ((ij (z::r)).length+1)) O
  have h0':dQ (ij (z::r))=x6 (ij (z::r)) [] (.inr ts'):=by
   have h2:=qC (s:=ij (z::r)) O (d:=ax.mk 0 0 []) (max (s.length+1) ((ij (z::r)).length+1)) (ij (z::r)) [] G (List.suffix_refl _) O
   have h3:=qC (s:=ij (z::r)) O (d:=ax.mk 0 0 []) ((ij (z::r)).length+1) (ij (z::r)) [] G (List.suffix_refl _) O
   have:=Sum.inr.inj (Db h3 h2)
   rw [List.length_nil,e1] at this
   unfold dQ
   rw [if_neg O]
   exact this
  obtain ⟨f,q,hw⟩:=zv s 0 O O
  have hz:=(fct f).w s 0 O O  q hw
  refine am _ (xP O hw) ?_
  rw [h1]
  refine am _ (yC O O) ?_
  have hrel:=yT (s:=s) (s':=ij (z::r)) O hk (by rw [h0']; rfl) (by rw [h1,h0']; exact Fo f2) f
  rw [hw] at hrel
  cases hw':dO f (ij (z::r)) 0 with
  | none=>rw [hw'] at hrel; cases q <;> exact hrel.elim
  | some q' =>
   rw [hw'] at hrel
   refine am _ (xP O hw') ?_
   match q,q',hrel,hz with
   | .inl e,.inl e',hrel,hz =>
    replace hz:e.1≠0:=hz
    exact ai hrel.1.symm (af (·=true) (ag hz (af _ mn (λ t ht=>ab ht))) (λ t ht=>ab ht))
   | .inr x,.inr y,hrel,zx =>
    replace hrel:RE Ra x y:=hrel
    have hc:=chk2 hrel
    by_cases h9:chk x=0
    ·have e1:kW (.inr x)=.inr x:=by unfold kW; simp only [h9,if_true]
     have e2:kW (.inr y)=.inr y:=by unfold kW; simp only [hc,h9,if_true]
     rw [e1,e2]
     exact ai Z (af (·=true) (ai Z (am _ (Bj hrel zx) (ai Z (af _ mn (λ t ht=>ab ht))))) (λ t ht=>ab ht))
    ·have e1:kW (.inr x)=.inl (chk x,x.fAt):=by unfold kW; simp only [h9,if_false]
     have e2:kW (.inr y)=.inl (chk x,y.fAt):=by unfold kW; simp only [hc,h9,if_false]
     rw [e1,e2]
     exact ai Z (af (·=true) (ag h9 (af _ mn (λ t ht=>ab ht))) (λ t ht=>ab ht))
theorem wK (qs:List PV)(h:WTa tt [9] qs):bF Tryz.prog 8 qs (·=.p (.val (.bool true))):=by
 match qs,h with
 | [a],⟨⟨n,h1,h2⟩,_⟩ =>
  cases n with
  | zero=>exact h1.elim
  | succ n =>
   obtain ⟨x,e1,_⟩:=Go.Ab.oe rfl h1
   obtain rfl:=En e1 h2
   obtain ⟨n,r,hr,rfl⟩:=E5 (xi x)
   exact HP.c hr
end Go.Ab.R06
end
section
namespace Go.Proofs.YtihghalcmfpnaaaGreatDoor.exprTokens
open Go.ChangeShapes Go.WideShapes Go.ChangeAt Go.RowKit
theorem own:ownKnob Tryz.prog.godebug=none:=by kernel_rfl
theorem laid:laidOutB Tryz.prog=true:=by kernel_rfl
theorem mapped:mapsRowed Tryz.prog=true:=by kernel_rfl
theorem full:((List.range Tryz.prog.types.size).all λ t=>match Tryz.prog.underlying t with | some (.slice e)=>decide (0 < Tryz.prog.cellsOf e) | _=>true)=true:=by kernel_rfl
theorem rowed:(([9]:List Nat).all λ t=>decide (t < Tryz.prog.types.size))=true:=by kernel_rfl
theorem plain:([9]:List Nat).all (Go.Ab.kf Go.Ab.tt [9])=true:=by kernel_rfl
theorem globs:Go.Ab.xp Tryz.prog Rows.exprTokensRow.laid=true:=by kernel_rfl
noncomputable def laidW0 (os:Os):World :=
  { World.doorLaid Tryz.prog 72 os with heap:=(World.doorLaid Tryz.prog 72 os).heap.modify 0 fun
      | .cells _ t frozen=>.cells (Go.Ab.zO.map Go.Ab.GC.val).toArray t frozen
      | o=>o }
noncomputable def laidW (os:Os):World:=laidW0 os
theorem laid_met (os:Os):laidMetH Tryz.prog Rows.exprTokensRow.laid ((laidW os).forCall (λ _ _=>0) ⟨#[],#[.string ByteArray.empty],[]⟩).memory :=
  laidMetH_of_parts3 (fuel:=8) (laidMet_of_run' 8 (by kernel_rfl) (by kernel_rfl)) (by kernel_rfl) (by kernel_rfl)
theorem reads (os:Os){H:Type}(enc:TypeId×Value→H):(DataW.whole enc Tryz.prog ((laidW os).forCall (λ _ _=>0) ⟨#[],#[.string ByteArray.empty],[]⟩).memory Tryz.f8.params.toList Rows.exprTokensSpec.vars false #[.string ByteArray.empty].toList 8).isSome=true:=by kernel_rfl
set_option maxRecDepth 100000 in
theorem lifted (os:Os)(started:os.Started)(H:Type)(enc:TypeId×Value→H)(F:Stop.Interp) :
    ReturnsInHanded {} Tryz.checked os 8 .any ((OpenSpec.ofChange Rows.exprTokensSpec).preRow enc Tryz.prog Tryz.f8 Rows.exprTokensRow.domain false Rows.exprTokensRow.laid) (((OpenSpec.ofChange Rows.exprTokensSpec).at F).post enc Tryz.prog Tryz.f8 false true false false):=by
  obtain ⟨x,hx⟩:=Option.isSome_iff_exists.1 (reads os enc)
  refine returnsInHanded_of_row (C:=Tryz.checked) (s:=OpenSpec.ofChange Rows.exprTokensSpec) own started (by kernel_rfl) Tryz.func8
    (witness_row_atRef (enc:=enc) (C:=Tryz.checked) false (laidW os) #[.string ByteArray.empty] Z (by kernel_rfl) (by kernel_rfl) (by kernel_rfl)
      (OpenSpec.preRow_of_cond 8 hx rfl (λ k hk=>by cases hk) (by kernel_rfl) (laid_met os))) ?_
  intro W base args ds gs before hval0 hW _ _ hsz0 hL hsh _
  rw [MakeChecks.laidMetH_plain _ _ _ (by kernel_rfl)] at hL
  have hgl:=Go.Ab.CU globs hL hsh
  have hval:∀ (j:Nat) t v,Tryz.f8.params[j]? = some t→args[j]? = some v→Value.okWide Tryz.prog W .any base t v:=hval0
  have hW':=hW
  obtain ⟨p,q,hA0,hV,rfl,hfz,hnd⟩:=hW
  have hA:DataW.TrodAll enc Tryz.prog W 0 (λ _=>true) true Tryz.f8.params.toList args.toList ds p:=hA0
  have hsz:(DataW.weightsEach Tryz.prog (Tryz.f8.params.toList++Rows.exprTokensSpec.plain.varTypes Tryz.prog) (ds++gs)).all (·≤reachBytes)=true:=hsz0
  rw [Tryz.params8] at hA hval hsz
  obtain ⟨rfl,rfl⟩:=trodVars_none hV
  clear hA0 hval0 hV hsz0
  rw [List.append_nil] at hsz
  have hA2:DataW.TrodAll enc Tryz.prog W 0 (λ _=>true) true [9] args.toList ds p:=hA
  have hlt:∀ x∈p,x.block < W.heap.size:=λ x hx=>hW'.lt x (List.mem_append_left _ hx)
  obtain ⟨qs,g1,g2,g3⟩:=Go.Ab.sB Go.Ab.good plain (by decide) (λ j t v hj hv=>hval j t v (by simpa using hj) (by simpa using hv)) hA2 (λ w hw=>of_decide_eq_true (List.all_eq_true.1 hsz w hw))
  have hds:∃ d0,ds=[d0]:=by
    obtain ⟨v0,vs0,d0,ds0,p0,q0,_,e0,_,_,r0⟩:=trodAll_cons hA2
    obtain ⟨_,z,_⟩:=trodAll_nil r0
    exact ⟨d0,by rw [e0,z]⟩
  obtain ⟨d0,rfl⟩:=hds
  refine (Go.Ab.grown_of (Go.Ab.R06.wK qs g3) W hgl (by simpa using g1.symm) (λ i c v hc hv=>g2 i c v hc (by simpa using hv))).mono λ e W' ⟨he,hg⟩=>?_
  subst he
  exact ⟨_,Z,Go.Ab.yw (pa:=p) (pv:=[]) hW' (λ _ _ _=>(trodAll_cons_mk (shut_bool Tryz.underlying4 _) trodAll_mk0)) (λ sp hsp=>Go.Ab.yv laid mapped full hg rowed hlt hA2 sp (λ x hx=>hsp x (List.mem_append_left _ hx))) (λ _ _=>rfl) Z
    hg (ok_one (by kernel_rfl) Z (okWide_bool_mk Tryz.underlying4 _))⟩
theorem said:Rows.ExprTokensSaid :=
  OpenClaim.holds_of_cond 8 Tryz.f8 Z Z Z Z Z Z Z ⟨Z,Z,Z,Z,Z⟩ Z Z Z Z Z (by kernel_rfl) Tryz.func8 (by kernel_rfl)
    (of_decide_eq_true (by kernel_rfl)) (by unfold Func.isWrapper; first | (rw [if_pos (by decide +kernel)]; kernel_rfl) | (rw [if_neg (by decide +kernel)]; exact ⟨Z,Z⟩))
    (λ os started H enc _ F=>by rw [OpenClaim.pre_eq_preRow]; exact lifted os started H enc F)
theorem plainly (f:FuncId)(fn:Func)(hf:Tryz.pinned.checked.prog.funcNamed "provision/provisionlaw14.ExprTokens" = some f) (hfn:Tryz.pinned.checked.prog.funcs[f]? = some fn) :
    true=Tryz.pinned.checked.prog.looks []∧∀ (j:Nat) t,fn.params[j]? = some t→Tryz.pinned.checked.prog.wantsStandIn t=false:=by
  obtain rfl:f=8:=Option.some.inj ((show Tryz.prog.funcNamed "provision/provisionlaw14.ExprTokens" = some 8 by kernel_rfl).symm.trans hf) |>.symm
  obtain rfl:fn=Tryz.f8:=(Option.some.inj (Tryz.func8.symm.trans hfn)).symm
  refine ⟨by kernel_rfl,λ j t ht=>?_⟩
  rw [Tryz.params8] at ht
  have hm:t∈([9]:List Nat):=by have:=Array.mem_of_getElem? ht; first | (simp at this ⊢; omega) | simpa using this
  have hall:(([9]:List Nat).all λ u=>!Tryz.prog.wantsStandIn u)=true:=by kernel_rfl
  exact (show Tryz.prog.wantsStandIn t=false by simpa using List.all_eq_true.1 hall t hm)
theorem proved:Rows.ExprTokensCardSaid :=
  Claim7.holds_tied_plain_at .later [] _ _ _ _ said (λ _ h=>by cases h) (by kernel_rfl) (λ _ h=>by cases h) exprTokens_row_tie rfl ⟨rfl,rfl⟩ (by kernel_rfl) rfl plainly (by kernel_rfl)
#print axioms proved
end Go.Proofs.YtihghalcmfpnaaaGreatDoor.exprTokens
end
