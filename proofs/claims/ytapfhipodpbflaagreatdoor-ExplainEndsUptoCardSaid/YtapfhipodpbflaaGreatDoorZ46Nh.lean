/- The statement ExplainEnds is proved, and its tied card: for all inputs that are Go values of the law's parameters' types, the law returns true and never panics, where what it reads is of bulk at most 1048576 (the second form). No further condition. -/
import Derived.Lib.IndexLaws
import Derived.Lib.Join
import Derived.WalkKit
import Derived.Test.YtapfhipodpbflaaGreatDoorCards
import Derived.Test.YtapfhipodpbflaaGreatDoorTie
import Derived.SizedLaws
import Derived.ProofKit
import Derived.OpenShut
import Derived.ShutString
import Derived.LaidMore
import Derived.Stop.Joined
import Derived.Deep.DeepHandedRow
import Derived.Deep.DeepWitnessRowRef
import Derived.Test.YtapfhipodpbflaaGreatDoorZ46Na
import Derived.Test.YtapfhipodpbflaaGreatDoorZ46Nb
import Derived.Test.YtapfhipodpbflaaGreatDoorZ46Nc
import Derived.Test.YtapfhipodpbflaaGreatDoorZ46Nd
import Derived.Test.YtapfhipodpbflaaGreatDoorZ46Ne
import Derived.Test.YtapfhipodpbflaaGreatDoorZ46Nf
import Derived.Test.YtapfhipodpbflaaGreatDoorZ46Ng
section
namespace Go.Ab.R06
open Go.Proofs Go.Ab Go.Ab.RB
theorem yz {n:Nat}{a:PV}(h1:WTf tt n 57 a.cells)(h2:a=mkE (((look tt 57).map (·.k.isAgg)).getD false) a.cells):∃ l:List ar,a=eL aQ l/\l.length<=bf/\∀ y∈l,ar.Bd y:=by
 obtain ⟨l,e1,b1,b2⟩:=cG aQ (λ y=>ar.Bd y) rfl h1 (λ m y hm k1 k2=>by
  obtain ⟨x,e,b⟩:=ar.dec m _ k1
  exact ⟨x,(iH e k2).trans (ar.Eo _).symm,b⟩)
 have b3:l.length*72<=bf:=b1;exact ⟨l,md e1 h2,by omega,b2⟩
theorem Az (qs:List PV)(h:WTa tt [56,57] qs):aB Tryz.prog 5 qs (·=.p (.val (.bool true))):=by
 match qs,h with
 | [a,b],⟨⟨n,h1,h2⟩,⟨m,k1,k2⟩,_⟩ =>
  obtain ⟨x,e1,b1⟩:=ba.dec n _ h1;obtain rfl:=iH e1 h2;obtain ⟨y,rfl,c1,c2⟩:=yz k1 k2;obtain ⟨n,r,hr,rfl⟩:=Dx (zN w9 b1 c2 (by unfold bf at c1; omega));exact nI n x y true hr
end Go.Ab.R06
end
section
namespace Go.Proofs.YtapfhipodpbflaaGreatDoor.explainEnds
open Go.ChangeShapes Go.WideShapes Go.ChangeAt Go.RowKit
theorem own:ownKnob Tryz.prog.godebug=none:=by kernel_rfl
theorem laid:laidOutB Tryz.prog=true:=by kernel_rfl
theorem mapped:mapsRowed Tryz.prog=true:=by kernel_rfl
theorem full:((List.range Tryz.prog.types.size).all λ t=>match Tryz.prog.underlying t with | some (.slice e)=>decide (0 < Tryz.prog.cellsOf e) | _=>true)=true:=by kernel_rfl
theorem rowed:(([56,57]:List Nat).all λ t=>decide (t < Tryz.prog.types.size))=true:=by kernel_rfl
theorem plain:([56,44,4,29,9,31,27,3,28,49,45,273,46,275,47,277,50,33,26,22,51,87,52,279,53,85,54,92,57,83,37,34,107,104,101,102,105,35,71]:List Nat).all (Go.Ab.lB Go.Ab.tt [56,44,4,29,9,31,27,3,28,49,45,273,46,275,47,277,50,33,26,22,51,87,52,279,53,85,54,92,57,83,37,34,107,104,101,102,105,35,71])=true:=by kernel_rfl
theorem closed:([56,44,4,29,9,31,27,3,28,49,45,273,46,275,47,277,50,33,26,22,51,87,52,279,53,85,54,92,57,83,37,34,107,104,101,102,105,35,71]:List Nat).all (elB Tryz.prog 512 [56,44,4,29,9,31,27,3,28,49,45,273,46,275,47,277,50,33,26,22,51,87,52,279,53,85,54,92,57,83,37,34,107,104,101,102,105,35,71])=true:=by kernel_rfl
theorem globs:Go.Ab.ym Tryz.prog Rows.explainEndsUptoRow.laid=true:=by kernel_rfl
noncomputable def laidW0 (os:Os):World :=
  { World.doorLaid Tryz.prog 72 os with heap:=(World.doorLaid Tryz.prog 72 os).heap.modify 2 fun
      | .cells _ t frozen=>.cells (Go.Ab.Bg.map Go.Ab.GC.val).toArray t frozen
      | o=>o }
noncomputable def laidW (os:Os):World:=laidW0 os
theorem laid_met (os:Os):laidMetH Tryz.prog Rows.explainEndsUptoRow.laid ((laidW os).forCall (λ _ _=>0) ⟨#[],#[.agg #[.bool false,.bool false,.slice none 0 0,.slice none 0 0,.int .i64 0,.int .i64 0,.string ByteArray.empty,.slice none 0 0,.slice none 0 0,.int .i64 0,.int .i64 0,.string ByteArray.empty,.slice none 0 0,.slice none 0 0,.string ByteArray.empty,.int .i64 0,.slice none 0 0,.slice none 0 0,.slice none 0 0,.slice none 0 0,.slice none 0 0,.slice none 0 0,.slice none 0 0,.slice none 0 0],.slice none 0 0],[]⟩).memory :=
  laidMetH_of_parts3 (fuel:=8) (laidMet_of_run' 8 (by kernel_rfl) (by kernel_rfl)) (by kernel_rfl) (by kernel_rfl)
theorem reads (os:Os){H:Type}(enc:TypeId×Value->H):(DataW.whole enc Tryz.prog ((laidW os).forCall (λ _ _=>0) ⟨#[],#[.agg #[.bool false,.bool false,.slice none 0 0,.slice none 0 0,.int .i64 0,.int .i64 0,.string ByteArray.empty,.slice none 0 0,.slice none 0 0,.int .i64 0,.int .i64 0,.string ByteArray.empty,.slice none 0 0,.slice none 0 0,.string ByteArray.empty,.int .i64 0,.slice none 0 0,.slice none 0 0,.slice none 0 0,.slice none 0 0,.slice none 0 0,.slice none 0 0,.slice none 0 0,.slice none 0 0],.slice none 0 0],[]⟩).memory Tryz.f5.params.toList Rows.explainEndsSpec.vars false #[.agg #[.bool false,.bool false,.slice none 0 0,.slice none 0 0,.int .i64 0,.int .i64 0,.string ByteArray.empty,.slice none 0 0,.slice none 0 0,.int .i64 0,.int .i64 0,.string ByteArray.empty,.slice none 0 0,.slice none 0 0,.string ByteArray.empty,.int .i64 0,.slice none 0 0,.slice none 0 0,.slice none 0 0,.slice none 0 0,.slice none 0 0,.slice none 0 0,.slice none 0 0,.slice none 0 0],.slice none 0 0].toList 8).isSome=true:=by kernel_rfl
set_option maxRecDepth 100000 in
theorem small (os:Os){H:Type}(enc:TypeId×Value->H):(DataW.whole enc Tryz.prog ((laidW os).forCall (λ _ _=>0) ⟨#[],#[.agg #[.bool false,.bool false,.slice none 0 0,.slice none 0 0,.int .i64 0,.int .i64 0,.string ByteArray.empty,.slice none 0 0,.slice none 0 0,.int .i64 0,.int .i64 0,.string ByteArray.empty,.slice none 0 0,.slice none 0 0,.string ByteArray.empty,.int .i64 0,.slice none 0 0,.slice none 0 0,.slice none 0 0,.slice none 0 0,.slice none 0 0,.slice none 0 0,.slice none 0 0,.slice none 0 0],.slice none 0 0],[]⟩).memory Tryz.f5.params.toList Rows.explainEndsSpec.vars false #[.agg #[.bool false,.bool false,.slice none 0 0,.slice none 0 0,.int .i64 0,.int .i64 0,.string ByteArray.empty,.slice none 0 0,.slice none 0 0,.int .i64 0,.int .i64 0,.string ByteArray.empty,.slice none 0 0,.slice none 0 0,.string ByteArray.empty,.int .i64 0,.slice none 0 0,.slice none 0 0,.slice none 0 0,.slice none 0 0,.slice none 0 0,.slice none 0 0,.slice none 0 0,.slice none 0 0],.slice none 0 0].toList 8).map (λ x=>Rows.uptoSmall H (x.1++x.2.1))=some true:=by kernel_rfl
set_option maxRecDepth 100000 in
theorem lifted (os:Os)(started:os.Started)(H:Type)(enc:TypeId×Value->H)(F:Stop.Interp) :
    ReturnsInHanded {} Tryz.checked os 5 .any ((Rows.OpenSpec.upto Rows.explainEndsSpec).preRow enc Tryz.prog Tryz.f5 Rows.explainEndsUptoRow.domain false Rows.explainEndsUptoRow.laid) (((Rows.OpenSpec.upto Rows.explainEndsSpec).at F).post enc Tryz.prog Tryz.f5 false true false false):=by
  obtain ⟨x,hx⟩:=Option.isSome_iff_exists.1 (reads os enc)
  refine returnsInHanded_of_row (C:=Tryz.checked) (s:=Rows.OpenSpec.upto Rows.explainEndsSpec) own started (by kernel_rfl) Tryz.func5
    (witness_row_atRef (enc:=enc) (C:=Tryz.checked) false (laidW os) #[.agg #[.bool false,.bool false,.slice none 0 0,.slice none 0 0,.int .i64 0,.int .i64 0,.string ByteArray.empty,.slice none 0 0,.slice none 0 0,.int .i64 0,.int .i64 0,.string ByteArray.empty,.slice none 0 0,.slice none 0 0,.string ByteArray.empty,.int .i64 0,.slice none 0 0,.slice none 0 0,.slice none 0 0,.slice none 0 0,.slice none 0 0,.slice none 0 0,.slice none 0 0,.slice none 0 0],.slice none 0 0] Z (by kernel_rfl) (by kernel_rfl) (by kernel_rfl)
      (OpenSpec.preRow_of_cond 8 hx rfl (λ k hk=>by cases hk; have q:=small os (H:=H) enc; rw [hx] at q; exact Option.some.inj q) (by kernel_rfl) (laid_met os))) ?_
  intro W base args ds gs before hval0 hW _ hcond hsz0 hL hsh _;have hk:Rows.uptoSmall H (ds++gs)=true:=hcond _ rfl;rw [MakeChecks.laidMetH_plain _ _ _ (by kernel_rfl)] at hL;have hgl:=Go.Ab.BQ globs hL hsh;have hval:∀ (j:Nat) t v,Tryz.f5.params[j]? = some t->args[j]? = some v->Value.okWide Tryz.prog W .any base t v:=hval0;have hW':=hW;obtain ⟨p,q,hA0,hV,rfl,hfz,hnd⟩:=hW;have hA:DataW.TrodAll enc Tryz.prog W 0 (λ _=>true) true Tryz.f5.params.toList args.toList ds p:=hA0;have E':(DataW.weightsEach Tryz.prog (Tryz.f5.params.toList++Rows.explainEndsSpec.plain.varTypes Tryz.prog) (ds++gs)).all (·<=reachBytes)=true:=hsz0;rw [Tryz.params5] at hA hval E';obtain ⟨rfl,rfl⟩:=trodVars_none hV;rw [List.append_nil] at hk
  clear hA0 hval0 hV hsz0
  rw [List.append_nil] at E';have hA2:DataW.TrodAll enc Tryz.prog W 0 (λ _=>true) true [56,57] args.toList ds p:=hA;have hlt:∀ x∈p,x.block < W.heap.size:=λ x hx=>hW'.lt x (List.mem_append_left _ hx);obtain ⟨qs,g1,g2,g3⟩:=Go.Ab.tn Go.Ab.good plain (by decide) (λ j t v hj hv=>hval j t v (by simpa using hj) (by simpa using hv)) hA2 (λ w hw=>upto_w closed (ts:=[56,57]) (by decide) hk hw)
  have hds:∃ d0 d1,ds=[d0,d1]:=by
    obtain ⟨v0,vs0,d0,ds0,p0,q0,_,e0,_,_,r0⟩:=trodAll_cons hA2;obtain ⟨v1,vs1,d1,ds1,p1,q1,_,e1,_,_,r1⟩:=trodAll_cons r0;obtain ⟨_,z,_⟩:=trodAll_nil r1;exact ⟨d0,d1,by rw [e0,e1,z]⟩
  obtain ⟨d0,d1,rfl⟩:=hds;refine (Go.Ab.grown_of (Go.Ab.R06.Az qs g3) W hgl (by simpa using g1.symm) (λ i c v hc hv=>g2 i c v hc (by simpa using hv))).mono λ e W' ⟨he,hg⟩=>?_;subst he
  exact ⟨_,Z,Go.Ab.y9 (pa:=p) (pv:=[]) hW' (λ _ _ _=>(trodAll_cons_mk (shut_bool Tryz.underlying4 _) trodAll_mk0)) (λ sp hsp=>Go.Ab.zg laid mapped full hg rowed hlt hA2 sp (λ x hx=>hsp x (List.mem_append_left _ hx))) (λ _ _=>rfl) Z
    hg (ok_one (by kernel_rfl) Z (okWide_bool_mk Tryz.underlying4 _))⟩
theorem said:Rows.ExplainEndsUptoSaid :=
  OpenClaim.holds_of_cond 5 Tryz.f5 Z Z Z Z Z Z Z ⟨Z,Z,Z,Z,Z⟩ Z Z Z Z Z (by kernel_rfl) Tryz.func5 (by kernel_rfl)
    (of_decide_eq_true (by kernel_rfl)) (by unfold Func.isWrapper; first | (rw [if_pos (by decide +kernel)]; kernel_rfl) | (rw [if_neg (by decide +kernel)]; exact ⟨Z,Z⟩))
    (λ os started H enc _ F=>by rw [OpenClaim.pre_eq_preRow]; exact lifted os started H enc F)
theorem plainly (f:FuncId)(fn:Func)(hf:Tryz.pinned.checked.prog.funcNamed "provision/provisionlaw46.ExplainEnds" = some f) (hfn:Tryz.pinned.checked.prog.funcs[f]? = some fn) :
    true=Tryz.pinned.checked.prog.looks []/\∀ (j:Nat) t,fn.params[j]? = some t->Tryz.pinned.checked.prog.wantsStandIn t=false:=by
  obtain rfl:f=5:=Option.some.inj ((show Tryz.prog.funcNamed "provision/provisionlaw46.ExplainEnds" = some 5 by kernel_rfl).symm.trans hf) |>.symm;obtain rfl:fn=Tryz.f5:=(Option.some.inj (Tryz.func5.symm.trans hfn)).symm;refine ⟨by kernel_rfl,λ j t ht=>?_⟩;rw [Tryz.params5] at ht;have hm:t∈([56,57]:List Nat):=by have:=Array.mem_of_getElem? ht; first | (simp at this ⊢; omega) | simpa using this
  have hall:(([56,57]:List Nat).all λ u=>!Tryz.prog.wantsStandIn u)=true:=by kernel_rfl
  exact (show Tryz.prog.wantsStandIn t=false by simpa using ur.1 hall t hm)
theorem proved:Rows.ExplainEndsUptoCardSaid :=
  Claim7.holds_tied_plain_at .later [] _ _ _ _ said (λ _ h=>by cases h) (by kernel_rfl) (λ _ h=>by cases h) explainEndsUpto_row_tie rfl ⟨rfl,rfl⟩ (by kernel_rfl) rfl plainly (by kernel_rfl)
#print axioms proved
end Go.Proofs.YtapfhipodpbflaaGreatDoor.explainEnds
end
