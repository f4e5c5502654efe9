/- The statement FormatOffsets is proved, and its tied card: for all inputs that are Go values of the law's parameters' types, the law returns true and never panics. No further condition. -/
import Derived.Test.YtmdefcidhgbikaaDoorCards
import Derived.Test.YtmdefcidhgbikaaDoorTie
import Derived.WalkKit
import Derived.SizedLaws
import Derived.ProofKit
import Derived.OpenShut
import Derived.ShutString
import Derived.LaidMore
import Derived.Stop.Joined
import Derived.Deep.DeepHandedRow
import Derived.Deep.DeepWitnessRowRef
import Derived.Test.YtmdefcidhgbikaaDoorZ16Oa
import Derived.Test.YtmdefcidhgbikaaDoorZ16Ob
import Derived.Test.YtmdefcidhgbikaaDoorZ16Oc
import Derived.Test.YtmdefcidhgbikaaDoorZ16Od
import Derived.Test.YtmdefcidhgbikaaDoorZ16Oe
set_option maxHeartbeats 4000000
section
namespace Go.Ab.R06
open Go.Proofs Go.Ab Go.Ab.RB
theorem sc (qs:List PV)(h:WTa tt [31,31,3] qs):aE Tryd.prog 3 qs (·=.p (.val (.bool true))):=by
 match qs,h with
 | [a,b,c],⟨⟨n,h1,h2⟩,⟨m,k1,k2⟩,⟨p,i1,i2⟩,_⟩ =>
  obtain ⟨x,e1,b1⟩:=aa.dec n _ h1
  obtain rfl:=jV e1 h2
  obtain ⟨y,e2,b2⟩:=aa.dec m _ k1
  obtain rfl:=jV e2 k2
  cases p with
  | zero=>exact i1.elim
  | succ p =>
   obtain ⟨z,e3,b3⟩:=Go.Ab.qz rfl i1
   obtain rfl:=pe e3 i2
   obtain ⟨n,r,hr,rfl⟩:=vz (U.law_offs (d:=z) b1 b2 (wf_i64 b3))
   exact gO n x y z true hr
end Go.Ab.R06
end
section
namespace Go.Proofs.YtmdefcidhgbikaaDoor.formatOffsets
open Go.ChangeShapes Go.WideShapes Go.ChangeAt Go.RowKit
theorem own:ownKnob Tryd.prog.godebug=none:=by kernel_rfl
theorem laid:laidOutB Tryd.prog=true:=by kernel_rfl
theorem mapped:mapsRowed Tryd.prog=true:=by kernel_rfl
theorem full:((List.range Tryd.prog.types.size).all λ t=>match Tryd.prog.underlying t with | some (.slice e)=>decide (0 < Tryd.prog.cellsOf e) | _=>true)=true:=by kernel_rfl
theorem rowed:(([31,31,3]:List Nat).all λ t=>decide (t < Tryd.prog.types.size))=true:=by kernel_rfl
theorem plain:([31,22,23,9,28,24,3,25,26,29]:List Nat).all (Go.Ab.fL Go.Ab.tt [31,22,23,9,28,24,3,25,26,29])=true:=by kernel_rfl
theorem globs:Go.Ab.qt Tryd.prog Rows.formatOffsetsRow.laid=true:=by kernel_rfl
noncomputable def laidW0 (os:Os):World :=
  { World.doorLaid Tryd.prog 34 os with heap:=(World.doorLaid Tryd.prog 34 os).heap.modify 2 fun
      | .cells _ t frozen=>.cells (Go.Ab.uL.map Go.Ab.GC.val).toArray t frozen
      | o=>o }
noncomputable def laidW (os:Os):World:=laidW0 os
theorem laid_met (os:Os):laidMetH Tryd.prog Rows.formatOffsetsRow.laid ((laidW os).forCall (λ _ _=>0) ⟨#[],#[.agg #[.int .i64 0,.int .i64 0,.string ByteArray.empty,.string ByteArray.empty,.int .i64 0,.int .i64 0,.string ByteArray.empty,.slice none 0 0,.slice none 0 0,.slice none 0 0,.int .i64 0],.agg #[.int .i64 0,.int .i64 0,.string ByteArray.empty,.string ByteArray.empty,.int .i64 0,.int .i64 0,.string ByteArray.empty,.slice none 0 0,.slice none 0 0,.slice none 0 0,.int .i64 0],.int .i64 0],[]⟩).memory :=
  laidMetH_of_parts3 (fuel:=8) (laidMet_of_run' 8 (by kernel_rfl) (by kernel_rfl)) (by kernel_rfl) (by kernel_rfl)
theorem reads (os:Os){H:Type}(enc:TypeId×Value→H):(DataW.whole enc Tryd.prog ((laidW os).forCall (λ _ _=>0) ⟨#[],#[.agg #[.int .i64 0,.int .i64 0,.string ByteArray.empty,.string ByteArray.empty,.int .i64 0,.int .i64 0,.string ByteArray.empty,.slice none 0 0,.slice none 0 0,.slice none 0 0,.int .i64 0],.agg #[.int .i64 0,.int .i64 0,.string ByteArray.empty,.string ByteArray.empty,.int .i64 0,.int .i64 0,.string ByteArray.empty,.slice none 0 0,.slice none 0 0,.slice none 0 0,.int .i64 0],.int .i64 0],[]⟩).memory Tryd.f3.params.toList Rows.formatOffsetsSpec.vars false #[.agg #[.int .i64 0,.int .i64 0,.string ByteArray.empty,.string ByteArray.empty,.int .i64 0,.int .i64 0,.string ByteArray.empty,.slice none 0 0,.slice none 0 0,.slice none 0 0,.int .i64 0],.agg #[.int .i64 0,.int .i64 0,.string ByteArray.empty,.string ByteArray.empty,.int .i64 0,.int .i64 0,.string ByteArray.empty,.slice none 0 0,.slice none 0 0,.slice none 0 0,.int .i64 0],.int .i64 0].toList 8).isSome=true:=by kernel_rfl
set_option maxRecDepth 100000 in
theorem lifted (os:Os)(started:os.Started)(H:Type)(enc:TypeId×Value→H)(F:Stop.Interp) :
    ReturnsInHanded {} Tryd.checked os 3 .any ((OpenSpec.ofChange Rows.formatOffsetsSpec).preRow enc Tryd.prog Tryd.f3 Rows.formatOffsetsRow.domain false Rows.formatOffsetsRow.laid) (((OpenSpec.ofChange Rows.formatOffsetsSpec).at F).post enc Tryd.prog Tryd.f3 false true false false):=by
  obtain ⟨x,hx⟩:=Option.isSome_iff_exists.1 (reads os enc)
  refine returnsInHanded_of_row (C:=Tryd.checked) (s:=OpenSpec.ofChange Rows.formatOffsetsSpec) own started (by kernel_rfl) Tryd.func3
    (witness_row_atRef (enc:=enc) (C:=Tryd.checked) false (laidW os) #[.agg #[.int .i64 0,.int .i64 0,.string ByteArray.empty,.string ByteArray.empty,.int .i64 0,.int .i64 0,.string ByteArray.empty,.slice none 0 0,.slice none 0 0,.slice none 0 0,.int .i64 0],.agg #[.int .i64 0,.int .i64 0,.string ByteArray.empty,.string ByteArray.empty,.int .i64 0,.int .i64 0,.string ByteArray.empty,.slice none 0 0,.slice none 0 0,.slice none 0 0,.int .i64 0],.int .i64 0] rfl (by kernel_rfl) (by kernel_rfl) (by kernel_rfl)
      (OpenSpec.preRow_of_cond 8 hx rfl (λ k hk=>by cases hk) (by kernel_rfl) (laid_met os))) ?_
  intro W base args ds gs before hval0 hW _ _ hsz0 hL hsh _
  rw [MakeChecks.laidMetH_plain _ _ _ (by kernel_rfl)] at hL
  have hgl:=Go.Ab.ux globs hL hsh
  have hval:∀ (j:Nat) t v,Tryd.f3.params[j]? = some t→args[j]? = some v→Value.okWide Tryd.prog W .any base t v:=hval0
  have hW':=hW
  obtain ⟨p,q,hA0,hV,rfl,hfz,hnd⟩:=hW
  have hA:DataW.TrodAll enc Tryd.prog W 0 (λ _=>true) true Tryd.f3.params.toList args.toList ds p:=hA0
  have hsz:(DataW.weightsEach Tryd.prog (Tryd.f3.params.toList++Rows.formatOffsetsSpec.plain.varTypes Tryd.prog) (ds++gs)).all (·≤reachBytes)=true:=hsz0
  rw [Tryd.params3] at hA hval hsz
  obtain ⟨rfl,rfl⟩:=trodVars_none hV
  clear hA0 hval0 hV hsz0
  rw [List.append_nil] at hsz
  have hA2:DataW.TrodAll enc Tryd.prog W 0 (λ _=>true) true [31,31,3] args.toList ds p:=hA
  have hlt:∀ x∈p,x.block < W.heap.size:=λ x hx=>hW'.lt x (List.mem_append_left _ hx)
  obtain ⟨qs,g1,g2,g3⟩:=Go.Ab.mI Go.Ab.good plain (by decide) (λ j t v hj hv=>hval j t v (by simpa using hj) (by simpa using hv)) hA2 (λ w hw=>of_decide_eq_true (List.all_eq_true.1 hsz w hw))
  have hds:∃ d0 d1 d2,ds=[d0,d1,d2]:=by
    obtain ⟨v0,vs0,d0,ds0,p0,q0,_,e0,_,_,r0⟩:=trodAll_cons hA2
    obtain ⟨v1,vs1,d1,ds1,p1,q1,_,e1,_,_,r1⟩:=trodAll_cons r0
    obtain ⟨v2,vs2,d2,ds2,p2,q2,_,e2,_,_,r2⟩:=trodAll_cons r1
    obtain ⟨_,z,_⟩:=trodAll_nil r2
    exact ⟨d0,d1,d2,by rw [e0,e1,e2,z]⟩
  obtain ⟨d0,d1,d2,rfl⟩:=hds
  refine (Go.Ab.grown_of (Go.Ab.R06.sc qs g3) W hgl (by simpa using g1.symm) (λ i c v hc hv=>g2 i c v hc (by simpa using hv))).mono λ e W' ⟨he,hg⟩=>?_
  subst he
  exact ⟨_,rfl,Go.Ab.qM (pa:=p) (pv:=[]) hW' (λ _ _ _=>(trodAll_cons_mk (shut_bool Tryd.underlying4 _) trodAll_mk0)) (λ sp hsp=>Go.Ab.qS laid mapped full hg rowed hlt hA2 sp (λ x hx=>hsp x (List.mem_append_left _ hx))) (λ _ _=>rfl) rfl
    hg (ok_one (by kernel_rfl) rfl (okWide_bool_mk Tryd.underlying4 _))⟩
theorem said:Rows.FormatOffsetsSaid :=
  OpenClaim.holds_of_cond 3 Tryd.f3 rfl rfl rfl rfl rfl rfl rfl ⟨rfl,rfl,rfl,rfl,rfl⟩ rfl rfl rfl rfl rfl (by kernel_rfl) Tryd.func3 (by kernel_rfl)
    (of_decide_eq_true (by kernel_rfl)) (by unfold Func.isWrapper; first | (rw [if_pos (by decide +kernel)]; kernel_rfl) | (rw [if_neg (by decide +kernel)]; exact ⟨rfl,rfl⟩))
    (λ os started H enc _ F=>by rw [OpenClaim.pre_eq_preRow]; exact lifted os started H enc F)
theorem plainly (f:FuncId)(fn:Func)(hf:Tryd.pinned.checked.prog.funcNamed "provision/provisionlaw16.FormatOffsets" = some f) (hfn:Tryd.pinned.checked.prog.funcs[f]? = some fn) :
    false=Tryd.pinned.checked.prog.looks []∧∀ (j:Nat) t,fn.params[j]? = some t→Tryd.pinned.checked.prog.wantsStandIn t=false:=by
  obtain rfl:f=3:=Option.some.inj ((show Tryd.prog.funcNamed "provision/provisionlaw16.FormatOffsets" = some 3 by kernel_rfl).symm.trans hf) |>.symm
  obtain rfl:fn=Tryd.f3:=(Option.some.inj (Tryd.func3.symm.trans hfn)).symm
  refine ⟨by kernel_rfl,λ j t ht=>?_⟩
  rw [Tryd.params3] at ht
  have hm:t∈([31,3]:List Nat):=by have:=Array.mem_of_getElem? ht; first | (simp at this ⊢; omega) | simpa using this
  have hall:(([31,3]:List Nat).all λ u=>!Tryd.prog.wantsStandIn u)=true:=by kernel_rfl
  exact (show Tryd.prog.wantsStandIn t=false by simpa using List.all_eq_true.1 hall t hm)
theorem proved:Rows.FormatOffsetsCardSaid :=
  Claim7.holds_tied_plain_at .later [] _ _ _ _ said (λ _ h=>by cases h) (by kernel_rfl) (λ _ h=>by cases h) formatOffsets_row_tie rfl ⟨rfl,rfl⟩ (by kernel_rfl) rfl plainly (by kernel_rfl)
#print axioms proved
end Go.Proofs.YtmdefcidhgbikaaDoor.formatOffsets
end
