/- The statement FormatBack is proved, and its tied card: for all inputs that are Go values of the law's parameters' types, the law returns true and never panics. No further condition. -/
import Derived.Lib.IndexMore
import Derived.Lib.Replace
import Derived.Lib.CountLaws
import Derived.Lib.Join
import Derived.Test.YtjaadgogdbkdfaaGreatDoorCards
import Derived.Test.YtjaadgogdbkdfaaGreatDoorTie
import Derived.WalkKit
import Derived.SizedLaws
import Derived.ProofKit
import Derived.OpenShut
import Derived.ShutString
import Derived.LaidMore
import Derived.Stop.Joined
import Derived.Deep.DeepHandedRow
import Derived.Deep.DeepWitnessRowRef
import Derived.Test.YtjaadgogdbkdfaaGreatDoorZ16Ba
import Derived.Test.YtjaadgogdbkdfaaGreatDoorZ16Bb
import Derived.Test.YtjaadgogdbkdfaaGreatDoorZ16Bc
import Derived.Test.YtjaadgogdbkdfaaGreatDoorZ16Bd
import Derived.Test.YtjaadgogdbkdfaaGreatDoorZ16Be
import Derived.Test.YtjaadgogdbkdfaaGreatDoorZ16Bf
import Derived.Test.YtjaadgogdbkdfaaGreatDoorZ16Bg
set_option maxHeartbeats 4000000
section
namespace Go.Ab.R06
open Go.Proofs Go.Ab Go.Ab.RB
theorem MI (qs:List PV)(h:WTa tt [31,35] qs):bA Tryz.prog 3 qs (·=.p (.val (.bool true))):=by
 match qs,h with
 | [a,b],⟨⟨n,h1,h2⟩,⟨m,k1,k2⟩,_⟩ =>
  obtain ⟨x,e1,b1⟩:=ab.dec n _ h1;obtain rfl:=qZ e1 h2;obtain ⟨y,e2,b2⟩:=av.dec m _ k1;obtain rfl:=qZ e2 k2;obtain ⟨n,r,hr,rfl⟩:=Se (Jo b1 b2);exact HP.c hr
end Go.Ab.R06
end
section
namespace Go.Proofs.YtjaadgogdbkdfaaGreatDoor.formatBack
open Go.ChangeShapes Go.WideShapes Go.ChangeAt Go.RowKit
theorem own:ownKnob Tryz.prog.godebug=none:=by kernel_rfl
theorem laid:laidOutB Tryz.prog=true:=by kernel_rfl
theorem mapped:mapsRowed Tryz.prog=true:=by kernel_rfl
theorem full:((List.range Tryz.prog.types.size).all λ t=>match Tryz.prog.underlying t with | some (.slice e)=>decide (0 < Tryz.prog.cellsOf e) | _=>true)=true:=by kernel_rfl
theorem rowed:(([31,35]:List Nat).all λ t=>decide (t < Tryz.prog.types.size))=true:=by kernel_rfl
theorem plain:([31,22,23,9,28,24,3,25,26,29,35,32,59,33,61]:List Nat).all (Go.Ab.p7 Go.Ab.tt [31,22,23,9,28,24,3,25,26,29,35,32,59,33,61])=true:=by kernel_rfl
theorem globs:Go.Ab.He Tryz.prog Rows.formatBackRow.laid=true:=by kernel_rfl
noncomputable def laidW0 (os:Os):World :=
  { World.doorLaid Tryz.prog 72 os with heap:=(World.doorLaid Tryz.prog 72 os).heap.modify 2 fun
      | .cells _ t frozen=>.cells (Go.Ab.J7.map Go.Ab.GC.val).toArray t frozen
      | o=>o }
noncomputable def laidW (os:Os):World:=laidW0 os
theorem laid_met (os:Os):laidMetH Tryz.prog Rows.formatBackRow.laid ((laidW os).forCall (λ _ _=>0) ⟨#[],#[.agg #[.int .i64 0,.int .i64 0,.string ByteArray.empty,.string ByteArray.empty,.int .i64 0,.int .i64 0,.string ByteArray.empty,.slice none 0 0,.slice none 0 0,.slice none 0 0,.int .i64 0],.agg #[.slice none 0 0,.slice none 0 0]],[]⟩).memory :=
  laidMetH_of_parts3 (fuel:=8) (laidMet_of_run' 8 (by kernel_rfl) (by kernel_rfl)) (by kernel_rfl) (by kernel_rfl)
theorem reads (os:Os){H:Type}(enc:TypeId×Value->H):(DataW.whole enc Tryz.prog ((laidW os).forCall (λ _ _=>0) ⟨#[],#[.agg #[.int .i64 0,.int .i64 0,.string ByteArray.empty,.string ByteArray.empty,.int .i64 0,.int .i64 0,.string ByteArray.empty,.slice none 0 0,.slice none 0 0,.slice none 0 0,.int .i64 0],.agg #[.slice none 0 0,.slice none 0 0]],[]⟩).memory Tryz.f3.params.toList Rows.formatBackSpec.vars false #[.agg #[.int .i64 0,.int .i64 0,.string ByteArray.empty,.string ByteArray.empty,.int .i64 0,.int .i64 0,.string ByteArray.empty,.slice none 0 0,.slice none 0 0,.slice none 0 0,.int .i64 0],.agg #[.slice none 0 0,.slice none 0 0]].toList 8).isSome=true:=by kernel_rfl
set_option maxRecDepth 100000 in
theorem lifted (os:Os)(started:os.Started)(H:Type)(enc:TypeId×Value->H)(F:Stop.Interp) :
    ReturnsInHanded {} Tryz.checked os 3 .any ((OpenSpec.ofChange Rows.formatBackSpec).preRow enc Tryz.prog Tryz.f3 Rows.formatBackRow.domain false Rows.formatBackRow.laid) (((OpenSpec.ofChange Rows.formatBackSpec).at F).post enc Tryz.prog Tryz.f3 false true false false):=by
  obtain ⟨x,hx⟩:=Option.isSome_iff_exists.1 (reads os enc)
  refine returnsInHanded_of_row (C:=Tryz.checked) (s:=OpenSpec.ofChange Rows.formatBackSpec) own started (by kernel_rfl) Tryz.func3
    (witness_row_atRef (enc:=enc) (C:=Tryz.checked) false (laidW os) #[.agg #[.int .i64 0,.int .i64 0,.string ByteArray.empty,.string ByteArray.empty,.int .i64 0,.int .i64 0,.string ByteArray.empty,.slice none 0 0,.slice none 0 0,.slice none 0 0,.int .i64 0],.agg #[.slice none 0 0,.slice none 0 0]] Z (by kernel_rfl) (by kernel_rfl) (by kernel_rfl)
      (OpenSpec.preRow_of_cond 8 hx rfl (λ k hk=>by cases hk) (by kernel_rfl) (laid_met os))) ?_
  intro W base args ds gs before hval0 hW _ _ hsz0 hL hsh _;rw [MakeChecks.laidMetH_plain _ _ _ (by kernel_rfl)] at hL;have hgl:=Go.Ab.PT globs hL hsh;have hval:∀ (j:Nat) t v,Tryz.f3.params[j]? = some t->args[j]? = some v->Value.okWide Tryz.prog W .any base t v:=hval0;have hW':=hW;obtain ⟨p,q,hA0,hV,rfl,hfz,hnd⟩:=hW;have hA:DataW.TrodAll enc Tryz.prog W 0 (λ _=>true) true Tryz.f3.params.toList args.toList ds p:=hA0;have U0:(DataW.weightsEach Tryz.prog (Tryz.f3.params.toList++Rows.formatBackSpec.plain.varTypes Tryz.prog) (ds++gs)).all (·<=reachBytes)=true:=hsz0;rw [Tryz.params3] at hA hval U0;obtain ⟨rfl,rfl⟩:=trodVars_none hV
  clear hA0 hval0 hV hsz0
  rw [List.append_nil] at U0;have hA2:DataW.TrodAll enc Tryz.prog W 0 (λ _=>true) true [31,35] args.toList ds p:=hA;have hlt:∀ x∈p,x.block < W.heap.size:=λ x hx=>hW'.lt x (List.mem_append_left _ hx);obtain ⟨qs,g1,g2,g3⟩:=Go.Ab.zg Go.Ab.good plain (by decide) (λ j t v hj hv=>hval j t v (by simpa using hj) (by simpa using hv)) hA2 (λ w hw=>of_decide_eq_true (sm.1 U0 w hw))
  have hds:∃ d0 d1,ds=[d0,d1]:=by
    obtain ⟨v0,vs0,d0,ds0,p0,q0,_,e0,_,_,r0⟩:=trodAll_cons hA2;obtain ⟨v1,vs1,d1,ds1,p1,q1,_,e1,_,_,r1⟩:=trodAll_cons r0;obtain ⟨_,z,_⟩:=trodAll_nil r1;exact ⟨d0,d1,by rw [e0,e1,z]⟩
  obtain ⟨d0,d1,rfl⟩:=hds;refine (Go.Ab.grown_of (Go.Ab.R06.MI qs g3) W hgl (by simpa using g1.symm) (λ i c v hc hv=>g2 i c v hc (by simpa using hv))).mono λ e W' ⟨he,hg⟩=>?_;subst he
  exact ⟨_,Z,Go.Ab.Iy (pa:=p) (pv:=[]) hW' (λ _ _ _=>(trodAll_cons_mk (shut_bool Tryz.underlying4 _) trodAll_mk0)) (λ sp hsp=>Go.Ab.Hu laid mapped full hg rowed hlt hA2 sp (λ x hx=>hsp x (List.mem_append_left _ hx))) (λ _ _=>rfl) Z
    hg (ok_one (by kernel_rfl) Z (okWide_bool_mk Tryz.underlying4 _))⟩
theorem said:Rows.FormatBackSaid :=
  OpenClaim.holds_of_cond 3 Tryz.f3 Z Z Z Z Z Z Z ⟨Z,Z,Z,Z,Z⟩ Z Z Z Z Z (by kernel_rfl) Tryz.func3 (by kernel_rfl)
    (of_decide_eq_true (by kernel_rfl)) (by unfold Func.isWrapper; first | (rw [if_pos (by decide +kernel)]; kernel_rfl) | (rw [if_neg (by decide +kernel)]; exact ⟨Z,Z⟩))
    (λ os started H enc _ F=>by rw [OpenClaim.pre_eq_preRow]; exact lifted os started H enc F)
theorem plainly (f:FuncId)(fn:Func)(hf:Tryz.pinned.checked.prog.funcNamed "provision/provisionlaw16.FormatBack" = some f) (hfn:Tryz.pinned.checked.prog.funcs[f]? = some fn) :
    true=Tryz.pinned.checked.prog.looks []/\∀ (j:Nat) t,fn.params[j]? = some t->Tryz.pinned.checked.prog.wantsStandIn t=false:=by
  obtain rfl:f=3:=Option.some.inj ((show Tryz.prog.funcNamed "provision/provisionlaw16.FormatBack" = some 3 by kernel_rfl).symm.trans hf) |>.symm;obtain rfl:fn=Tryz.f3:=(Option.some.inj (Tryz.func3.symm.trans hfn)).symm;refine ⟨by kernel_rfl,λ j t ht=>?_⟩;rw [Tryz.params3] at ht;have hm:t∈([31,35]:List Nat):=by have:=Array.mem_of_getElem? ht; first | (simp at this ⊢; omega) | (simpa using this) | (simp at this ⊢; rcases this with h | h <;> simp [h])
  have hall:(([31,35]:List Nat).all λ u=>!Tryz.prog.wantsStandIn u)=true:=by kernel_rfl
  exact (show Tryz.prog.wantsStandIn t=false by simpa using sm.1 hall t hm)
theorem proved:Rows.FormatBackCardSaid :=
  Claim7.holds_tied_plain_at .later [] _ _ _ _ said (λ _ h=>by cases h) (by kernel_rfl) (λ _ h=>by cases h) formatBack_row_tie rfl ⟨rfl,rfl⟩ (by kernel_rfl) rfl plainly (by kernel_rfl)
#print axioms proved
end Go.Proofs.YtjaadgogdbkdfaaGreatDoor.formatBack
end
