/- The statement AddressOwn is proved, and its tied card: for all inputs that are Go values of the law's parameters' types, the law returns true and never panics. No further condition. -/
import Derived.Test.YtijgdpmadidpaaaDoorCards
import Derived.Test.YtijgdpmadidpaaaDoorTie
import Derived.Test.YtijgdpmadidpaaaDoorAbW
import Derived.Test.YtijgdpmadidpaaaDoorAbGk
import Derived.Test.YtijgdpmadidpaaaDoorV06o
import Derived.WalkKit
import Derived.SizedLaws
import Derived.ProofKit
import Derived.OpenShut
import Derived.ShutString
import Derived.LaidMore
import Derived.Stop.Joined
import Derived.Deep.DeepHandedRow
import Derived.Deep.DeepWitnessRowRef
set_option linter.unusedSimpArgs false
set_option linter.unnecessarySimpa false
namespace Go.Proofs.YtijgdpmadidpaaaDoor.addressOwn
open Go.ChangeShapes Go.WideShapes Go.ChangeAt Go.RowKit
set_option linter.unusedVariables false

theorem own : ownKnob Tryd.prog.godebug = none := by kernel_rfl
theorem laid : laidOutB Tryd.prog = true := by kernel_rfl
theorem mapped : mapsRowed Tryd.prog = true := by kernel_rfl
theorem full : ((List.range Tryd.prog.types.size).all fun t => match Tryd.prog.underlying t with | some (.slice e) => decide (0 < Tryd.prog.cellsOf e) | _ => true) = true := by kernel_rfl
theorem rowed : (([29] : List Nat).all fun t => decide (t < Tryd.prog.types.size)) = true := by kernel_rfl
theorem plain : ([29, 24, 38, 9, 27, 25, 3, 4] : List Nat).all (Go.Ab.plainT Go.Ab.tt [29, 24, 38, 9, 27, 25, 3, 4]) = true := by kernel_rfl
theorem globs : Go.Ab.globChk Tryd.prog Rows.addressOwnRow.laid = true := by kernel_rfl

/-! ### A world for the witness: what the program's start leaves -/
noncomputable def laidW0 (os : Os) : World :=
  { World.doorLaid Tryd.prog 72 os with heap := (World.doorLaid Tryd.prog 72 os).heap.modify 0 fun
      | .cells _ t frozen => .cells (Go.Ab.glob0.map Go.Ab.GC.val).toArray t frozen
      | o => o }
noncomputable def laidW (os : Os) : World := laidW0 os
theorem laid_met (os : Os) : laidMetH Tryd.prog Rows.addressOwnRow.laid ((laidW os).forCall (fun _ _ => 0) ⟨#[], #[.agg #[.slice none 0 0, .bool false, .string ByteArray.empty, .string ByteArray.empty, .int .i64 0, .int .i64 0, .string ByteArray.empty]], []⟩).memory :=
  laidMetH_of_parts3 (fuel := 8) (laidMet_of_run' 8 (by kernel_rfl) (by kernel_rfl)) (by kernel_rfl) (by kernel_rfl)
theorem reads (os : Os) {H : Type} (enc : TypeId × Value → H) : (DataW.whole enc Tryd.prog ((laidW os).forCall (fun _ _ => 0) ⟨#[], #[.agg #[.slice none 0 0, .bool false, .string ByteArray.empty, .string ByteArray.empty, .int .i64 0, .int .i64 0, .string ByteArray.empty]], []⟩).memory Tryd.f6.params.toList Rows.addressOwnSpec.vars false #[.agg #[.slice none 0 0, .bool false, .string ByteArray.empty, .string ByteArray.empty, .int .i64 0, .int .i64 0, .string ByteArray.empty]].toList 8).isSome = true := by kernel_rfl

/-! ### The row's step -/
set_option maxRecDepth 100000 in
theorem lifted (os : Os) (started : os.Started) (H : Type) (enc : TypeId × Value → H) (F : Stop.Interp) :
    ReturnsInHanded {} Tryd.checked os 6 .any ((OpenSpec.ofChange Rows.addressOwnSpec).preRow enc Tryd.prog Tryd.f6 Rows.addressOwnRow.domain false Rows.addressOwnRow.laid) (((OpenSpec.ofChange Rows.addressOwnSpec).at F).post enc Tryd.prog Tryd.f6 false true false false) := by
  obtain ⟨x, hx⟩ := Option.isSome_iff_exists.1 (reads os enc)
  refine returnsInHanded_of_row (C := Tryd.checked) (s := OpenSpec.ofChange Rows.addressOwnSpec) own started (by kernel_rfl) Tryd.func6
    (witness_row_atRef (enc := enc) (C := Tryd.checked) false (laidW os) #[.agg #[.slice none 0 0, .bool false, .string ByteArray.empty, .string ByteArray.empty, .int .i64 0, .int .i64 0, .string ByteArray.empty]] rfl (by kernel_rfl) (by kernel_rfl) (by kernel_rfl)
      (OpenSpec.preRow_of_cond 8 hx rfl (fun k hk => by cases hk) (by kernel_rfl) (laid_met os))) ?_
  intro W base args ds gs before hval0 hW _ _ hsz0 hL _ _
  rw [MakeChecks.laidMetH_plain _ _ _ (by kernel_rfl)] at hL
  have hgl := Go.Ab.glob_ok globs hL
  have hval : ∀ (j : Nat) t v, Tryd.f6.params[j]? = some t → args[j]? = some v → Value.okWide Tryd.prog W .any base t v := hval0
  have hW' := hW
  obtain ⟨p, q, hA0, hV, rfl, hfz, hnd⟩ := hW
  have hA : DataW.TrodAll enc Tryd.prog W 0 (fun _ => true) true Tryd.f6.params.toList args.toList ds p := hA0
  have hsz : (DataW.weightsEach Tryd.prog (Tryd.f6.params.toList ++ Rows.addressOwnSpec.plain.varTypes Tryd.prog) (ds ++ gs)).all (· ≤ reachBytes) = true := hsz0
  rw [Tryd.params6] at hA hval hsz
  obtain ⟨rfl, rfl⟩ := trodVars_none hV
  clear hA0 hval0 hV hsz0
  rw [List.append_nil] at hsz
  have hA2 : DataW.TrodAll enc Tryd.prog W 0 (fun _ => true) true [29] args.toList ds p := hA
  have hlt : ∀ x ∈ p, x.block < W.heap.size := fun x hx => hW'.lt x (List.mem_append_left _ hx)
  obtain ⟨qs, g1, g2, g3⟩ := Go.Ab.open_args Go.Ab.good plain (by decide) (fun j t v hj hv => hval j t v (by simpa using hj) (by simpa using hv)) hA2 (fun w hw => of_decide_eq_true (List.all_eq_true.1 hsz w hw))
  have hds : ∃ d0, ds = [d0] := by
    obtain ⟨v0, vs0, d0, ds0, p0, q0, _, e0, _, _, r0⟩ := trodAll_cons hA2
    obtain ⟨_, z, _⟩ := trodAll_nil r0
    exact ⟨d0, by rw [e0, z]⟩
  obtain ⟨d0, rfl⟩ := hds
  refine (Go.Ab.grown_of (Go.Ab.R06.own_all qs g3) W hgl (by simpa using g1.symm) (fun i c v hc hv => g2 i c v hc (by simpa using hv))).mono fun e W' ⟨he, hg⟩ => ?_
  subst he
  exact ⟨_, rfl, Go.Ab.post_kept (pa := p) (pv := []) hW' (fun _ _ _ => (trodAll_cons_mk (shut_bool Tryd.underlying4 _) trodAll_mk0)) (fun sp hsp => Go.Ab.args_back laid mapped full hg rowed hlt hA2 sp (fun x hx => hsp x (List.mem_append_left _ hx))) (fun _ _ => rfl) rfl
    hg (ok_one (by kernel_rfl) rfl (okWide_bool_mk Tryd.underlying4 _))⟩

theorem said : Rows.AddressOwnSaid :=
  OpenClaim.holds_of_cond 6 Tryd.f6 rfl rfl rfl rfl rfl rfl rfl ⟨rfl, rfl, rfl, rfl, rfl⟩ rfl rfl rfl rfl rfl (by kernel_rfl) Tryd.func6 (by kernel_rfl)
    (of_decide_eq_true (by kernel_rfl)) (by unfold Func.isWrapper; first | (rw [if_pos (by decide +kernel)]; kernel_rfl) | (rw [if_neg (by decide +kernel)]; exact ⟨rfl, rfl⟩))
    (fun os started H enc _ F => by rw [OpenClaim.pre_eq_preRow]; exact lifted os started H enc F)

/-- What the card asks besides. -/
theorem plainly (f : FuncId) (fn : Func) (hf : Tryd.pinned.checked.prog.funcNamed "provision/provisionlaw06.AddressOwn" = some f) (hfn : Tryd.pinned.checked.prog.funcs[f]? = some fn) :
    true = Tryd.pinned.checked.prog.looks [] ∧ ∀ (j : Nat) t, fn.params[j]? = some t → Tryd.pinned.checked.prog.wantsStandIn t = false := by
  obtain rfl : f = 6 := Option.some.inj ((show Tryd.prog.funcNamed "provision/provisionlaw06.AddressOwn" = some 6 by kernel_rfl).symm.trans hf) |>.symm
  obtain rfl : fn = Tryd.f6 := (Option.some.inj (Tryd.func6.symm.trans hfn)).symm
  refine ⟨by kernel_rfl, fun j t ht => ?_⟩
  rw [Tryd.params6] at ht
  have hm : t ∈ ([29] : List Nat) := by have := Array.mem_of_getElem? ht; simp at this ⊢; omega
  have hall : (([29] : List Nat).all fun u => !Tryd.prog.wantsStandIn u) = true := by kernel_rfl
  exact (show Tryd.prog.wantsStandIn t = false by simpa using List.all_eq_true.1 hall t hm)

theorem proved : Rows.AddressOwnCardSaid :=
  Claim7.holds_tied_plain_at .later [] _ _ _ _ said (fun _ h => by cases h) (by kernel_rfl) (fun _ h => by cases h) addressOwn_row_tie rfl ⟨rfl, rfl⟩ (by kernel_rfl) rfl plainly (by kernel_rfl)
#print axioms proved
end Go.Proofs.YtijgdpmadidpaaaDoor.addressOwn
