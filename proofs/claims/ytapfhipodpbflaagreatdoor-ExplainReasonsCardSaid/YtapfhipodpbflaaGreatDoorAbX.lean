/- A layer of abstract values over the model's worlds, part X: functions as values, and calls that are handed pointers to settled cells and functions. It holds for every program. A layer of abstract values over the model's worlds, part Y: steps of a region that draws its order and changes objects, in the form in which they are printed. It holds for every program. -/
import Derived.Test.YtapfhipodpbflaaGreatDoorAbV
set_option linter.unusedVariables false
set_option linter.unusedSimpArgs false
set_option linter.unnecessarySimpa false
namespace Go.Ab

/-- As PCalls, but what is handed in may be pointers to settled cells, and functions that hold such. -/
def QCalls (P : Program) (f : FuncId) (args : List AV) (R : AV → Prop) : Prop :=
  ∀ (w : World) (st : Nat → Nat → Prop) (vs : Array Value), Ok0 w st → vs.size = args.length →
    (∀ (i : Nat) c v, args[i]? = some c → vs[i]? = some v → ARep w ⟨st, fun _ => none⟩ c v) →
    Calls P f vs w fun e w' => ∃ v r g', e = .returned v ∧ R r ∧ ARep w' g' r v ∧ After w st w' g'

theorem QCalls.of_sub {P : Program} {f : FuncId} {args : List AV} {r : AV} (h : QCalls P f args (fun x => x.sub r)) : QCalls P f args (· = r) :=
  fun w st vs h0 h1 h2 => (h w st vs h0 h1 h2).mono fun e w' ⟨v, _, g', h3, h4, h5, h6⟩ => ⟨v, r, g', h3, rfl, h4 _ _ _ h5, h6⟩
theorem PCalls.q {P : Program} {f : FuncId} {args : List PV} {R : AV → Prop} (h : PCalls P f args R) : QCalls P f (args.map .p) R := by
  intro w st vs h0 h1 h2
  refine h w st vs h0 (by simpa using h1) fun i c v hc hv => ?_
  have := h2 i (.p c) v (by simp [hc]) hv
  cases this with | p h => exact h

theorem qbodyA {P : Program} {tt : List (Nat × TI)} (good : TyGood P tt) {f : FuncId} {fn : Func} {c : Code} {args : List AV} {r : AV} (hf : P.funcs[f]? = some fn) (hb : fn.body = some c) (hn : Nat.ble args.length fn.ntmps = true) (hnl : Nat.ble fn.ntmps M1 = true)
    (h : ∀ w0, awp ⟨P, tt, good, fn.ntmps, hnl, w0, fun b => b < w0.w.heap.size⟩ c (retA tt fn (fun x => x.sub r)) ⟨argSlotsA args, []⟩) : QCalls P f args (· = r) := by
  refine QCalls.of_sub ?_
  intro w st vs h0 h1 h2
  refine calls_of_wp hf hb ?_
  have hn := Nat.le_of_ble_eq_true hn
  have hs : St fn.ntmps ⟨w, st, fun _ => none, h0.gl, (fun _ _ h => nomatch h), []⟩ (fun b => b < w.heap.size) ⟨st, fun _ => none⟩ ⟨argSlotsA args, []⟩ { tmps := vs ++ Array.replicate (fn.ntmps - vs.size) Go.undef, defers := [] } w := by
    refine ⟨rfl, ?_, ?_, ?_, ?_, ?_, ?_, ?_, ?_, rfl, rfl, rfl, Nat.le_refl _, fun b _ o => Iff.rfl, fun _ _ _ => rfl, ShapesH.refl _ _, fun i b _ h => (by cases h), Ev.refl _ _⟩
    · simp only [Array.size_append, Array.size_replicate]; omega
    · intro i
      have := look_argSlotsA args 0 i
      simp only [AS.get, argSlotsA, this, Nat.zero_le, if_true, Nat.sub_zero]
      cases ha : args[i]? with
      | none => exact .undef _
      | some x =>
        have hi : i < args.length := (List.getElem?_eq_some_iff.1 ha).1
        have hi2 : i < vs.size := by omega
        have e : (vs ++ Array.replicate (fn.ntmps - vs.size) Go.undef).getD i Go.undef = vs[i] := by
          simp [Array.getD_eq_getD_getElem?, Array.getElem?_append, hi2]
        simp only [Option.getD_some]
        rw [e]
        exact h2 i x _ ha (Array.getElem?_eq_getElem hi2)
    · intro id cs h; simp [look] at h
    · intro i j b h; simp at h
    · intro i b h; simp at h
    · intro b o h; exact h0.lt b o h
    · intro b h; exact h
    · intro b h; rfl
  refine wp_mono (h ⟨w, st, fun _ => none, h0.gl, (fun _ _ h => nomatch h), []⟩ _ _ w hs) ?_
  rintro e a' w' ⟨g', s', h3, he, l, hl, hR⟩
  obtain ⟨v, hv, hr⟩ := resultsA_run good h3 fn l hl
  have fin : ∃ v, (results fn a'.tmps).run P w' = .ok v w' ∧ ∃ v1 r1 g', Ending.returned v = .returned v1 ∧ r1.sub r ∧ ARep w' g' r1 v1 ∧ After w st w' g' := by
    refine ⟨v, hv, v, _, g', rfl, hR, hr, ⟨h3.os, h3.out, h3.tape, h3.size, fun b hb => h3.fr b hb, fun i b hi => ?_, h3.inj, h3.lt, h3.stf⟩⟩
    have := h3.own i b hi
    exact ⟨Nat.le_of_not_lt this.2, this.1⟩
  rcases he with rfl | rfl
  · exact ⟨h3.nd, fin⟩
  · exact ⟨h3.nd, fin⟩

section
variable {C : Cx} {o : Oper} {K : AS → Prop} {sl : List (Nat × AV)} {ob : List (Nat × List AV)} {d : Nat}

/-- What behind a call holds, in both cases. -/
theorem call_afterQ {f : FuncId} {q : List AV} {vs : Array Value} {R : AV → Prop} {g : Gh} {a : Act} {w : World} (hs : St C.n C.w0 C.F g ⟨sl, ob⟩ a w) (hc : QCalls C.P f q R) (hd : o.dst = some d) (hn : Nat.blt d C.n = true)
    (hsz : vs.size = q.length) (hargs : ∀ (i : Nat) c v, q[i]? = some c → vs[i]? = some v → ARep w ⟨g.st, fun _ => none⟩ c v) (hrun : (execOp a.eval o).run C.P w = .ok (.enter f vs) w)
    (hK : ∀ r, R r → ∃ r', r.settle = some r' ∧ K ⟨(d, r') :: sl, ob⟩) : o.wp C.P a w (fun a' w' => ∃ g' s', St C.n C.w0 C.F g' s' a' w' ∧ K s') (fun _ _ _ => False) := by
  have hcall := hc w g.st vs hs.ok0 hsz hargs
  unfold Oper.wp
  rw [hrun]
  simp only [Oper.upon]
  refine hcall.mono fun e w' ⟨v, r, g', he, hR, hr, hA⟩ => ?_
  subst he
  obtain ⟨r', hr', hK'⟩ := hK r hR
  have hs' : St C.n C.w0 C.F ⟨g'.st, g.ow⟩ ⟨sl, ob⟩ a w' := by
    refine hs.evolve0 (fun b o h => ?_) (fun id b h => ?_) hs.inj (fun i b h => ?_) hA.lt (fun b h => ?_) hA.os hA.out hA.tape hA.size (fun b hb o => ?_) (fun _ _ => rfl)
    · have hlt := hs.lt b o h
      exact ⟨(hA.stf b hlt o).2 h, by simp only [World.cell?, hA.fr b hlt]⟩
    · have hlt := (hs.own id b h).1
      exact ⟨h, hA.fr b hlt, fun o ho => (hA.stf b hlt o).1 ho⟩
    · have := hs.own i b h; have := hA.size; exact ⟨by omega, (hs.own i b h).2⟩
    · have := hs.fl b h; have := hs.size; exact hA.fr b (by omega)
    · have := hs.fl b hb; have := hs.size; exact hA.stf b (by omega) o
  have hp := hs'.put (d := o.dst) (fun t ht => by rw [hd] at ht; cases ht; exact Nat.blt_eq ▸ hn) (settle_rep (g := g') (g' := ⟨g'.st, g.ow⟩) rfl hr' hr)
  rw [hd] at hp
  simp only
  rw [hd]
  exact ⟨_, _, hp, hK'⟩

theorem argsQ {n : Nat} {w0 : Base} {w : World} {F : Nat → Prop} {g : Gh} {a : Act} (hs : St n w0 F g ⟨sl, ob⟩ a w) {args : Array Operand} {l l' q : List AV} (hl : argsA sl args.toList = some l) (hl' : AV.mapA.go (fun _ => none) l = some l') (hq : subsA l' q) :
    (args.map a.eval).size = q.length ∧ ∀ (i : Nat) c v, q[i]? = some c → (args.map a.eval)[i]? = some v → ARep w ⟨g.st, fun _ => none⟩ c v := by
  obtain ⟨a1, a2⟩ := argsA_spec hs _ l hl
  obtain ⟨m1, m2⟩ := mapA_go hl'
  obtain ⟨b1, b2⟩ := subsA_spec hq
  refine ⟨by have hlen := a1.symm.trans (m1.trans b1); simpa using hlen, fun i c v hc hv => ?_⟩
  have hi' : i < l'.length := by have := (List.getElem?_eq_some_iff.1 hc).1; omega
  have hi : i < l.length := by omega
  have hv' : (args.toList.map a.eval)[i]? = some v := by rw [← Array.toList_map]; simpa using hv
  have h1 := a2 i _ v (List.getElem?_eq_getElem hi) hv'
  have h2 := mapA_rep (g := g) (g' := ⟨g.st, fun _ => none⟩) rfl (fun i j b h _ => by cases h) h1 (m2 i _ _ (List.getElem?_eq_getElem hi) (List.getElem?_eq_getElem hi'))
  exact b2 i _ c (List.getElem?_eq_getElem hi') hc w _ v h2

theorem ok_callQ {f : FuncId} {args : Array Operand} {ts : Array TypeId} {l l' q : List AV} {r r' : AV} (hc : QCalls C.P f q (· = r)) (ho : o.op = .call { callee := .value (.func f), args := args, argTypes := ts })
    (hd : o.dst = some d) (hn : Nat.blt d C.n = true) (hl : argsA sl args.toList = some l) (hl' : AV.mapA.go (fun _ => none) l = some l') (hq : subsA l' q) (henter : ∀ vs w, (callFunc f vs).run C.P w = .ok (.enter f vs) w)
    (hr : r.settle = some r') (hK : K ⟨(d, r') :: sl, ob⟩) : OpOk C o K ⟨sl, ob⟩ := by
  intro g a w hs
  obtain ⟨h1, h2⟩ := argsQ hs hl hl' hq
  exact call_afterQ hs hc hd hn h1 h2 (by simp [execOp, ho, resolve, Act.eval, Deferred.ofValue, invoke, henter]) fun _ e => e ▸ ⟨r', hr, hK⟩

/-- A call through a value. -/
theorem ok_callF {F : FuncId} {caps : List AV} {t : Nat} {args : Array Operand} {ts : Array TypeId} {l l' q : List AV} {r r' : AV} (hc : QCalls C.P F (q ++ caps) (· = r)) (ho : o.op = .call { callee := .value (.tmp t), args := args, argTypes := ts })
    (hd : o.dst = some d) (hn : Nat.blt d C.n = true) (hf : evo sl (.tmp t) = some (.func (.func F) caps)) (hcl : AV.mapA.go (fun _ => none) caps = some caps) (hl : argsA sl args.toList = some l) (hl' : AV.mapA.go (fun _ => none) l = some l') (hq : subsA l' q)
    (henter : ∀ vs w, (callFunc F vs).run C.P w = .ok (.enter F vs) w)
    (hr : r.settle = some r') (hK : K ⟨(d, r') :: sl, ob⟩) : OpOk C o K ⟨sl, ob⟩ := by
  intro g a w hs
  obtain ⟨h1, h2⟩ := argsQ hs hl hl' hq
  have hfr := evo_rep hs hf
  generalize hv : a.eval (.tmp t) = v at hfr
  cases hfr with
  | func hcs hcr =>
    rename_i vs
    obtain ⟨m1, m2⟩ := mapA_go hcl
    refine call_afterQ hs (vs := args.map a.eval ++ vs) hc hd hn (by rw [Array.size_append, List.length_append, h1, hcs]) (fun i c v hc hv => ?_) (by simp [execOp, ho, resolve, hv, Deferred.ofValue, invoke, henter]) fun _ e => e ▸ ⟨r', hr, hK⟩
    rw [List.getElem?_append] at hc
    rw [Array.getElem?_append] at hv
    split at hc
    · rename_i hlt
      rw [if_pos (by omega)] at hv
      exact h2 i c v hc hv
    · rename_i hge
      rw [if_neg (by omega), h1] at hv
      have h3 := hcr _ c v hc hv
      exact mapA_rep (g := g) (g' := ⟨g.st, fun _ => none⟩) rfl (fun i j b h _ => by cases h) h3 (m2 _ _ _ hc hc)

/-- A function literal. -/
theorem ok_makeFunc {F : FuncId} {caps : Array Operand} {l : List AV} (ho : o.op = .makeFunc (.func F) #[] caps) (hd : o.dst = some d) (hn : Nat.blt d C.n = true) (hl : argsA sl caps.toList = some l)
    (hK : K ⟨(d, .func (.func F) l) :: sl, ob⟩) : OpOk C o K ⟨sl, ob⟩ := by
  refine ok_one hd hn (fun g a w hs => ?_) hK
  obtain ⟨a1, a2⟩ := argsA_spec hs _ l hl
  refine ⟨.func (.func F) #[] (caps.map a.eval), by simp [execOp, ho, Instr.makeFunc], .func (by have := a1.symm; simpa using this) fun i c v hc hv => a2 i c v hc (by rw [← Array.toList_map]; simpa using hv)⟩
end

end Go.Ab

namespace Go.Ab

def by2 {α : Type} (a b : α) : Nat → α
  | 0 => a
  | _ + 1 => b
def by3 {α : Type} (a b c : α) : Nat → α
  | 0 => a
  | 1 => b
  | _ + 2 => c
def by4 {α : Type} (a b c e : α) : Nat → α
  | 0 => a
  | 1 => b
  | 2 => c
  | _ + 3 => e
def by5 {α : Type} (a0 a1 a2 a3 a4 : α) : Nat → α
  | 0 => a0
  | 1 => a1
  | 2 => a2
  | 3 => a3
  | _ + 4 => a4
def by6 {α : Type} (a0 a1 a2 a3 a4 a5 : α) : Nat → α
  | 0 => a0
  | 1 => a1
  | 2 => a2
  | 3 => a3
  | 4 => a4
  | _ + 5 => a5
def by7 {α : Type} (a0 a1 a2 a3 a4 a5 a6 : α) : Nat → α
  | 0 => a0
  | 1 => a1
  | 2 => a2
  | 3 => a3
  | 4 => a4
  | 5 => a5
  | _ + 6 => a6
theorem all2 {p : Nat → Prop} (h0 : p 0) (h1 : ∀ j, p (j + 1)) : ∀ j, p j
  | 0 => h0
  | j + 1 => h1 j
theorem all3 {p : Nat → Prop} (h0 : p 0) (h1 : p 1) (h2 : ∀ j, p (j + 2)) : ∀ j, p j
  | 0 => h0
  | 1 => h1
  | j + 2 => h2 j
theorem all4 {p : Nat → Prop} (h0 : p 0) (h1 : p 1) (h2 : p 2) (h3 : ∀ j, p (j + 3)) : ∀ j, p j
  | 0 => h0
  | 1 => h1
  | 2 => h2
  | j + 3 => h3 j
theorem all5 {p : Nat → Prop} (h0 : p 0) (h1 : p 1) (h2 : p 2) (h3 : p 3) (h4 : ∀ j, p (j + 4)) : ∀ j, p j
  | 0 => h0
  | 1 => h1
  | 2 => h2
  | 3 => h3
  | j + 4 => h4 j
theorem all6 {p : Nat → Prop} (h0 : p 0) (h1 : p 1) (h2 : p 2) (h3 : p 3) (h4 : p 4) (h5 : ∀ j, p (j + 5)) : ∀ j, p j
  | 0 => h0
  | 1 => h1
  | 2 => h2
  | 3 => h3
  | 4 => h4
  | j + 5 => h5 j
theorem all7 {p : Nat → Prop} (h0 : p 0) (h1 : p 1) (h2 : p 2) (h3 : p 3) (h4 : p 4) (h5 : p 5) (h6 : ∀ j, p (j + 6)) : ∀ j, p j
  | 0 => h0
  | 1 => h1
  | 2 => h2
  | 3 => h3
  | 4 => h4
  | 5 => h5
  | j + 6 => h6 j
theorem lt1 {p : Nat → Prop} (h0 : p 0) : ∀ j, j < 1 → p j
  | 0, _ => h0
  | j + 1, h => absurd h (by omega)
theorem lt2 {p : Nat → Prop} (h0 : p 0) (h1 : p 1) : ∀ j, j < 2 → p j
  | 0, _ => h0
  | 1, _ => h1
  | j + 2, h => absurd h (by omega)
theorem lt3 {p : Nat → Prop} (h0 : p 0) (h1 : p 1) (h2 : p 2) : ∀ j, j < 3 → p j
  | 0, _ => h0
  | 1, _ => h1
  | 2, _ => h2
  | j + 3, h => absurd h (by omega)
theorem lt4 {p : Nat → Prop} (h0 : p 0) (h1 : p 1) (h2 : p 2) (h3 : p 3) : ∀ j, j < 4 → p j
  | 0, _ => h0
  | 1, _ => h1
  | 2, _ => h2
  | 3, _ => h3
  | j + 4, h => absurd h (by omega)
theorem lt5 {p : Nat → Prop} (h0 : p 0) (h1 : p 1) (h2 : p 2) (h3 : p 3) (h4 : p 4) : ∀ j, j < 5 → p j
  | 0, _ => h0
  | 1, _ => h1
  | 2, _ => h2
  | 3, _ => h3
  | 4, _ => h4
  | j + 5, h => absurd h (by omega)
theorem lt6 {p : Nat → Prop} (h0 : p 0) (h1 : p 1) (h2 : p 2) (h3 : p 3) (h4 : p 4) (h5 : p 5) : ∀ j, j < 6 → p j
  | 0, _ => h0
  | 1, _ => h1
  | 2, _ => h2
  | 3, _ => h3
  | 4, _ => h4
  | 5, _ => h5
  | j + 6, h => absurd h (by omega)

/-- The stages at which a pure operation may run. -/
def Stg (C : Cx) (ops : Array Oper) (S : Sched) (o : Oper) (k : Nat) (rev : RevS) (d : Nat) (v : Nat → AV) : Nat → Prop
  | 0 => True
  | j + 1 => (allowB ops S.imp o k j = true → ∃ kn, KnS (S.bas j) o rev j kn ∧ StepK C ops (S.obj j) o kn d (v j)) ∧ Stg C ops S o k rev d v j
section
variable {C : Cx} {ops : Array Oper} {S : Sched} {K : RevS → Prop} {o : Oper} {k : Nat} {rev : RevS} {d : Nat} {v : Nat → AV}
theorem stg_nil : Stg C ops S o k rev d v 0 := trivial
theorem stg_no {j : Nat} (h : allowB ops S.imp o k j = false) (r : Stg C ops S o k rev d v j) : Stg C ops S o k rev d v (j + 1) := ⟨fun h' => (Bool.noConfusion (h.symm.trans h')), r⟩
theorem stg_yes {j : Nat} (kn : List (Nat × AV)) (h1 : KnS (S.bas j) o rev j kn) (h2 : StepK C ops (S.obj j) o kn d (v j)) (r : Stg C ops S o k rev d v j) : Stg C ops S o k rev d v (j + 1) := ⟨fun _ => ⟨kn, h1, h2⟩, r⟩
theorem stg_at : ∀ {m : Nat}, Stg C ops S o k rev d v m → ∀ j, j < m → allowB ops S.imp o k j = true → ∃ kn, KnS (S.bas j) o rev j kn ∧ StepK C ops (S.obj j) o kn d (v j)
  | 0, _, j, h, _ => absurd h (Nat.not_lt_zero _)
  | m + 1, hm, j, h, ha => by
    by_cases e : j = m
    · subst e; exact hm.1 ha
    · exact stg_at hm.2 j (by omega) ha

theorem ds_pure {rest : List Oper} (v : Nat → AV) (hk : S.imp.findIdx? (Nat.beq k) = none) (hd : o.dst = some d) (hf : (rev.all fun p => !(Nat.beq p.2.1 d)) = true) (hb : ∀ j, look (S.bas j) d = none) (hv : ∀ j, j < S.m → v (j + 1) = trA (S.D j) (v j))
    (hs : Stg C ops S o k rev d v (S.m + 1)) (h : DS C ops S K rest (k + 1) ((k, d, v) :: rev)) : DS C ops S K (o :: rest) k rev := by
  unfold DS
  rw [hk]
  exact ⟨d, v, hd, hf, hb, fun j hj _ => hv j hj, fun j hj ha => stg_at hs j (by omega) ha, h⟩
theorem ds_pureL {rest : List Oper} (v : Nat → AV) (hk : S.imp.findIdx? (Nat.beq k) = none) (hd : o.dst = some d) (hf : (rev.all fun p => !(Nat.beq p.2.1 d)) = true) (hb : ∀ j, look (S.bas j) d = none) (hv : ∀ j, j < S.m → loB ops S.imp o j = true → v (j + 1) = trA (S.D j) (v j))
    (hs : Stg C ops S o k rev d v (S.m + 1)) (h : DS C ops S K rest (k + 1) ((k, d, v) :: rev)) : DS C ops S K (o :: rest) k rev := by
  unfold DS
  rw [hk]
  exact ⟨d, v, hd, hf, hb, hv, fun j hj ha => stg_at hs j (by omega) ha, h⟩
theorem nl {b : Bool} {p : Prop} (hb : b = false) (h : b = true) : p := Bool.noConfusion (hb.symm.trans h)

/-- Nothing of what is known changes at an operation that is handed nothing that does. -/
theorem ds_imp {rest : List Oper} {i : Nat} (v : Nat → AV) (kn : List (Nat × AV)) (hk : S.imp.findIdx? (Nat.beq k) = some i) (hkn : KnS (S.bas i) o rev i kn) (hd : o.dst = some d) (hf : (rev.all fun p => !(Nat.beq p.2.1 d)) = true) (hb : ∀ j, look (S.bas (j + (i + 1))) d = none)
    (hv : ∀ j, j < S.m → i < j → v (j + 1) = trA (S.D j) (v j))
    (hst : ∀ sl, (∀ i x, look kn i = some x → look sl i = some x) → ∀ K : AS → Prop, K ⟨(d, v (i + 1)) :: trL (S.D i) sl, S.obj (i + 1)⟩ → One C ops o K ⟨sl, S.obj i⟩) (h : DS C ops S K rest (k + 1) ((k, d, v) :: rev)) : DS C ops S K (o :: rest) k rev := by
  unfold DS
  rw [hk]
  exact ⟨kn, hkn, .inl ⟨d, v, hd, hf, fun j hj => by have := hb (j - (i + 1)); rwa [show j - (i + 1) + (i + 1) = j by omega] at this, fun j h1 h2 => hv j h2 h1, hst, h⟩⟩

theorem ds_store {rest : List Oper} {i : Nat} (kn : List (Nat × AV)) (hk : S.imp.findIdx? (Nat.beq k) = some i) (hkn : KnS (S.bas i) o rev i kn) (hd : o.dst = none)
    (hst : ∀ sl, (∀ i x, look kn i = some x → look sl i = some x) → ∀ K : AS → Prop, K ⟨trL (S.D i) sl, S.obj (i + 1)⟩ → One C ops o K ⟨sl, S.obj i⟩) (h : DS C ops S K rest (k + 1) rev) : DS C ops S K (o :: rest) k rev := by
  unfold DS
  rw [hk]
  exact ⟨kn, hkn, .inr ⟨hd, hst, h⟩⟩

theorem ds_nil (h : K rev) : DS C ops S K [] k rev := h
theorem ds_one {K1 K2 : RevS → Prop} (h2 : K2 rev) (h : K1 rev) : DS C ops S (fun rev => K1 rev ∧ K2 rev) [] k rev := ⟨h, h2⟩
end

/-! ### Lists of what is handed on -/
theorem mapAgo_nil {m : Nat → Option Nat} : AV.mapA.go m [] = some [] := rfl
theorem mapAgo_cons {m : Nat → Option Nat} {x y : AV} {r l : List AV} (h1 : x.mapA m = some y) (h2 : AV.mapA.go m r = some l) : AV.mapA.go m (x :: r) = some (y :: l) := by
  simp only [AV.mapA.go, h1, h2]
theorem mapA_func {m : Nat → Option Nat} {f : Fn} {cs l : List AV} (h : AV.mapA.go m cs = some l) : (AV.func f cs).mapA m = some (.func f l) := by
  simp only [AV.mapA, h]
theorem elems_nil {sl : List (Nat × AV)} {k : Nat} : elemsA sl k [] = some [] := rfl
theorem elems_cons {sl : List (Nat × AV)} {k : Nat} {x : Operand} {r : List (Nat × Operand)} {y : AV} {z : PV} {l : List PV} (h1 : evo sl x = some y) (h2 : y.toPV = some z) (h3 : elemsA sl (k + 1) r = some l) : elemsA sl k ((k, x) :: r) = some (z :: l) := by
  have hb : Nat.beq k k = true := by simp
  simp only [elemsA, hb, cond_true, h1, h3, h2]

theorem parts_nil {sl : List (Nat × AV)} : partsA sl [] = some [] := rfl
theorem parts_cons {sl : List (Nat × AV)} {i : Nat} {x : Operand} {r : List (Nat × Operand)} {y : AV} {l : List (Nat × AV)} (h1 : evo sl x = some y) (h2 : partsA sl r = some l) : partsA sl ((i, x) :: r) = some ((i, y) :: l) := by
  simp only [partsA, h1, h2]

/-! ### A body that ends behind a ghost step -/
theorem awp_gh {C : Cx} {c : Code} {Q : Exit → AS → Prop} {s : AS} (h : awp C c (fun e s => ∃ t, Ghost C s t ∧ Q e t) s) : awp C c Q s := by
  intro g a w hs
  refine wp_mono (h g a w hs) ?_
  rintro e a' w' ⟨g', s', h3, t, hg, hq⟩
  obtain ⟨g2, h4⟩ := hg g' a' w' h3
  exact ⟨g2, t, h4, hq⟩

def retG (C : Cx) (tt : List (Nat × TI)) (fn : Func) (ts ids : List Nat) (r : AV) (rob : List (Nat × List AV)) (e : Exit) (s : AS) : Prop :=
  ∃ t, Ghost C s t ∧ retOA tt fn ts ids (fun x y => x.sub r ∧ leO y rob) e t

theorem obodyG {P : Program} {tt : List (Nat × TI)} (good : TyGood P tt) {f : FuncId} {fn : Func} {c : Code} {args : List AV} {obs rob : List (Nat × List AV)} {r : AV} (ts ids : List Nat) (hf : P.funcs[f]? = some fn) (hb : fn.body = some c)
    (hn : Nat.ble args.length fn.ntmps = true) (hnl : Nat.ble fn.ntmps M1 = true) (hts : ts.all (fun i => Nat.blt i M1) = true) (hnd : nodupB ts = true)
    (h : ∀ w0 F, awp ⟨P, tt, good, fn.ntmps, hnl, w0, F⟩ c (retG ⟨P, tt, good, fn.ntmps, hnl, w0, F⟩ tt fn ts ids r rob) ⟨argSlotsA args, obs⟩) : OCalls P f args obs (fun x y => x = r ∧ y = rob) :=
  obodyA good ts ids hf hb hn hnl hts hnd fun w0 F => awp_gh (h w0 F)
theorem retg_mk {C : Cx} {tt : List (Nat × TI)} {fn : Func} {ts ids : List Nat} {r r1 : AV} {rob obs obs' : List (Nat × List AV)} {s t : AS} {l : List AV} (hg : Ghost C s t) (h1 : resA tt fn.results.toList t = some l) (h2 : (resV l).mapA (retM ts) = some r1)
    (h3 : pickO t.ob ids = some obs) (h4 : mapO (retM ts) obs = some obs') (h5 : r1.sub r) (h6 : leO obs' rob) : retG C tt fn ts ids r rob .ret s := ⟨t, hg, retoa_mk h1 h2 h3 h4 ⟨h5, h6⟩⟩
theorem endg_mk {C : Cx} {tt : List (Nat × TI)} {fn : Func} {ts ids : List Nat} {r r1 : AV} {rob obs obs' : List (Nat × List AV)} {s t : AS} {l : List AV} (hg : Ghost C s t) (h1 : resA tt fn.results.toList t = some l) (h2 : (resV l).mapA (retM ts) = some r1)
    (h3 : pickO t.ob ids = some obs) (h4 : mapO (retM ts) obs = some obs') (h5 : r1.sub r) (h6 : leO obs' rob) : retG C tt fn ts ids r rob .normal s := ⟨t, hg, endoa_mk h1 h2 h3 h4 ⟨h5, h6⟩⟩

end Go.Ab
