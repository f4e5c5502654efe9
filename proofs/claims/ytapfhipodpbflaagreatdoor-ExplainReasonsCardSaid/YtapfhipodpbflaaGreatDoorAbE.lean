/- A layer of abstract values over the model's worlds, part E: objects of the call's own, literals, append, make, calls. It holds for every program. -/
import Derived.Test.YtapfhipodpbflaaGreatDoorAbD
import Derived.Deep.AppendSrc
set_option linter.unusedVariables false
set_option linter.unusedSimpArgs false
set_option linter.unnecessarySimpa false
namespace Go.Ab

def PV.onesB : List PV → Bool
  | [] => true
  | c :: r => c.one && onesB r

theorem onesB_mem : ∀ {l : List PV}, PV.onesB l = true → ∀ c, c ∈ l → c.one = true
  | [], _, _, h => by simp at h
  | x :: r, h, c, hc => by
    simp only [PV.onesB, Bool.and_eq_true] at h
    rcases List.mem_cons.1 hc with rfl | hc
    · exact h.1
    · exact onesB_mem h.2 c hc

/-- A value of one cell, as an abstract value. -/
def AV.one : AV → Bool
  | .p c => c.one
  | .vec _ _ _ _ => true
  | .arr _ _ _ _ => true
  | .ptr _ _ => true
  | .bptr _ _ _ => true
  | .rptr _ => true
  | .func _ _ => true
  | .mp _ _ => true
  | .mpr .. => true
  | .stk .. => true
  | .sem _ => true
  | .it .. => true
  | .vecp .. => true
  | .elp .. => true
  | _ => false

def AV.onesB : List AV → Bool
  | [] => true
  | c :: r => c.one && onesB r

theorem AV.onesB_mem : ∀ {l : List AV}, AV.onesB l = true → ∀ c, c ∈ l → c.one = true
  | [], _, _, h => by simp at h
  | x :: r, h, c, hc => by
    simp only [AV.onesB, Bool.and_eq_true] at h
    rcases List.mem_cons.1 hc with rfl | hc
    · exact h.1
    · exact AV.onesB_mem h.2 c hc

theorem PV.one_rep {w : World} {st : Nat → Nat → Prop} {x : PV} {v : Value} (h : PRep w st x v) (ho : x.one = true) : v.oneCell' = true := by
  cases h with
  | val v => exact ho
  | agg hl h => simp [PV.one] at ho
  | ifc => rfl
  | aint => rfl
  | nils => rfl
  | nile a => rfl
  | slice => rfl

theorem AV.one_rep {w : World} {g : Gh} {x : AV} {v : Value} (h : ARep w g x v) (ho : x.one = true) : v.oneCell' = true := by
  cases h with
  | undef => simp [AV.one] at ho
  | p h => exact PV.one_rep h ho
  | agg => simp [AV.one] at ho
  | vecn => rfl
  | vece => rfl
  | vec => rfl
  | arr => rfl
  | ptr => rfl
  | bptrn => rfl
  | bptr => rfl
  | rptr => rfl
  | tuple => simp [AV.one] at ho
  | func => rfl
  | mp => rfl
  | mpr => rfl
  | stkn => rfl
  | stke => rfl
  | stk => rfl
  | sem h1 _ => exact h1
  | it => rfl
  | vecp => rfl
  | elp => rfl

theorem cells_of_one {v : Value} (h : v.oneCell' = true) : v.cells = #[v] := by
  cases v <;> first | rfl | simp [Value.oneCell'] at h

/-- The cells of a value that is stored. -/
def AV.cellsA : AV → Option (List AV)
  | .p (.agg cs) => bif PV.onesB cs then some (cs.map .p) else none
  | .agg cs => bif AV.onesB cs then some cs else none
  | .p (.val v) => bif v.oneCell' then some [.p (.val v)] else none
  | .p (.slice es) => some [.p (.slice es)]
  | .vec t s y es => some [.vec t s y es]
  | .arr i s o n => some [.arr i s o n]
  | .ptr i o => some [.ptr i o]
  | .bptr T sz i => some [.bptr T sz i]
  | .rptr cs => some [.rptr cs]
  | .func f cs => some [.func f cs]
  | .stk t s es => some [.stk t s es]
  | .sem R => some [.sem R]
  | .vecp a b c e => some [.vecp a b c e]
  | _ => none

theorem cellsA_spec {w : World} {g : Gh} {x : AV} {xs : List AV} {v : Value} (hx : x.cellsA = some xs) (h : ARep w g x v) :
    v.cells.size = xs.length ∧ ∀ (i : Nat) c u, xs[i]? = some c → v.cells[i]? = some u → ARep w g c u ∧ u.oneCell' = true := by
  have single : ∀ {y : AV}, ARep w g y v → y.one = true → xs = [y] → v.cells.size = xs.length ∧ ∀ (i : Nat) c u, xs[i]? = some c → v.cells[i]? = some u → ARep w g c u ∧ u.oneCell' = true := by
    intro y hy ho e
    have h1 := AV.one_rep hy ho
    rw [cells_of_one h1, e]
    refine ⟨rfl, fun i c u h2 h3 => ?_⟩
    cases i with
    | zero => simp only [List.getElem?_cons_zero, Option.some.injEq] at h2; simp at h3; subst h2 h3; exact ⟨hy, h1⟩
    | succ i => simp at h2
  unfold AV.cellsA at hx
  split at hx
  · rename_i cs
    cases ho : PV.onesB cs <;> rw [ho] at hx <;> simp only [cond_true, cond_false, Option.some.injEq, reduceCtorEq] at hx
    subst hx
    cases h with
    | p h =>
      cases h with
      | agg hl h =>
        refine ⟨by simpa [Value.cells] using hl, fun i c u h2 h3 => ?_⟩
        simp only [List.getElem?_map, Option.map_eq_some_iff] at h2
        obtain ⟨c', h2, rfl⟩ := h2
        have h4 := h i c' u h2 h3
        exact ⟨.p h4, PV.one_rep h4 (onesB_mem ho c' (List.mem_of_getElem? h2))⟩
  · rename_i cs
    cases ho : AV.onesB cs <;> rw [ho] at hx <;> simp only [cond_true, cond_false, Option.some.injEq, reduceCtorEq] at hx
    subst hx
    cases h with
    | agg hl h =>
      refine ⟨hl, fun i c u h2 h3 => ?_⟩
      have h4 := h i c u h2 h3
      exact ⟨h4, AV.one_rep h4 (AV.onesB_mem ho c (List.mem_of_getElem? h2))⟩
  · rename_i v'
    cases ho : v'.oneCell' <;> rw [ho] at hx <;> simp only [cond_true, cond_false, Option.some.injEq, reduceCtorEq] at hx
    exact single h ho hx.symm
  all_goals first
    | (simp only [Option.some.injEq] at hx; exact single h rfl hx.symm)
    | (cases hx)

/-- Cells as a value. -/
def allP : List AV → Option (List PV)
  | [] => some []
  | .p x :: r => match allP r with
    | some l => some (x :: l)
    | none => none
  | _ :: _ => none

def mkAgg (cs : List AV) : AV := match allP cs with
  | some l => .p (.agg l)
  | none => .agg cs

theorem allP_eq : ∀ {cs : List AV} {l : List PV}, allP cs = some l → cs = l.map .p
  | [], l, h => by simp only [allP, Option.some.injEq] at h; subst h; rfl
  | x :: r, l, h => by
    cases x <;> simp only [allP, reduceCtorEq] at h
    split at h
    · rename_i l' h'; cases h; rw [allP_eq h']; rfl
    · cases h

theorem mkAgg_rep {w : World} {g : Gh} {cs : List AV} {vs : Array Value} (hl : vs.size = cs.length) (h : ∀ (i : Nat) c v, cs[i]? = some c → vs[i]? = some v → ARep w g c v) : ARep w g (mkAgg cs) (.agg vs) := by
  unfold mkAgg
  split
  · rename_i l hp
    have e := allP_eq hp
    refine .p (.agg (by rw [hl, e]; simp) fun i c v h1 h2 => ?_)
    have := h i (.p c) v (by rw [e]; simp [h1]) h2
    cases this with | p h => exact h
  · exact .agg hl h

theorem find_block {n : Nat} {w0 : Base} {w : World} {F : Nat → Prop} {g : Gh} {s : AS} {a : Act} (hs : St n w0 F g s a w) {b : Nat} {c : Array Value} {e : TypeId} (hb : w.heap[b]? = some (.cells c e (0, 0))) (o : Nat) :
    w.cell? ⟨b, o, none⟩ = c[o]? := by
  simp [World.cell?, hb]

section
variable {C : Cx} {o : Oper} {K : AS → Prop} {sl : List (Nat × AV)} {ob : List (Nat × List AV)} {d : Nat}

/-! ### Objects -/
/-- A new object that lies behind a pointer. -/
theorem ok_new {x : AV} {cs : List AV} (hd : o.dst = some d) (hn : Nat.blt d C.n = true)
    (h : ∀ g a w, St C.n C.w0 C.F g ⟨sl, ob⟩ a w → ∃ e v, (execOp a.eval o).run C.P w = .ok (.value (.pointer (some ⟨w.heap.size, 0, none⟩))) (w.alloc (.cells v.cells e)) ∧ ARep w g x v)
    (hx : x.cellsA = some cs)
    (hK : K ⟨(d, .ptr d 0) :: (demS (fun i => Nat.beq i d) ⟨sl, ob⟩).sl, (d, demL (fun i => Nat.beq i d) cs) :: (demS (fun i => Nat.beq i d) ⟨sl, ob⟩).ob⟩) : OpOk C o K ⟨sl, ob⟩ := by
  intro g a w hs
  obtain ⟨e, v, h1, h2⟩ := h g a w hs
  obtain ⟨hsz, hcs⟩ := cellsA_spec hx h2
  unfold Oper.wp
  rw [h1]
  have hDd : (fun i => Nat.beq i d) d = true := by simp
  have hdl : d < M1 := by have h1 := Nat.le_of_ble_eq_true C.nl; have h2 : d < C.n := Nat.blt_eq ▸ hn; omega
  have hf := hs.fresh (fun i => Nat.beq i d) (fun i hi => by have := Nat.eq_of_beq_eq_true hi; omega) d hDd (fun _ => False) v.cells e
  refine ⟨⟨fun b o => g.st b o ∨ (b = w.heap.size ∧ False), fun i => if i = d then some w.heap.size else if Nat.beq i d then none else g.ow i⟩, _, ?_, hK⟩
  have hp := hf.put (d := o.dst) (fun t ht => by rw [hd] at ht; cases ht; exact Nat.blt_eq ▸ hn)
    (x := .ptr d 0) (v := .pointer (some ⟨w.heap.size, 0, none⟩)) (.ptr (by simp))
  rw [hd] at hp ⊢
  have hE : EvO (fun i => Nat.beq i d) w g (w.alloc (.cells v.cells e)) ⟨fun b o => g.st b o ∨ (b = w.heap.size ∧ False), fun i => if i = d then some w.heap.size else if Nat.beq i d then none else g.ow i⟩ := by
    refine ⟨Ev_alloc hs.lt, fun id b hD hid => ?_, fun id b c e' hD hid hb => ⟨c, ?_, rfl⟩, fun id b o hD hid ho => ?_, fun id b es k hD hid hb => (heap_alloc_lt (hs.own id b hid).1).trans hb, fun i hi => ?lo, fun id b o hD hid _ => heap_alloc_lt (hs.own id b hid).1⟩
    case lo =>
      cases hq : Nat.beq i d
      · rfl
      · have := Nat.eq_of_beq_eq_true hq; have := M1_lt hi; omega
    · have hne : id ≠ d := fun e => by subst e; simp at hD
      simp only [if_neg hne, hD]; exact hid
    · exact (heap_alloc_lt (hs.own id b hid).1).trans hb
    · exact ho.resolve_right fun h => h.2
  refine { hp with ob := fun id cs' hc => ?_ }
  simp only [AS.put, look_cons] at hc
  by_cases e1 : d = id
  · subst e1
    simp only [if_true, Option.some.injEq] at hc
    subst hc
    refine ⟨w.heap.size, v.cells, e, by simp, heap_alloc_at, by simp [demL_eq, hsz], fun o ho => ?_, fun i y hy => ?_⟩
    · rcases ho with ho | ⟨_, ho⟩
      · exact absurd (hs.lt _ _ ho) (by omega)
      · exact ho
    · simp only [demL_eq, List.getElem?_map, Option.map_eq_some_iff] at hy
      obtain ⟨z, hz, rfl⟩ := hy
      have hi : i < v.cells.size := by rw [hsz]; exact (List.getElem?_eq_some_iff.1 hz).1
      exact ⟨v.cells[i], Array.getElem?_eq_getElem hi, (hcs i z _ hz (Array.getElem?_eq_getElem hi)).1.dem hE⟩
  · rw [if_neg e1] at hc
    exact hp.ob id cs' hc

/-- A new object whose first cell holds the nil pointer, that may come to point at the object. -/
theorem ok_newB {x c0 : AV} {cs : List AV} {T sz : Nat} (hd : o.dst = some d) (hn : Nat.blt d C.n = true)
    (h : ∀ g a w, St C.n C.w0 C.F g ⟨sl, ob⟩ a w → ∃ v, (execOp a.eval o).run C.P w = .ok (.value (.pointer (some ⟨w.heap.size, 0, none⟩))) (w.alloc (.cells v.cells T)) ∧ ARep w g x v ∧ v.cells.size = sz ∧ v.cells[0]? = some (.pointer none))
    (hx : x.cellsA = some (c0 :: cs))
    (hK : K ⟨(d, .ptr d 0) :: (demS (fun i => Nat.beq i d) ⟨sl, ob⟩).sl, (d, .bptr T sz d :: demL (fun i => Nat.beq i d) cs) :: (demS (fun i => Nat.beq i d) ⟨sl, ob⟩).ob⟩) : OpOk C o K ⟨sl, ob⟩ := by
  intro g a w hs
  obtain ⟨v, h1, h2, hz2, hz0⟩ := h g a w hs
  obtain ⟨hsz, hcs⟩ := cellsA_spec hx h2
  unfold Oper.wp
  rw [h1]
  have hDd : (fun i => Nat.beq i d) d = true := by simp
  have hdl : d < M1 := by have h1 := Nat.le_of_ble_eq_true C.nl; have h2 : d < C.n := Nat.blt_eq ▸ hn; omega
  have hf := hs.fresh (fun i => Nat.beq i d) (fun i hi => by have := Nat.eq_of_beq_eq_true hi; omega) d hDd (fun _ => False) v.cells T
  refine ⟨⟨fun b o => g.st b o ∨ (b = w.heap.size ∧ False), fun i => if i = d then some w.heap.size else if Nat.beq i d then none else g.ow i⟩, _, ?_, hK⟩
  have hp := hf.put (d := o.dst) (fun t ht => by rw [hd] at ht; cases ht; exact Nat.blt_eq ▸ hn)
    (x := .ptr d 0) (v := .pointer (some ⟨w.heap.size, 0, none⟩)) (.ptr (by simp))
  rw [hd] at hp ⊢
  have hE : EvO (fun i => Nat.beq i d) w g (w.alloc (.cells v.cells T)) ⟨fun b o => g.st b o ∨ (b = w.heap.size ∧ False), fun i => if i = d then some w.heap.size else if Nat.beq i d then none else g.ow i⟩ := by
    refine ⟨Ev_alloc hs.lt, fun id b hD hid => ?_, fun id b c e' hD hid hb => ⟨c, ?_, rfl⟩, fun id b o hD hid ho => ?_, fun id b es k hD hid hb => (heap_alloc_lt (hs.own id b hid).1).trans hb, fun i hi => ?lo, fun id b o hD hid _ => heap_alloc_lt (hs.own id b hid).1⟩
    case lo =>
      cases hq : Nat.beq i d
      · rfl
      · have := Nat.eq_of_beq_eq_true hq; have := M1_lt hi; omega
    · have hne : id ≠ d := fun e => by subst e; simp at hD
      simp only [if_neg hne, hD]; exact hid
    · exact (heap_alloc_lt (hs.own id b hid).1).trans hb
    · exact ho.resolve_right fun h => h.2
  refine { hp with ob := fun id cs' hc => ?_ }
  simp only [AS.put, look_cons] at hc
  by_cases e1 : d = id
  · subst e1
    simp only [if_true, Option.some.injEq] at hc
    subst hc
    refine ⟨w.heap.size, v.cells, T, by simp, heap_alloc_at, by simp [demL_eq, hsz], fun o ho => ?_, fun i y hy => ?_⟩
    · rcases ho with ho | ⟨_, ho⟩
      · exact absurd (hs.lt _ _ ho) (by omega)
      · exact ho
    · cases i with
      | zero =>
        simp only [List.getElem?_cons_zero, Option.some.injEq] at hy
        subst hy
        exact ⟨_, hz0, .bptrn (by simp) heap_alloc_at hz2⟩
      | succ i =>
        simp only [List.getElem?_cons_succ, demL_eq, List.getElem?_map, Option.map_eq_some_iff] at hy
        obtain ⟨z, hz, rfl⟩ := hy
        have hz' : (c0 :: cs)[i + 1]? = some z := by simpa using hz
        have hi : i + 1 < v.cells.size := by rw [hsz]; exact (List.getElem?_eq_some_iff.1 hz').1
        exact ⟨v.cells[i + 1], Array.getElem?_eq_getElem hi, (hcs (i + 1) z _ hz' (Array.getElem?_eq_getElem hi)).1.dem hE⟩
  · rw [if_neg e1] at hc
    exact hp.ob id cs' hc

theorem ok_box {t : TypeId} {v : Operand} {x : AV} {cs : List AV} (ho : o.op = .box t v) (hd : o.dst = some d) (hn : Nat.blt d C.n = true) (hx : evo sl v = some x) (hc : x.cellsA = some cs)
    (hK : K ⟨(d, .ptr d 0) :: (demS (fun i => Nat.beq i d) ⟨sl, ob⟩).sl, (d, demL (fun i => Nat.beq i d) cs) :: (demS (fun i => Nat.beq i d) ⟨sl, ob⟩).ob⟩) : OpOk C o K ⟨sl, ob⟩ :=
  ok_new hd hn (fun g a w hs => ⟨t, a.eval v, by simp [execOp, ho, Instr.box, newVar, newRow], evo_rep hs hx⟩) hc hK

def zerosA (i : TI) : List AV := i.zero.map fun v => .p (.val v)
theorem run_zeroValue {P : Program} {tt : List (Nat × TI)} (good : TyGood P tt) {t : Nat} {i : TI} (h : look tt t = some i) (w : World) : ∃ z, (zeroValue t).run P w = .ok z w ∧ z.cells.toList = i.zero := by
  obtain ⟨j, h1, _, _, z, h2, h3⟩ := info_of good h
  exact ⟨z, by simp [zeroValue, typeInfo, h1, h2], h3⟩

/-- The zero cells of a type as they lie in an object. -/
def zeroOnes : List Value → Bool
  | [] => true
  | v :: r => v.oneCell' && zeroOnes r

theorem ok_alloc {t : TypeId} {i : TI} (ho : o.op = .alloc t) (hd : o.dst = some d) (hn : Nat.blt d C.n = true) (hi : look C.tt t = some i) (hz : AV.cellsA (.agg (zerosA i)) = some (zerosA i))
    (hK : K ⟨(d, .ptr d 0) :: (demS (fun i => Nat.beq i d) ⟨sl, ob⟩).sl, (d, demL (fun i => Nat.beq i d) (zerosA i)) :: (demS (fun i => Nat.beq i d) ⟨sl, ob⟩).ob⟩) : OpOk C o K ⟨sl, ob⟩ := by
  refine ok_new (x := .agg (zerosA i)) hd hn (fun g a w hs => ?_) hz hK
  obtain ⟨z, h1, h2⟩ := run_zeroValue C.good hi w
  refine ⟨t, .agg z.cells, by simp [execOp, ho, Instr.alloc, h1, newVar, newRow, Value.cells], .agg (by simp [zerosA, ← h2]) fun k c v h3 h4 => ?_⟩
  simp only [zerosA, List.getElem?_map, Option.map_eq_some_iff, ← h2, Array.getElem?_toList] at h3
  obtain ⟨u, h5, rfl⟩ := h3
  rw [h4] at h5; cases h5
  exact .p (.val _)

theorem ok_allocB {t : TypeId} {i : TI} {zs : List Value} (ho : o.op = .alloc t) (hd : o.dst = some d) (hn : Nat.blt d C.n = true) (hi : look C.tt t = some i) (hz0 : i.zero = .pointer none :: zs) (hz : AV.cellsA (.agg (zerosA i)) = some (zerosA i)) (hsz : Nat.beq i.zero.length i.size = true)
    (hK : K ⟨(d, .ptr d 0) :: (demS (fun i => Nat.beq i d) ⟨sl, ob⟩).sl, (d, .bptr t i.size d :: demL (fun i => Nat.beq i d) (zs.map fun v => .p (.val v))) :: (demS (fun i => Nat.beq i d) ⟨sl, ob⟩).ob⟩) : OpOk C o K ⟨sl, ob⟩ := by
  have hz' : AV.cellsA (.agg (zerosA i)) = some (.p (.val (.pointer none)) :: zs.map fun v => .p (.val v)) := by rw [hz, zerosA, hz0]; rfl
  have hsz' := Nat.eq_of_beq_eq_true hsz
  refine ok_newB (x := .agg (zerosA i)) hd hn (fun g a w hs => ?_) hz' hK
  obtain ⟨z, h1, h2⟩ := run_zeroValue C.good hi w
  refine ⟨.agg z.cells, by simp [execOp, ho, Instr.alloc, h1, newVar, newRow, Value.cells], .agg (by simp [zerosA, ← h2]) (fun k c v h3 h4 => ?_), ?_, ?_⟩
  · simp only [zerosA, List.getElem?_map, Option.map_eq_some_iff, ← h2, Array.getElem?_toList] at h3
    obtain ⟨u, h5, rfl⟩ := h3
    rw [h4] at h5; cases h5
    exact .p (.val _)
  · show z.cells.size = i.size
    rw [← hsz', ← h2, Array.length_toList]
  · show z.cells[0]? = some (.pointer none)
    rw [← Array.getElem?_toList, h2, hz0]; rfl

theorem ok_fieldAddrP {t : TypeId} {x : Operand} {f off ft id k : Nat} {i j : TI} {fs : List (Nat × Nat)} (ho : o.op = .fieldAddr t x f) (hd : o.dst = some d) (hn : Nat.blt d C.n = true)
    (hi : look C.tt t = some i) (hik : i.k = .struct fs) (hf : fs[f]? = some (off, ft)) (hj : look C.tt ft = some j) (hjs : Nat.beq j.size 0 = false)
    (hx : evo sl x = some (.ptr id k)) (hK : K ⟨(d, .ptr id (k + off)) :: sl, ob⟩) : OpOk C o K ⟨sl, ob⟩ := by
  obtain ⟨u, h1, h2⟩ := und_of C.good hi
  obtain ⟨fa, rfl, h4⟩ := kind_struct (h2.trans hik)
  refine ok_one hd hn (fun g a w hs => ?_) hK
  have h5 := evo_rep hs hx
  generalize hv : a.eval x = v at h5
  cases h5 with
  | ptr how =>
    rename_i b
    refine ⟨.pointer (some ⟨b, k + off, none⟩), ?_, .ptr how⟩
    rw [← h4] at hf
    simp only [List.getElem?_map, Array.getElem?_toList, Option.map_eq_some_iff, Prod.mk.injEq] at hf
    obtain ⟨fl, hf1, hf2, hf3⟩ := hf
    have hsz := run_sizeOf C.good hj w
    rw [← hf3] at hsz
    have hne : j.size ≠ 0 := fun e => by rw [e] at hjs; simp at hjs
    simp [execOp, ho, hv, Instr.fieldAt, run_underlying h1, hf1, Instr.sureAddr, fieldPlace, hsz, hne, add_lit, hf2]

theorem ok_nilCheckP {x : Operand} {id k : Nat} (ho : o.op = .nilCheck x) (hd : o.dst = some d) (hn : Nat.blt d C.n = true)
    (hx : evo sl x = some (.ptr id k)) (hK : K ⟨(d, .ptr id k) :: sl, ob⟩) : OpOk C o K ⟨sl, ob⟩ := by
  refine ok_one hd hn (fun g a w hs => ?_) hK
  have h5 := evo_rep hs hx
  generalize hv : a.eval x = v at h5
  cases h5 with
  | ptr how => exact ⟨_, by simp [execOp, ho, hv], .ptr how⟩

theorem ok_indexAddrA {t e : TypeId} {x y : Operand} {i ie : TI} {k : IntKind} {n : Int} {id sz off m : Nat} (ho : o.op = .indexAddr t x y) (hd : o.dst = some d) (hn : Nat.blt d C.n = true)
    (hi : look C.tt t = some i) (hik : i.k = .slice e) (hie : look C.tt e = some ie) (hx : evo sl x = some (.arr id sz off m))
    (hy : evo sl y = some (.p (.val (.int k n)))) (hsz : ie.size = sz) (hb : 0 ≤ n ∧ n < m)
    (hK : K ⟨(d, .ptr id (off + n.toNat * sz)) :: sl, ob⟩) : OpOk C o K ⟨sl, ob⟩ := by
  obtain ⟨u, h1, h2⟩ := und_of C.good hi
  have h3 := kind_slice (h2.trans hik)
  subst h3 hsz
  refine ok_one hd hn (fun g a w hs => ?_) hK
  have h5 := evo_rep hs hx
  generalize hv : a.eval x = v at h5
  cases h5 with
  | arr how hb' hcs hnc =>
    rename_i b cap c e'
    exact ⟨.pointer (some ⟨b, off + n.toNat * ie.size, none⟩), by simp [execOp, ho, hv, evo_val hs hy, Instr.indexAt, asIntOf, run_underlying h1, hb.1, hb.2, run_sizeOf C.good hie, add_lit], .ptr how⟩

theorem ok_lenA {t e : TypeId} {x : Operand} {i : TI} {id sz off m : Nat} (ho : o.op = .call { callee := .builtin .len, args := #[x], argTypes := #[t] }) (hd : o.dst = some d) (hn : Nat.blt d C.n = true)
    (hi : look C.tt t = some i) (hik : i.k = .slice e) (hx : evo sl x = some (.arr id sz off m))
    (hK : K ⟨(d, .p (.val (.int .i64 (m : Int)))) :: sl, ob⟩) : OpOk C o K ⟨sl, ob⟩ := by
  obtain ⟨u, h1, h2⟩ := und_of C.good hi
  have h3 := kind_slice (h2.trans hik)
  subst h3
  refine ok_one hd hn (fun g b w hs => ?_) hK
  have h5 := evo_rep hs hx
  generalize hv : b.eval x = v at h5
  cases h5 with
  | arr how hb' hcs hnc => exact ⟨_, by rw [run_builtin ho]; simp [builtin, hv, Builtin.len_, run_underlying h1, goInt], .p (.val _)⟩

theorem ok_loadP1 {t : TypeId} {x : Operand} {i : TI} {id k : Nat} {cs : List AV} {y : AV} (ho : o.op = .load t x) (hd : o.dst = some d) (hn : Nat.blt d C.n = true)
    (hi : look C.tt t = some i) (hia : i.k.isAgg = false) (hx : evo sl x = some (.ptr id k)) (hob : look ob id = some cs) (hy : cs[k]? = some y) (hK : K ⟨(d, y) :: sl, ob⟩) : OpOk C o K ⟨sl, ob⟩ := by
  refine ok_one hd hn (fun g a w hs => ?_) hK
  have h5 := evo_rep hs hx
  generalize hv : a.eval x = v at h5
  cases h5 with
  | ptr how =>
    obtain ⟨b', c, e, k1, k2, k3, k4, k5⟩ := hs.ob id cs hob
    rw [how] at k1; cases k1
    obtain ⟨u, hu, hr⟩ := k5 k y hy
    have hc := (find_block hs k2 k).trans hu
    exact ⟨u, by simp [execOp, ho, hv, Instr.loadAt, Instr.sureAddr, run_loadOne C.good hi hia hc], hr⟩

theorem ok_loadPA {t : TypeId} {x : Operand} {i : TI} {id k : Nat} {cs : List AV} (ho : o.op = .load t x) (hd : o.dst = some d) (hn : Nat.blt d C.n = true)
    (hi : look C.tt t = some i) (hia : i.k.isAgg = true) (hx : evo sl x = some (.ptr id k)) (hob : look ob id = some cs) (hl : Nat.ble (k + i.size) cs.length = true) {y : AV} (hy : some (mkAgg ((cs.drop k).take i.size)) = some y)
    (hK : K ⟨(d, y) :: sl, ob⟩) : OpOk C o K ⟨sl, ob⟩ := by
  cases hy
  refine ok_one hd hn (fun g a w hs => ?_) hK
  have h5 := evo_rep hs hx
  have hl' := Nat.le_of_ble_eq_true hl
  generalize hv : a.eval x = v at h5
  cases h5 with
  | ptr how =>
    rename_i b
    obtain ⟨b', c, e, k1, k2, k3, k4, k5⟩ := hs.ob id cs hob
    rw [how] at k1; cases k1
    have hc : ∀ j, j < i.size → w.cell? ⟨b, k + j, none⟩ = some (c.getD (k + j) Go.undef) := by
      intro j hj
      rw [find_block hs k2]
      have : k + j < c.size := by omega
      simp [Array.getD, this]
    have hld := run_loadAgg C.good hi hia (f := fun j => c.getD (k + j) Go.undef) hc
    refine ⟨.agg ((List.range i.size).map fun j => c.getD (k + j) Go.undef).toArray, by simp only [execOp, ho, hv, Instr.loadAt, Instr.sureAddr, Sem.run_bind, Sem.run_pure, Result.andThen_ok, hld], mkAgg_rep (by simp; omega) fun j y v h1 h2 => ?_⟩
    rw [List.getElem?_take] at h1
    split at h1
    · rename_i hj
      rw [List.getElem?_drop] at h1
      obtain ⟨u, hu, hr⟩ := k5 (k + j) y h1
      simp only [List.getElem?_toArray, List.getElem?_map, List.getElem?_range hj, Option.map_some, Option.some.injEq] at h2
      subst h2
      rw [Array.getD_eq_getD_getElem?, hu]
      exact hr
    · cases h1

theorem splice_get {α : Type} (l xs : List α) (k : Nat) (h : k + xs.length ≤ l.length) (i : Nat) :
    (l.take k ++ xs ++ l.drop (k + xs.length))[i]? = if k ≤ i ∧ i < k + xs.length then xs[i - k]? else l[i]? := by
  have hlen : (l.take k).length = k := by rw [List.length_take]; omega
  by_cases h1 : i < k
  · rw [List.append_assoc, List.getElem?_append_left (by omega), List.getElem?_take, if_pos h1, if_neg (by omega)]
  · rw [List.append_assoc, List.getElem?_append_right (by omega), hlen]
    by_cases h2 : i < k + xs.length
    · rw [List.getElem?_append_left (by omega), if_pos (by omega)]
    · rw [List.getElem?_append_right (by omega), List.getElem?_drop, if_neg (by omega)]
      congr 1; omega

/-- A store's new cells. -/
def updL (cs : List AV) (k : Nat) (xs : List AV) : List AV := match xs with
  | [x] => cs.set k x
  | _ => cs.take k ++ xs ++ cs.drop (k + xs.length)

theorem updL_get (cs : List AV) (k : Nat) (xs : List AV) (h : k + xs.length ≤ cs.length) (i : Nat) : (updL cs k xs)[i]? = if k ≤ i ∧ i < k + xs.length then xs[i - k]? else cs[i]? := by
  have gen := splice_get cs xs k h i
  unfold updL
  split
  · rename_i x
    simp only [List.length_cons, List.length_nil, Nat.zero_add] at h
    rw [List.getElem?_set]
    by_cases e : k = i
    · subst e; rw [if_pos rfl, if_pos (by omega), if_pos (by simp)]; simp
    · rw [if_neg e, if_neg (by simp; omega)]
  · exact gen

theorem updL_length (cs : List AV) (k : Nat) (xs : List AV) (h : k + xs.length ≤ cs.length) : (updL cs k xs).length = cs.length := by
  unfold updL
  split
  · simp
  · simp; omega

/-- A store into an object. -/
theorem ok_store {t : TypeId} {x v : Operand} {i : TI} {id k : Nat} {cs xs : List AV} {y : AV} (ho : o.op = .store t x v) (hd : o.dst = none)
    (hi : look C.tt t = some i) (hx : evo sl x = some (.ptr id k)) (hv : evo sl v = some y) (hc : y.cellsA = some xs) (hsz : xs.length = i.size) (hob : look ob id = some cs) (hl : k + xs.length ≤ cs.length)
    (hK : K ⟨sl, (id, updL cs k xs) :: ob⟩) : OpOk C o K ⟨sl, ob⟩ := by
  intro g a w hs
  have h5 := evo_rep hs hx
  have h6 := evo_rep hs hv
  obtain ⟨hs1, hs2⟩ := cellsA_spec hc h6
  generalize hev : a.eval x = u at h5
  cases h5 with
  | ptr how =>
    rename_i b
    obtain ⟨b', c, e, k1, k2, k3, k4, k5⟩ := hs.ob id cs hob
    rw [how] at k1; cases k1
    have hone : ∀ u ∈ (a.eval v).cells.toList, u.oneCell' = true := by
      intro u hu
      obtain ⟨j, hj, rfl⟩ := List.getElem_of_mem hu
      simp only [Array.length_toList] at hj
      exact (hs2 j (xs[j]'(by omega)) _ (List.getElem?_eq_getElem (by omega)) (by simp [hj])).2
    have hst := run_storeCells_at C.P b k e (a.eval v).cells.toList 0 c w k2 (by simp; omega) hone
    simp only [Nat.add_zero, Array.length_toList] at hst
    obtain ⟨c', hc'⟩ : ∃ c', c' = (c.toList.take k ++ (a.eval v).cells.toList ++ c.toList.drop (k + (a.eval v).cells.size)).toArray := ⟨_, rfl⟩
    rw [← hc'] at hst
    have hsz' := run_sizeOf C.good hi w
    have hne : (a.eval v).cells.size = i.size := hs1.trans hsz
    unfold Oper.wp
    have hrun : (execOp a.eval o).run C.P w = .ok .skip (w.setRow b c') := by
      simp [execOp, ho, hev, Instr.storeAt, Instr.sureAddr, storeVar, hsz', hne, hst]
    rw [hrun]
    simp only [Oper.upon, hd, Act.put]
    have hcell : ∀ j, c'[j]? = if k ≤ j ∧ j < k + xs.length then (a.eval v).cells[j - k]? else c[j]? := by
      intro j
      rw [hc']
      have := splice_get c.toList (a.eval v).cells.toList k (by simp; omega) j
      simp only [Array.length_toList, Array.getElem?_toList, hs1] at this
      simpa [hs1] using this
    have hsize' : c'.size = c.size := by
      rw [hc']; simp; omega
    have hev' : Ev w g.st (w.setRow b c') g.st := by
      intro b2 o2 h2
      refine ⟨h2, ?_⟩
      have hne : b2 ≠ b := fun e => k4 o2 (e ▸ h2)
      simp only [World.cell?, setRow_other w b b2 c' hne]
    have hE : EvO (fun _ => false) w g (w.setRow b c') g := by
      refine ⟨hev', fun id b _ h => h, fun id b2 c2 e2 _ h h2 => ?_, fun id b o _ _ h => h, fun id b2 es2 k2' _ h h2 => (setRow_other w b b2 c' (fun e => by subst e; rw [k2] at h2; cases h2)).trans h2, fun _ _ => rfl, fun id b2 o _ _ h => setRow_other w b b2 c' (fun e => k4 o (e ▸ h))⟩
      by_cases e1 : b2 = b
      · subst e1
        rw [k2] at h2; cases h2
        exact ⟨c', setRow_heap w b2 c c' e (0, 0) k2, hsize'⟩
      · exact ⟨c2, (setRow_other w b b2 c' e1).trans h2, rfl⟩
    refine ⟨g, ⟨sl, (id, updL cs k xs) :: ob⟩, ?_, hK⟩
    refine ⟨hs.nd, hs.sz, fun j => (hs.sl j).mono hE, fun id' cs' h' => ?_, hs.inj, fun j b2 h => ?_, fun b2 o2 h => ?_, hs.fl, fun b2 h => ?_, hs.os, hs.out, hs.tape, ?_, hs.stf, hs.owf, hs.shf.next (fun _ b c e _ _ h => (Shapes_setRow k2 hsize').1 b c e h), hs.nst, hs.ev0.trans hev'⟩
    · simp only [look_cons] at h'
      by_cases e1 : id = id'
      · subst e1
        simp only [if_true, Option.some.injEq] at h'
        subst h'
        refine ⟨b, c', e, how, setRow_heap w b c c' e (0, 0) k2, by rw [updL_length _ _ _ hl, hsize']; exact k3, k4, fun j y hy => ?_⟩
        rw [updL_get _ _ _ hl] at hy
        split at hy
        · rename_i hj
          have hlt : j - k < (a.eval v).cells.size := by omega
          refine ⟨(a.eval v).cells[j - k], ?_, ((hs2 (j - k) y _ hy (Array.getElem?_eq_getElem hlt)).1).mono hE⟩
          rw [hcell j, if_pos hj]; exact Array.getElem?_eq_getElem hlt
        · rename_i hj
          obtain ⟨u, hu, hr⟩ := k5 j y hy
          exact ⟨u, by rw [hcell j, if_neg hj]; exact hu, hr.mono hE⟩
      · rw [if_neg e1] at h'
        obtain ⟨b2, c2, e2, m1, m2, m3, m4, m5⟩ := hs.ob id' cs' h'
        have hne : b2 ≠ b := fun e => e1 (hs.inj _ _ _ how (e ▸ m1))
        refine ⟨b2, c2, e2, m1, (setRow_other w b b2 c' hne).trans m2, m3, m4, fun j y hy => ?_⟩
        obtain ⟨u, hu, hr⟩ := m5 j y hy
        exact ⟨u, hu, hr.mono hE⟩
    · have := hs.own j b2 h; exact ⟨by simpa using this.1, this.2⟩
    · have := hs.lt b2 o2 h; simpa using this
    · have hne : b2 ≠ b := fun e => (hs.own id b how).2 (e ▸ h)
      exact (setRow_other w b b2 c' hne).trans (hs.fr b2 h)
    · have := hs.size; simpa using this

end
end Go.Ab
