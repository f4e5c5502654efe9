/- A layer of abstract values over the model's worlds, part D: operations on memory. It holds for every program. -/
import Derived.Test.YtapfhipodpbflaaGreatDoorAbC
set_option linter.unusedVariables false
set_option linter.unusedSimpArgs false
set_option linter.unnecessarySimpa false
namespace Go.Ab

theorem look_map {α β : Type} (f : α → β) : ∀ (l : List (Nat × α)) (i : Nat), look (l.map fun p => (p.1, f p.2)) i = (look l i).map f
  | [], _ => rfl
  | (j, v) :: r, i => by
    simp only [List.map_cons, look_cons, look_map f r i]
    split <;> rfl

theorem look_filter {α : Type} (D : Nat → Bool) : ∀ (l : List (Nat × α)) (i : Nat), look (l.filter fun p => !D p.1) i = if D i then none else look l i
  | [], i => by simp [look]
  | (j, v) :: r, i => by
    simp only [List.filter_cons, look_cons]
    cases hD : D j
    · simp only [Bool.not_false, if_true, look_cons, look_filter D r i]
      by_cases e : j = i
      · subst e; simp [hD]
      · simp [e]
    · simp only [Bool.not_true, Bool.false_eq_true, if_false, look_filter D r i]
      by_cases e : j = i
      · subst e; simp [hD]
      · simp [e]

/-- The identities of D are given up. -/
def demS (D : Nat → Bool) (s : AS) : AS :=
  ⟨s.sl.map fun p => (p.1, p.2.dem D), (s.ob.filter fun p => !D p.1).map fun p => (p.1, demL D p.2)⟩

theorem St.evolve {n : Nat} {w0 : Base} {w w' : World} {F : Nat → Prop} {g g' : Gh} {s : AS} {a : Act} (hs : St n w0 F g s a w) (D : Nat → Bool) (hDl : ∀ i, D i = true → i < M1) (hev : Ev w g.st w' g'.st)
    (how : ∀ id b, D id = false → g.ow id = some b → g'.ow id = some b ∧ w'.heap[b]? = w.heap[b]? ∧ ∀ o, g'.st b o → g.st b o)
    (hinj : ∀ i j b, g'.ow i = some b → g'.ow j = some b → i = j) (hown : ∀ i b, g'.ow i = some b → b < w'.heap.size ∧ ¬ F b)
    (hlt : ∀ b o, g'.st b o → b < w'.heap.size) (hfr : ∀ b, F b → w'.heap[b]? = w.heap[b]?)
    (hos : w'.os = w.os) (hout : w'.output = w.output) (htape : w'.tape = w.tape) (hsize : w.heap.size ≤ w'.heap.size) (hstf : ∀ b, F b → ∀ o, g'.st b o ↔ g.st b o) (howf : ∀ i, M1 ≤ i → g'.ow i = g.ow i) : St n w0 F g' (demS D s) a w' := by
  have hDf : ∀ i, M1 ≤ i → D i = false := fun i hi => by
    cases hq : D i
    · rfl
    · have := hDl i hq; omega
  have hE : EvO D w g w' g' := ⟨hev, fun id b hD h => (how id b hD h).1, fun id b c e hD h hb => ⟨c, (how id b hD h).2.1.trans hb, rfl⟩, fun id b o hD h => (how id b hD h).2.2 o, fun id b es k hD h hb => (how id b hD h).2.1.trans hb, fun i hi => hDf i (M1_lt hi), fun id b o hD h _ => (how id b hD h).2.1⟩
  refine ⟨hs.nd, hs.sz, fun i => ?_, fun id cs hc => ?_, hinj, hown, hlt, hs.fl, fun b hb => (hfr b hb).trans (hs.fr b hb), hos.trans hs.os, hout.trans hs.out, htape.trans hs.tape, Nat.le_trans hs.size hsize, fun b hb o => (hstf b hb o).trans (hs.stf b hb o), fun i hi hz => (howf i hi).trans (hs.owf i hi hz), hs.shf.next (fun i b c e hi hb h => ⟨c, (how i b (hDf i hi) ((hs.owf i hi (w0.lo i b hb)).trans hb)).2.1.trans h, rfl⟩), fun i b hi hb o h => hs.nst i b hi hb o ((how i b (hDf i hi) ((hs.owf i hi (w0.lo i b hb)).trans hb)).2.2 o h), hs.ev0.trans hev⟩
  · have h := (hs.sl i).dem hE
    simp only [AS.get, demS, look_map]
    simp only [AS.get] at h
    cases hl : look s.sl i with
    | none => simp only [Option.map_none, Option.getD_none]; exact .undef _
    | some x => rw [hl] at h; simpa using h
  · simp only [demS, look_map, look_filter] at hc
    by_cases hD : D id = true
    · simp [hD] at hc
    · have hD' : D id = false := by simpa using hD
      simp only [hD', Bool.false_eq_true, if_false, Option.map_eq_some_iff] at hc
      obtain ⟨ds, h1, rfl⟩ := hc
      obtain ⟨b, c, e, k1, k2, k3, k4, k5⟩ := hs.ob id ds h1
      obtain ⟨m1, m2, m3⟩ := how id b hD' k1
      refine ⟨b, c, e, m1, m2.trans k2, by simpa [demL_eq] using k3, fun o h => k4 o (m3 o h), fun i x hx => ?_⟩
      simp only [demL_eq, List.getElem?_map, Option.map_eq_some_iff] at hx
      obtain ⟨y, hy, rfl⟩ := hx
      obtain ⟨v, hv, hr⟩ := k5 i y hy
      exact ⟨v, hv, hr.dem hE⟩

/-- The world goes on and nothing is given up. -/
theorem St.evolve0 {n : Nat} {w0 : Base} {w w' : World} {F : Nat → Prop} {g g' : Gh} {s : AS} {a : Act} (hs : St n w0 F g s a w) (hev : Ev w g.st w' g'.st)
    (how : ∀ id b, g.ow id = some b → g'.ow id = some b ∧ w'.heap[b]? = w.heap[b]? ∧ ∀ o, g'.st b o → g.st b o)
    (hinj : ∀ i j b, g'.ow i = some b → g'.ow j = some b → i = j) (hown : ∀ i b, g'.ow i = some b → b < w'.heap.size ∧ ¬ F b)
    (hlt : ∀ b o, g'.st b o → b < w'.heap.size) (hfr : ∀ b, F b → w'.heap[b]? = w.heap[b]?)
    (hos : w'.os = w.os) (hout : w'.output = w.output) (htape : w'.tape = w.tape) (hsize : w.heap.size ≤ w'.heap.size) (hstf : ∀ b, F b → ∀ o, g'.st b o ↔ g.st b o) (howf : ∀ i, M1 ≤ i → g'.ow i = g.ow i) : St n w0 F g' s a w' := by
  have hE : EvO (fun _ => false) w g w' g' := ⟨hev, fun id b _ h => (how id b h).1, fun id b c e _ h hb => ⟨c, (how id b h).2.1.trans hb, rfl⟩, fun id b o _ h => (how id b h).2.2 o, fun id b es k _ h hb => (how id b h).2.1.trans hb, fun _ _ => rfl, fun id b o _ h _ => (how id b h).2.1⟩
  refine ⟨hs.nd, hs.sz, fun i => (hs.sl i).mono hE, fun id cs hc => ?_, hinj, hown, hlt, hs.fl, fun b hb => (hfr b hb).trans (hs.fr b hb), hos.trans hs.os, hout.trans hs.out, htape.trans hs.tape, Nat.le_trans hs.size hsize, fun b hb o => (hstf b hb o).trans (hs.stf b hb o), fun i hi hz => (howf i hi).trans (hs.owf i hi hz), hs.shf.next (fun i b c e hi hb h => ⟨c, (how i b ((hs.owf i hi (w0.lo i b hb)).trans hb)).2.1.trans h, rfl⟩), fun i b hi hb o h => hs.nst i b hi hb o ((how i b ((hs.owf i hi (w0.lo i b hb)).trans hb)).2.2 o h), hs.ev0.trans hev⟩
  obtain ⟨b, c, e, k1, k2, k3, k4, k5⟩ := hs.ob id cs hc
  obtain ⟨m1, m2, m3⟩ := how id b k1
  refine ⟨b, c, e, m1, m2.trans k2, k3, fun o h => k4 o (m3 o h), fun i x hx => ?_⟩
  obtain ⟨v, hv, hr⟩ := k5 i x hx
  exact ⟨v, hv, hr.mono hE⟩

theorem St.drew {n : Nat} {w0 : Base} {w : World} {F : Nat → Prop} {g : Gh} {s : AS} {a : Act} (hs : St n w0 F g s a w) : St n w0 F g s a w.drew :=
  hs.evolve0 (fun b o h => ⟨h, rfl⟩) (fun id b h => ⟨h, rfl, fun o h => h⟩) hs.inj hs.own hs.lt (fun b h => rfl) rfl rfl rfl (Nat.le_refl _) (fun b _ o => Iff.rfl) (fun _ _ => rfl)

theorem heap_alloc_lt {w : World} {o : Obj} {b : Nat} (h : b < w.heap.size) : (w.alloc o).heap[b]? = w.heap[b]? := by
  show (w.heap.push o)[b]? = _
  rw [Array.getElem?_push, if_neg (by omega)]
theorem heap_alloc_at {w : World} {o : Obj} : (w.alloc o).heap[w.heap.size]? = some o := by
  show (w.heap.push o)[w.heap.size]? = _
  simp

theorem Shapes_alloc (w : World) (c0 : Array Value) (e0 : TypeId) : Shapes w (w.alloc (.cells c0 e0)) := by
  refine ⟨fun b c e h => ⟨c, ?_, rfl⟩, fun b o h1 h2 => ?_⟩
  · have hlt : b < w.heap.size := (Array.getElem?_eq_some_iff.1 h).1
    rw [heap_alloc_lt hlt]; exact h
  · have hlt : b < (w.alloc (.cells c0 e0)).heap.size := (Array.getElem?_eq_some_iff.1 h2).1
    have hsz : (w.alloc (.cells c0 e0)).heap.size = w.heap.size + 1 := by simp
    obtain rfl : b = w.heap.size := by omega
    rw [heap_alloc_at] at h2
    cases h2
    exact ⟨_, _, rfl⟩
theorem Shapes_setRow {w : World} {b : Nat} {c c' : Array Value} {e : TypeId} (hb : w.heap[b]? = some (.cells c e (0, 0))) (hs : c'.size = c.size) : Shapes w (w.setRow b c') := by
  have hbl : b < w.heap.size := (Array.getElem?_eq_some_iff.1 hb).1
  refine ⟨fun b2 c2 e2 h => ?_, fun b2 o h1 h2 => ?_⟩
  · by_cases e1 : b2 = b
    · subst e1
      rw [hb] at h; cases h
      exact ⟨c', setRow_heap w b2 c c' e (0, 0) hb, hs⟩
    · exact ⟨c2, (setRow_other w b b2 c' e1).trans h, rfl⟩
  · rw [setRow_other w b b2 c' (by omega)] at h2
    exact absurd (Array.getElem?_eq_some_iff.1 h2).1 (Nat.not_lt.2 h1)

theorem Ev_alloc {w : World} {st : Nat → Nat → Prop} (hlt : ∀ b o, st b o → b < w.heap.size) {T : Nat → Prop} {ob : Obj} : Ev w st (w.alloc ob) (fun b o => st b o ∨ (b = w.heap.size ∧ T o)) :=
  fun b o h => ⟨.inl h, World.cell?_alloc_lt w _ _ (hlt b o h)⟩

/-- A new block that an own identity d gets; the identities of D are given up. T: what of it is settled. -/
theorem St.fresh {n : Nat} {w0 : Base} {w : World} {F : Nat → Prop} {g : Gh} {s : AS} {a : Act} (hs : St n w0 F g s a w) (D : Nat → Bool) (hDl : ∀ i, D i = true → i < M1) (d : Nat) (hD : D d = true) (T : Nat → Prop) (c : Array Value) (e : TypeId) :
    St n w0 F ⟨fun b o => g.st b o ∨ (b = w.heap.size ∧ T o), fun i => if i = d then some w.heap.size else if D i then none else g.ow i⟩ (demS D s) a (w.alloc (.cells c e)) := by
  refine hs.evolve D hDl (Ev_alloc hs.lt) (fun id b hd h => ?_) (fun i j b h1 h2 => ?_) (fun i b h => ?_) (fun b o h => ?_) (fun b h => ?_) rfl rfl rfl (by simp) (fun b hb o => ⟨fun h => h.resolve_right fun h => by have := hs.fl b hb; have := hs.size; omega, .inl⟩) (fun i hi => by
    have h1 : i ≠ d := fun e => by have := hDl d hD; omega
    have h2 : D i = false := by
      cases hq : D i
      · rfl
      · have := hDl i hq; omega
    simp only [if_neg h1, h2]; rfl)
  · have hne : id ≠ d := fun e => by subst e; rw [hD] at hd; cases hd
    have hlt := (hs.own id b h).1
    refine ⟨by simp only [if_neg hne, hd]; exact h, heap_alloc_lt hlt, fun o ho => ho.resolve_right fun ⟨e, _⟩ => by omega⟩
  · have key : ∀ i, (if i = d then some w.heap.size else if D i then none else g.ow i) = some b → (i = d ∧ b = w.heap.size) ∨ (i ≠ d ∧ g.ow i = some b ∧ b < w.heap.size) := by
      intro i h
      by_cases e1 : i = d
      · rw [if_pos e1] at h; cases h; exact .inl ⟨e1, rfl⟩
      · rw [if_neg e1] at h
        split at h
        · cases h
        · exact .inr ⟨e1, h, (hs.own i b h).1⟩
    rcases key i h1 with ⟨a1, a2⟩ | ⟨a1, a2, a3⟩ <;> rcases key j h2 with ⟨b1, b2⟩ | ⟨b1, b2, b3⟩
    · rw [a1, b1]
    · omega
    · omega
    · exact hs.inj i j b a2 b2
  · dsimp only at h
    by_cases e1 : i = d
    · rw [if_pos e1] at h; cases h
      exact ⟨by simp, fun hF => by have := hs.fl _ hF; have := hs.size; omega⟩
    · rw [if_neg e1] at h
      split at h
      · cases h
      · have := hs.own i b h; exact ⟨by simp; omega, this.2⟩
  · rcases h with h | ⟨h, _⟩
    · have := hs.lt b o h; simp; omega
    · simp; omega
  · have := hs.fl b h; have := hs.size
    exact heap_alloc_lt (by omega)

/-- A new block of settled contents. -/
theorem St.settled {n : Nat} {w0 : Base} {w : World} {F : Nat → Prop} {g : Gh} {s : AS} {a : Act} (hs : St n w0 F g s a w) (T : Nat → Prop) (c : Array Value) (e : TypeId) :
    St n w0 F ⟨fun b o => g.st b o ∨ (b = w.heap.size ∧ T o), g.ow⟩ s a (w.alloc (.cells c e)) := by
  refine hs.evolve0 (Ev_alloc hs.lt) (fun id b h => ?_) hs.inj (fun i b h => ?_) (fun b o h => ?_) (fun b h => ?_) rfl rfl rfl (by simp) (fun b hb o => ⟨fun h => h.resolve_right fun h => by have := hs.fl b hb; have := hs.size; omega, .inl⟩) (fun _ _ => rfl)
  · have hlt := (hs.own id b h).1
    exact ⟨h, heap_alloc_lt hlt, fun o ho => ho.resolve_right fun ⟨e, _⟩ => by omega⟩
  · have := hs.own i b h; exact ⟨by simp; omega, this.2⟩
  · rcases h with h | ⟨h, _⟩
    · have := hs.lt b o h; simp; omega
    · simp; omega
  · have := hs.fl b h; have := hs.size
    exact heap_alloc_lt (by omega)

theorem add_lit (b o n : Nat) : (⟨b, o, none⟩ : Addr).add n = ⟨b, o + n, none⟩ := by
  unfold Addr.add; split
  · rename_i e; subst e; rfl
  · rfl

/-! ### Types -/
theorem info_of {P : Program} {tt : List (Nat × TI)} (good : TyGood P tt) {t : Nat} {i : TI} (h : look tt t = some i) :
    ∃ j, P.info? t = some j ∧ j.size = i.size ∧ j.bytes = i.bytes ∧ ∃ z, j.zero = some z ∧ z.cells.toList = i.zero := by
  have := (good.at h).2
  simp only [Option.map_eq_some_iff, Prod.mk.injEq] at this
  obtain ⟨j, h1, h2, h3, h4⟩ := this
  exact ⟨j, h1, h2, h3, h4⟩

theorem run_sizeOf {P : Program} {tt : List (Nat × TI)} (good : TyGood P tt) {t : Nat} {i : TI} (h : look tt t = some i) (w : World) : (sizeOf t).run P w = .ok i.size w := by
  obtain ⟨j, h1, h2, _⟩ := info_of good h
  simp [sizeOf, typeInfo, h1, h2]

def TK.isAgg : TK → Bool
  | .struct _ => true
  | .array _ _ => true
  | _ => false

theorem run_isAgg {P : Program} {tt : List (Nat × TI)} (good : TyGood P tt) {t : Nat} {i : TI} (h : look tt t = some i) (w : World) : (isAgg t).run P w = .ok i.k.isAgg w := by
  obtain ⟨u, h1, h2⟩ := und_of good h
  rw [← h2]
  simp only [isAgg, Sem.run_bind, run_underlying h1, Result.andThen_ok]
  cases u <;> rfl

section
variable {C : Cx} {o : Oper} {K : AS → Prop} {sl : List (Nat × AV)} {ob : List (Nat × List AV)} {d : Nat}

/-! ### Reading settled memory -/
theorem ok_fieldAddrR {t : TypeId} {x : Operand} {f off ft : Nat} {i j : TI} {fs : List (Nat × Nat)} {cs : List PV} (ho : o.op = .fieldAddr t x f) (hd : o.dst = some d) (hn : Nat.blt d C.n = true)
    (hi : look C.tt t = some i) (hik : i.k = .struct fs) (hf : fs[f]? = some (off, ft)) (hj : look C.tt ft = some j) (hjs : Nat.beq j.size 0 = false)
    (hx : evo sl x = some (.rptr cs)) (hK : K ⟨(d, .rptr (cs.drop off)) :: sl, ob⟩) : OpOk C o K ⟨sl, ob⟩ := by
  obtain ⟨u, h1, h2⟩ := und_of C.good hi
  obtain ⟨fa, rfl, h4⟩ := kind_struct (h2.trans hik)
  refine ok_one hd hn (fun g a w hs => ?_) hK
  have h5 := evo_rep hs hx
  generalize hv : a.eval x = v at h5
  cases h5 with
  | rptr cf hc hr =>
    rename_i b o'
    refine ⟨.pointer (some ⟨b, o' + off, none⟩), ?_, ?_⟩
    · rw [← h4] at hf
      simp only [List.getElem?_map, Array.getElem?_toList, Option.map_eq_some_iff, Prod.mk.injEq] at hf
      obtain ⟨fl, hf1, hf2, hf3⟩ := hf
      have hsz := run_sizeOf C.good hj w
      rw [← hf3] at hsz
      have hne : j.size ≠ 0 := fun e => by rw [e] at hjs; simp at hjs
      simp [execOp, ho, hv, Instr.fieldAt, run_underlying h1, hf1, Instr.sureAddr, fieldPlace, hsz, hne, add_lit, hf2]
    · refine .rptr (fun k => cf (off + k)) (fun k c hk => ?_) (fun k c hk => ?_)
      · rw [List.getElem?_drop] at hk
        have := hc _ c hk
        rwa [← Nat.add_assoc] at this
      · rw [List.getElem?_drop] at hk
        exact hr _ c hk

theorem run_loadOne {P : Program} {tt : List (Nat × TI)} (good : TyGood P tt) {t : Nat} {i : TI} (h : look tt t = some i) (ha : i.k.isAgg = false) {w : World} {a : Addr} {v : Value} (hc : w.cell? a = some v) :
    (loadVar t a).run P w = .ok v w := by
  simp [loadVar, run_isAgg good h, ha, hc]

theorem run_loadAgg {P : Program} {tt : List (Nat × TI)} (good : TyGood P tt) {t : Nat} {i : TI} (h : look tt t = some i) (ha : i.k.isAgg = true) {w : World} {b o : Nat} {f : Nat → Value}
    (hc : ∀ j, j < i.size → w.cell? ⟨b, o + j, none⟩ = some (f j)) :
    (loadVar t ⟨b, o, none⟩).run P w = .ok (.agg ((List.range i.size).map f).toArray) w := by
  have := run_loadCells (P := P) w ⟨b, o, none⟩ i.size f (fun j hj => by rw [add_lit]; exact hc j hj)
  simp [loadVar, run_isAgg good h, ha, run_sizeOf good h, this]

theorem ok_loadR1 {t : TypeId} {x : Operand} {i : TI} {c : PV} {cs : List PV} (ho : o.op = .load t x) (hd : o.dst = some d) (hn : Nat.blt d C.n = true)
    (hi : look C.tt t = some i) (hia : i.k.isAgg = false) (hx : evo sl x = some (.rptr cs)) (hc : cs.head? = some c) (hK : K ⟨(d, .p c) :: sl, ob⟩) : OpOk C o K ⟨sl, ob⟩ := by
  refine ok_one hd hn (fun g a w hs => ?_) hK
  have h5 := evo_rep hs hx
  generalize hv : a.eval x = v at h5
  cases h5 with
  | rptr cf hcf hr =>
    rename_i b o'
    have h0 : cs[0]? = some c := by cases cs with | nil => simp at hc | cons y r => simpa using hc
    have h1 := hcf 0 c h0
    refine ⟨cf 0, ?_, .p (hr 0 c h0)⟩
    have := run_loadOne C.good hi hia h1.2
    rw [Nat.add_zero] at this
    simp [execOp, ho, hv, Instr.loadAt, Instr.sureAddr, this]

theorem ok_loadRA {t : TypeId} {x : Operand} {i : TI} {cs : List PV} (ho : o.op = .load t x) (hd : o.dst = some d) (hn : Nat.blt d C.n = true)
    (hi : look C.tt t = some i) (hia : i.k.isAgg = true) (hx : evo sl x = some (.rptr cs)) (hl : Nat.ble i.size cs.length = true) (hK : K ⟨(d, .p (.agg (cs.take i.size))) :: sl, ob⟩) : OpOk C o K ⟨sl, ob⟩ := by
  refine ok_one hd hn (fun g a w hs => ?_) hK
  have h5 := evo_rep hs hx
  have hl' : i.size ≤ cs.length := Nat.le_of_ble_eq_true hl
  generalize hv : a.eval x = v at h5
  cases h5 with
  | rptr cf hcf hr =>
    rename_i b o'
    refine ⟨.agg ((List.range i.size).map cf).toArray, ?_, .p (.agg (by simp; omega) fun k c v h1 h2 => ?_)⟩
    · have := run_loadAgg C.good hi hia (b := b) (o := o') (f := cf) (w := w) (fun j hj => (hcf j cs[j] (List.getElem?_eq_getElem (by omega))).2)
      simp [execOp, ho, hv, Instr.loadAt, Instr.sureAddr, this]
    · rw [List.getElem?_take] at h1
      split at h1
      · rename_i hk
        simp only [List.getElem?_toArray, List.getElem?_map, List.getElem?_range hk, Option.map_some, Option.some.injEq] at h2
        subst h2
        exact hr k c h1
      · cases h1

theorem slice_view {w : World} {g : Gh} {x : AV} {es : List PV} {v : Value} (hx : x = .p (.slice es) ∨ ∃ tok sz ty, x = .vec tok sz ty es) (h : ARep w g x v) : PRep w g.st (.slice es) v := by
  rcases hx with rfl | ⟨tok, sz, ty, rfl⟩
  · cases h with | p h => exact h
  · have := AV.sub_vec tok sz ty es w g v h
    cases this with | p h => exact h

/-- What a slot that holds a slice holds: its elements. -/
def AV.elems? : AV → Option (List PV)
  | .p (.slice es) => some es
  | .vec _ _ _ es => some es
  | .p (.val (.slice none 0 0)) => some []
  | _ => none

theorem elems_view {w : World} {g : Gh} {x : AV} {es : List PV} {v : Value} (hx : x.elems? = some es) (h : ARep w g x v) : PRep w g.st (.slice es) v := by
  unfold AV.elems? at hx
  split at hx
  · cases hx; exact slice_view (.inl rfl) h
  · cases hx; exact slice_view (.inr ⟨_, _, _, rfl⟩) h
  · cases hx; exact slice_view (.inl rfl) (AV.sub_nilv _ _ _ h)
  · cases hx

theorem prep_slice_len {w : World} {st : Nat → Nat → Prop} {es : List PV} {v : Value} (h : PRep w st (.slice es) v) : ∃ a cap, v = .slice a es.length cap ∧ es.length ≤ cap := by
  cases h with
  | nils => exact ⟨none, 0, rfl, Nat.le_refl _⟩
  | nile a => exact ⟨some a, 0, rfl, Nat.le_refl _⟩
  | slice sz cf hcap hsz hone hc hr => exact ⟨_, _, rfl, hcap⟩

theorem ok_lenV {t e : TypeId} {x : Operand} {y : AV} {es : List PV} {i : TI} (ho : o.op = .call { callee := .builtin .len, args := #[x], argTypes := #[t] }) (hd : o.dst = some d) (hn : Nat.blt d C.n = true)
    (hi : look C.tt t = some i) (hik : i.k = .slice e) (hx : evo sl x = some y) (hy : y.elems? = some es)
    (hK : K ⟨(d, .p (.val (.int .i64 (es.length : Int)))) :: sl, ob⟩) : OpOk C o K ⟨sl, ob⟩ := by
  obtain ⟨u, h1, h2⟩ := und_of C.good hi
  have h3 := kind_slice (h2.trans hik)
  subst h3
  refine ok_one hd hn (fun g b w hs => ⟨_, ?_, .p (.val _)⟩) hK
  obtain ⟨a, cap, h4, _⟩ := prep_slice_len (elems_view hy (evo_rep hs hx))
  rw [run_builtin ho]
  simp [builtin, h4, Builtin.len_, run_underlying h1, goInt]

theorem ok_indexAddrV {t e : TypeId} {x y : Operand} {z : AV} {es : List PV} {i ie : TI} {k : IntKind} {n : Int} {el : PV} (ho : o.op = .indexAddr t x y) (hd : o.dst = some d) (hn : Nat.blt d C.n = true)
    (hi : look C.tt t = some i) (hik : i.k = .slice e) (hie : look C.tt e = some ie) (hx : evo sl x = some z) (hz : z.elems? = some es)
    (hy : evo sl y = some (.p (.val (.int k n)))) (hb : 0 ≤ n) (hel : es[n.toNat]? = some el) (hsz : el.cells.length = ie.size)
    (hK : K ⟨(d, .rptr el.cells) :: sl, ob⟩) : OpOk C o K ⟨sl, ob⟩ := by
  obtain ⟨u, h1, h2⟩ := und_of C.good hi
  have h3 := kind_slice (h2.trans hik)
  subst h3
  refine ok_one hd hn (fun g a w hs => ?_) hK
  have hv := elems_view hz (evo_rep hs hx)
  generalize hq : a.eval x = v at hv
  have hlt : n.toNat < es.length := (List.getElem?_eq_some_iff.1 hel).1
  cases hv with
  | nils => simp at hlt
  | nile a => simp at hlt
  | slice sz cf hcap hsz' hone hc hr =>
    rename_i b off cap
    have e1 : sz = ie.size := (hsz' el (List.mem_of_getElem? hel)).symm.trans hsz
    subst e1
    refine ⟨.pointer (some ⟨b, off + n.toNat * ie.size, none⟩), ?_, .rptr (cf n.toNat) (fun j c hj => ?_) (fun j c hj => hr _ el j c hel hj)⟩
    · have hlt' : n < (es.length : Int) := by omega
      simp [execOp, ho, hq, evo_val hs hy, Instr.indexAt, asIntOf, run_underlying h1, hb, hlt', run_sizeOf C.good hie, add_lit]
    · exact hc _ el j c hel hj

/-- x[lo:hi] of a settled slice. -/
theorem prep_slice_sub {w : World} {st : Nat → Nat → Prop} {es : List PV} {b off cap : Nat} {sz : Nat} {cf : Nat → Nat → Value} {l h : Nat} (hh : h ≤ es.length) (hlh : l ≤ h)
    (hcap : es.length ≤ cap) (hsz : ∀ e, e ∈ es → e.cells.length = sz) (hone : ∀ e, e ∈ es → ∀ c, c ∈ e.cells → c.one = true)
    (hc : ∀ (i : Nat) e (j : Nat) c, es[i]? = some e → e.cells[j]? = some c → st b (off + i * sz + j) ∧ w.cell? ⟨b, off + i * sz + j, none⟩ = some (cf i j))
    (hr : ∀ (i : Nat) e (j : Nat) c, es[i]? = some e → e.cells[j]? = some c → PRep w st c (cf i j)) :
    PRep w st (.slice ((es.take h).drop l)) (.slice (some ⟨b, off + l * sz, none⟩) (h - l) (cap - l)) := by
  have hlen : ((es.take h).drop l).length = h - l := by simp; omega
  have hmem : ∀ e, e ∈ (es.take h).drop l → e ∈ es := fun e he => List.mem_of_mem_take (List.mem_of_mem_drop he)
  have hget : ∀ (i : Nat) e, ((es.take h).drop l)[i]? = some e → es[l + i]? = some e := by
    intro i e he
    rw [List.getElem?_drop, List.getElem?_take] at he
    split at he
    · exact he
    · cases he
  have := PRep.slice (w := w) (st := st) (es := (es.take h).drop l) (b := b) (off := off + l * sz) (cap := cap - l) sz (fun i j => cf (l + i) j) (by omega) (fun e he => hsz e (hmem e he)) (fun e he => hone e (hmem e he))
    (fun i e j c h1 h2 => by
      have := hc (l + i) e j c (hget i e h1) h2
      rw [show off + l * sz + i * sz + j = off + (l + i) * sz + j by rw [Nat.add_mul]; omega]
      exact this) (fun i e j c h1 h2 => hr (l + i) e j c (hget i e h1) h2)
  rw [hlen] at this
  exact this

theorem ok_sliceV {t e : TypeId} {x : Operand} {lo hi : Option Operand} {z : AV} {es : List PV} {l h : Int} {i ie : TI} (ho : o.op = .slice t x lo hi none) (hd : o.dst = some d) (hn : Nat.blt d C.n = true)
    (hi' : look C.tt t = some i) (hik : i.k = .slice e) (hie : look C.tt e = some ie) (hx : evo sl x = some z) (hz : z.elems? = some es) (hlo : loI sl lo = some l) (hhi : hiI sl (es.length : Int) hi = some h)
    (hb : 0 ≤ l ∧ l ≤ h ∧ h ≤ es.length) (hsz : ∀ e ∈ es, e.cells.length = ie.size)
    (hK : K ⟨(d, .p (.slice ((es.take h.toNat).drop l.toNat))) :: sl, ob⟩) : OpOk C o K ⟨sl, ob⟩ := by
  obtain ⟨u, h1, h2⟩ := und_of C.good hi'
  have h3 := kind_slice (h2.trans hik)
  subst h3
  refine ok_one hd hn (fun g a w hs => ?_) hK
  have hv := elems_view hz (evo_rep hs hx)
  generalize hq : a.eval x = v at hv
  cases hv with
  | nils =>
    simp only [List.length_nil] at hb hhi
    have e1 : l = 0 := by omega
    have e2 : h = 0 := by omega
    subst e1 e2
    have e := run_bounds (P := C.P) hs true 0 0 lo hi hlo hhi (by omega) (Nat.le_refl _)
    refine ⟨.slice none 0 0, ?_, .p (by simpa using PRep.nils)⟩
    simp at e
    simp [execOp, ho, hq, Instr.sliceAt, Instr.slice, run_underlying h1, e, run_sizeOf C.good hie]
  | nile a0 =>
    simp only [List.length_nil] at hb hhi
    have e1 : l = 0 := by omega
    have e2 : h = 0 := by omega
    subst e1 e2
    have e := run_bounds (P := C.P) hs true 0 0 lo hi hlo hhi (by omega) (Nat.le_refl _)
    refine ⟨.slice (some a0) 0 0, ?_, .p (by simpa using PRep.nile a0)⟩
    simp at e
    simp [execOp, ho, hq, Instr.sliceAt, Instr.slice, run_underlying h1, e, run_sizeOf C.good hie]
  | slice sz cf hcap hsz' hone hc hr =>
    rename_i b off cap
    have e := run_bounds (P := C.P) hs true es.length cap lo hi hlo hhi ⟨hb.1, hb.2.1, by omega⟩ hcap
    refine ⟨.slice (if cap = l.toNat then some ⟨b, off, none⟩ else some ⟨b, off + l.toNat * ie.size, none⟩) (h.toNat - l.toNat) (cap - l.toNat), ?_, .p ?_⟩
    · simp [execOp, ho, hq, Instr.sliceAt, Instr.slice, run_underlying h1, e, run_sizeOf C.good hie, add_lit]
    · by_cases hcl : cap = l.toNat
      · rw [if_pos hcl]
        have e3 : (es.take h.toNat).drop l.toNat = [] := by
          apply List.drop_eq_nil_of_le; simp; omega
        have e4 : h.toNat - l.toNat = 0 := by omega
        rw [e3, e4]
        exact PRep.slice 0 (fun _ _ => .nilFunc) (by simp) (fun e he => by simp at he) (fun e he => by simp at he) (fun i e j c h1 => by simp at h1) (fun i e j c h1 => by simp at h1)
      · rw [if_neg hcl]
        by_cases hes : es = []
        · subst hes
          simp only [List.length_nil] at hb
          have e5 : h.toNat - l.toNat = 0 := by omega
          rw [e5]
          simp only [List.take_nil, List.drop_nil]
          exact PRep.slice 0 (fun _ _ => .nilFunc) (by simp) (fun e he => by simp at he) (fun e he => by simp at he) (fun i e j c h1 => by simp at h1) (fun i e j c h1 => by simp at h1)
        · have e1 : sz = ie.size := by
            cases es with
            | nil => exact absurd rfl hes
            | cons y r => exact (hsz' y (by simp)).symm.trans (hsz y (by simp))
          subst e1
          exact prep_slice_sub (by omega) (by omega) hcap hsz' hone hc hr

end
end Go.Ab
