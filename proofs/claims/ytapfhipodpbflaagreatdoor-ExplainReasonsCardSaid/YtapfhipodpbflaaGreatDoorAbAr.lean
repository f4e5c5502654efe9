/- A layer of abstract values over the model's worlds, part Ar: elements of array values, objects whose cells hold a table, texts that are ranged over. It holds for every program. -/
import Derived.Lib.OthersKept
import Derived.Test.YtapfhipodpbflaaGreatDoorAbGw
set_option linter.unusedVariables false
set_option linter.unusedSimpArgs false
set_option linter.unnecessarySimpa false
namespace Go.Ab

/-- A new array of bytes. -/
@[irreducible] def zerL (n : Nat) : List UInt8 := List.replicate n 0
section
variable {C : Cx} {o : Oper} {K : AS → Prop} {sl : List (Nat × AV)} {ob : List (Nat × List AV)} {d : Nat}

/-- An element of an array value. -/
theorem op_indexA {α : Type} [Inhabited α] (f : α → PV) (l : List α) {t m e : Nat} {x y : Operand} {i ie : TI} {k : IntKind} {n : Int} (ho : o.op = .index t x y) (hd : o.dst = some d) (hn : Nat.blt d C.n = true)
    (hi : look C.tt t = some i) (hik : i.k = .array m e) (hie : look C.tt e = some ie) (hia : ie.k.isAgg = false) (hs1 : ie.size = 1) (hm : Nat.beq m l.length = true) (hx : evo sl x = some (.p (.agg (l.map f))))
    (hy : evo sl y = some (.p (.val (.int k n)))) (hb : 0 ≤ n ∧ n < (l.length : Int)) (hK : K ⟨(d, .p (f (lat l n))) :: sl, ob⟩) : OpOk C o K ⟨sl, ob⟩ := by
  obtain ⟨u, h1, h2⟩ := und_of C.good hi
  have h3 := kind_array (h2.trans hik)
  subst h3
  have hm' := Nat.eq_of_beq_eq_true hm
  refine ok_one hd hn (fun g a w hs => ?_) hK
  have h5 := evo_rep hs hx
  generalize hv : a.eval x = v at h5
  cases h5 with
  | p h5 =>
    cases h5 with
    | agg hl hh =>
      rename_i vs
      have hlt : n.toNat < l.length := by omega
      have hlt2 : n.toNat < vs.size := by rw [hl]; simpa using hlt
      have hnm : n < (m : Int) := by omega
      refine ⟨vs[n.toNat], by simp [execOp, ho, hv, evo_val hs hy, Instr.index, asIntOf, run_underlying h1, hb.1, hnm, run_sizeOf C.good hie, hs1, part, run_isAgg C.good hie, hia, hlt2], .p (hh n.toNat (f (lat l n)) _ ?_ (Array.getElem?_eq_getElem hlt2))⟩
      simp [lat, List.getElem?_map, List.getElem?_eq_getElem hlt, List.getD_eq_getElem?_getD]

/-- A field of an object, where its cells are told by a lemma. -/
theorem op_loadT1 {t : TypeId} {x : Operand} {i : TI} {id k : Nat} {cs : List AV} {y : AV} (ho : o.op = .load t x) (hd : o.dst = some d) (hn : Nat.blt d C.n = true)
    (hi : look C.tt t = some i) (hia : i.k.isAgg = false) (hx : evo sl x = some (.ptr id k)) (hob : look ob id = some cs) (hy : cs[k]? = some y) (hK : K ⟨(d, y) :: sl, ob⟩) : OpOk C o K ⟨sl, ob⟩ :=
  ok_loadP1 ho hd hn hi hia hx hob hy hK
theorem op_loadTA {t : TypeId} {x : Operand} {i : TI} {id k : Nat} {cs : List AV} {y : AV} (ho : o.op = .load t x) (hd : o.dst = some d) (hn : Nat.blt d C.n = true)
    (hi : look C.tt t = some i) (hia : i.k.isAgg = true) (hx : evo sl x = some (.ptr id k)) (hob : look ob id = some cs) (hl : Nat.ble (k + i.size) cs.length = true) (hy : mkAgg ((cs.drop k).take i.size) = y)
    (hK : K ⟨(d, y) :: sl, ob⟩) : OpOk C o K ⟨sl, ob⟩ := ok_loadPA ho hd hn hi hia hx hob hl (congrArg some hy) hK
/-- A store whose result is told by a lemma. -/
theorem op_storeT {t : TypeId} {x v : Operand} {i : TI} {id k : Nat} {cs xs ds : List AV} {y : AV} (ho : o.op = .store t x v) (hd : o.dst = none)
    (hi : look C.tt t = some i) (hx : evo sl x = some (.ptr id k)) (hv : evo sl v = some y) (hc : y.cellsA = some xs) (hsz : Nat.beq xs.length i.size = true) (hob : look ob id = some cs) (hl : k + xs.length ≤ cs.length) (hu : updL cs k xs = ds)
    (hK : K ⟨sl, (id, ds) :: ob⟩) : OpOk C o K ⟨sl, ob⟩ := by
  subst hu
  exact ok_store ho hd hi hx hv hc (Nat.eq_of_beq_eq_true hsz) hob hl hK

theorem onesB_map {α : Type} (f : α → PV) (hf : ∀ x, (f x).one = true) : ∀ l : List α, AV.onesB ((l.map f).map .p) = true
  | [] => rfl
  | x :: r => by simp only [List.map_cons, AV.onesB, AV.one, hf x, onesB_map f hf r, Bool.and_self]
/-- A new array, as a row. -/
theorem op_allocL {α : Type} (f : α → PV) (l : List α) {t : TypeId} {i : TI} {sl' : List (Nat × AV)} {ob' : List (Nat × List AV)} (hf : ∀ x, (f x).one = true) (ho : o.op = .alloc t) (hd : o.dst = some d) (hn : Nat.blt d C.n = true)
    (hi : look C.tt t = some i) (hz : zerosA i = (l.map f).map .p) (h1 : dmS (fun i => Nat.beq i d) sl = some sl') (h2 : dmO (fun i => Nat.beq i d) ob = some ob') (hK : K ⟨(d, .ptr d 0) :: sl', (d, (l.map f).map .p) :: ob'⟩) : OpOk C o K ⟨sl, ob⟩ := by
  refine ok_alloc ho hd hn hi ?_ ?_
  · rw [hz]; simp only [AV.cellsA, onesB_map f hf l, cond_true]
  · rw [hz, demL_p]
    have e1 : (demS (fun i => Nat.beq i d) ⟨sl, ob⟩).sl = sl' := (dmS_ok h1).symm
    have e2 : (demS (fun i => Nat.beq i d) ⟨sl, ob⟩).ob = ob' := (dmO_ok h2).symm
    rw [e1, e2]; exact hK
/-- A new object of many cells. -/
theorem op_boxL (cs : List PV) {t : TypeId} {v : Operand} {sl' : List (Nat × AV)} {ob' : List (Nat × List AV)} (ho : o.op = .box t v) (hd : o.dst = some d) (hn : Nat.blt d C.n = true) (hx : evo sl v = some (.p (.agg cs))) (h0 : PV.onesB cs = true)
    (h1 : dmS (fun i => Nat.beq i d) sl = some sl') (h2 : dmO (fun i => Nat.beq i d) ob = some ob') (hK : K ⟨(d, .ptr d 0) :: sl', (d, cs.map .p) :: ob'⟩) : OpOk C o K ⟨sl, ob⟩ := by
  refine ok_box ho hd hn hx (cs := cs.map .p) (by simp only [AV.cellsA, h0, cond_true]) ?_
  rw [demL_p]
  have e1 : (demS (fun i => Nat.beq i d) ⟨sl, ob⟩).sl = sl' := (dmS_ok h1).symm
  have e2 : (demS (fun i => Nat.beq i d) ⟨sl, ob⟩).ob = ob' := (dmO_ok h2).symm
  rw [e1, e2]; exact hK
/-- An array that lies in an object as a row is loaded whole. -/
theorem op_loadAL {α : Type} (f : α → PV) (l : List α) {t : TypeId} {x : Operand} {i : TI} {id : Nat} (ho : o.op = .load t x) (hd : o.dst = some d) (hn : Nat.blt d C.n = true)
    (hi : look C.tt t = some i) (hia : i.k.isAgg = true) (hx : evo sl x = some (.ptr id 0)) (hob : look ob id = some ((l.map f).map .p)) (hl : Nat.beq i.size l.length = true)
    (hK : K ⟨(d, .p (.agg (l.map f))) :: sl, ob⟩) : OpOk C o K ⟨sl, ob⟩ := by
  have hl' := Nat.eq_of_beq_eq_true hl
  refine ok_loadPA ho hd hn hi hia hx hob (by simp [hl']) (y := .p (.agg (l.map f))) (congrArg some ?_) hK
  have e : (((l.map f).map AV.p).drop 0).take i.size = (l.map f).map AV.p := by
    rw [List.drop_zero, hl']; exact List.take_of_length_le (by simp)
  rw [e]
  have ha : ∀ q : List PV, allP (q.map .p) = some q := by
    intro q
    induction q with
    | nil => rfl
    | cons x r ih => simp only [List.map_cons, allP, ih]
  simp only [mkAgg, ha]

theorem allP_map : ∀ q : List PV, allP (q.map .p) = some q
  | [] => rfl
  | x :: r => by simp only [List.map_cons, allP, allP_map r]
/-- A result that is a whole array. -/
theorem resA_AL {α : Type} (f : α → PV) (l : List α) {tt : List (Nat × TI)} {rs : List ResultVar} {s : AS} {c id : Nat} {t : TypeId} {i : TI} (hr : rs = [.cell c t]) (hc : look s.sl c = some (.ptr id 0)) (hob : look s.ob id = some ((l.map f).map .p)) (hi : look tt t = some i) (hia : i.k.isAgg = true)
    (hl : Nat.beq i.size l.length = true) : resA tt rs s = some [.p (.agg (l.map f))] := by
  have hl' := Nat.eq_of_beq_eq_true hl
  subst hr
  have e : (((l.map f).map AV.p).drop 0).take i.size = (l.map f).map AV.p := by
    rw [List.drop_zero, hl']; exact List.take_of_length_le (by simp)
  have e2 : Nat.ble (0 + i.size) ((l.map f).map AV.p).length = true := by simp [hl']
  simp only [resA, hc, hob, hi, hia, cond_true, e, e2, mkAgg, allP_map]
/-- A whole array is stored. -/
theorem op_storeAL {α : Type} (f : α → PV) (l l2 : List α) {t : TypeId} {x v : Operand} {i : TI} {id : Nat} (ho : o.op = .store t x v) (hd : o.dst = none)
    (hi : look C.tt t = some i) (hx : evo sl x = some (.ptr id 0)) (hv : evo sl v = some (.p (.agg (l2.map f)))) (hob : look ob id = some ((l.map f).map .p)) (hf : ∀ x, (f x).one = true) (hl : Nat.beq i.size l.length = true) (hl2 : Nat.beq i.size l2.length = true)
    (hK : K ⟨sl, (id, (l2.map f).map .p) :: ob⟩) : OpOk C o K ⟨sl, ob⟩ := by
  have e1 := Nat.eq_of_beq_eq_true hl
  have e2 := Nat.eq_of_beq_eq_true hl2
  have ho1 : ∀ q : List α, PV.onesB (q.map f) = true := by
    intro q
    induction q with
    | nil => rfl
    | cons x r ih => simp only [List.map_cons, PV.onesB, hf x, ih, Bool.and_self]
  refine op_storeT (xs := (l2.map f).map .p) ho hd hi hx hv (by simp only [AV.cellsA, ho1 l2, cond_true]) (by simp [e2]) hob (by simp; omega) ?_ hK
  unfold updL
  split
  · rename_i y hy
    have h3 := congrArg List.length hy
    simp only [List.length_map, List.length_cons, List.length_nil] at h3
    rw [hy]
    match l, e1 with
    | [z], _ => rfl
    | [], e1 => simp at e1; omega
    | _ :: _ :: _, e1 => simp at e1; omega
  · rw [List.take_zero, List.nil_append, List.drop_eq_nil_of_le (by simp; omega), List.append_nil]

/-- A text is ranged over. -/
theorem op_range {t : TypeId} {x : Operand} {s : List UInt8} {i : TI} {sl' : List (Nat × AV)} {ob' : List (Nat × List AV)} (ho : o.op = .range t x) (hd : o.dst = some d) (hn : Nat.blt d C.n = true)
    (hi : look C.tt t = some i) (hik : i.k = .string) (hx : evo sl x = some (.p (.val (.string ⟨s.toArray⟩)))) (h1 : dmS (Nat.beq · d) sl = some sl') (h2 : dmO (Nat.beq · d) ob = some ob')
    (hK : K ⟨(d, .it d s 0) :: sl', ob'⟩) : OpOk C o K ⟨sl, ob⟩ := by
  obtain ⟨u, hu1, hu2⟩ := und_of C.good hi
  have h3 := kind_string (hu2.trans hik)
  subst h3
  intro g a w hs
  have hdl : d < M1 := by have h1 := Nat.le_of_ble_eq_true C.nl; have h2 : d < C.n := Nat.blt_eq ▸ hn; omega
  unfold Oper.wp
  have hrun : (execOp a.eval o).run C.P w = .ok (.value (.pointer (some ⟨w.heap.size, 0, none⟩))) (w.alloc (.stringIter ⟨s.toArray⟩ 0)) := by
    simp [execOp, ho, Instr.range, evo_val hs hx, run_underlying hu1, newObj, Sem.run, Result.andThen]
  rw [hrun]
  obtain ⟨g', hg'⟩ : ∃ g' : Gh, g' = ⟨fun b o => g.st b o ∨ (b = w.heap.size ∧ o = 0), fun i => if i = d then some w.heap.size else g.ow i⟩ := ⟨_, rfl⟩
  have hsz : (w.alloc (.stringIter ⟨s.toArray⟩ 0)).heap.size = w.heap.size + 1 := by simp
  have hev : Ev w g.st (w.alloc (.stringIter ⟨s.toArray⟩ 0)) g'.st := fun b o h => ⟨by rw [hg']; exact .inl h, World.cell?_alloc_lt w _ _ (hs.lt b o h)⟩
  have hs' : St C.n C.w0 C.F g' (demS (Nat.beq · d) ⟨sl, ob⟩) a (w.alloc (.stringIter ⟨s.toArray⟩ 0)) := by
    subst hg'
    refine hs.evolve (Nat.beq · d) (beq_lo hdl) hev (fun id b hD h => ?_) (fun i j b hi hj => ?_) (fun i b hi => ?_) (fun b o h => ?_) (fun b hb => ?_) rfl rfl rfl (by omega) (fun b hb o => ?_) (fun i hi => ?_)
    · have hne : id ≠ d := fun e => by subst e; simp at hD
      have hlt := (hs.own id b h).1
      exact ⟨by simp only [if_neg hne]; exact h, heap_alloc_lt hlt, fun o h => h.resolve_right fun e => by omega⟩
    · dsimp only at hi hj
      by_cases e1 : i = d <;> by_cases e2 : j = d
      · omega
      · rw [if_pos e1] at hi; rw [if_neg e2] at hj; cases hi; have := (hs.own j _ hj).1; omega
      · rw [if_neg e1] at hi; rw [if_pos e2] at hj; cases hj; have := (hs.own i _ hi).1; omega
      · rw [if_neg e1] at hi; rw [if_neg e2] at hj; exact hs.inj i j b hi hj
    · dsimp only at hi
      by_cases e1 : i = d
      · rw [if_pos e1] at hi; cases hi
        exact ⟨by omega, fun hF => by have := hs.fl _ hF; have := hs.size; omega⟩
      · rw [if_neg e1] at hi; have := hs.own i b hi; exact ⟨by omega, this.2⟩
    · rcases h with h | h
      · have := hs.lt b o h; omega
      · omega
    · exact heap_alloc_lt (by have := hs.fl b hb; have := hs.size; omega)
    · have h1 := hs.fl b hb
      have h2 := hs.size
      exact ⟨fun h => h.resolve_right fun e => by omega, .inl⟩
    · dsimp only
      rw [if_neg (by omega)]
  refine ⟨g', ⟨(d, .it d s 0) :: sl', ob'⟩, ?_, hK⟩
  have hp := hs'.put (d := o.dst) (fun t ht => by rw [hd] at ht; cases ht; exact Nat.blt_eq ▸ hn) (x := .it d s 0) (v := .pointer (some ⟨w.heap.size, 0, none⟩))
    (.it (by rw [hg']; simp) heap_alloc_at (by rw [hg']; exact .inr ⟨rfl, rfl⟩))
  rw [hd] at hp ⊢
  rw [dmS_ok h1, dmO_ok h2]
  exact hp

theorem iter_inv {n : Nat} {w0 : Base} {w : World} {F : Nat → Prop} {g : Gh} {s : AS} {a : Act} (_hs : St n w0 F g s a w) {tok pos : Nat} {l : List UInt8} {v : Value} (h : ARep w g (.it tok l pos) v) :
    ∃ b, v = .pointer (some ⟨b, 0, none⟩) ∧ g.ow tok = some b ∧ w.heap[b]? = some (.stringIter ⟨l.toArray⟩ pos) ∧ g.st b 0 := by
  cases h with
  | it how hb hm => exact ⟨_, rfl, how, hb, hm⟩

/-- The text's end. -/
theorem op_nextE {x : Operand} {s : List UInt8} {tok pos : Nat} (ho : o.op = .next x true) (hd : o.dst = some d) (hn : Nat.blt d C.n = true)
    (hx : evo sl x = some (.it tok s pos)) (hp : ¬ pos < s.length) (hK : K ⟨(d, .tuple [.p (eB false)]) :: sl, ob⟩) : OpOk C o K ⟨sl, ob⟩ := by
  refine ok_one hd hn (fun g a w hs => ?_) hK
  obtain ⟨b, hv, _, hb, _⟩ := iter_inv hs (evo_rep hs hx)
  refine ⟨.tuple #[.bool false], ?_, .tuple rfl fun i c v h1 h2 => ?_⟩
  · have hsz : ¬ pos < (⟨s.toArray⟩ : ByteArray).size := by simpa [ByteArray.size] using hp
    have := Go.Lib.run_next_end_at (P := C.P) w b ⟨s.toArray⟩ pos o.type hb hsz
    simp [execOp, ho, hv, this]
  · match i, h1, h2 with
    | 0, h1, h2 => simp at h1 h2; subst h1 h2; exact .p (.val _)

/-- The next code point, where it is one byte. -/
theorem op_nextA {j : Nat} {s : List UInt8} {tok pos : Nat} {sl' : List (Nat × AV)} {ob' : List (Nat × List AV)} (ho : o.op = .next (.tmp j) true) (hd : o.dst = some d) (hn : Nat.blt d C.n = true) (hj : Nat.blt j C.n = true)
    (hx : evo sl (.tmp j) = some (.it tok s pos)) (htok : Nat.blt tok M1 = true) (hp : pos < s.length) (ha : (s.getD pos 0).toNat < 128) (h1 : dmS (Nat.beq · tok) sl = some sl') (h2 : dmO (Nat.beq · tok) ob = some ob')
    (hdj : Nat.beq d j = false) (hK : K ⟨(d, .tuple [.p (eB true), .p (eI (pos : Int)), .p (eK .i32 ((s.getD pos 0).toNat : Int))]) :: (j, .it tok s (pos + 1)) :: sl', ob'⟩) : OpOk C o K ⟨sl, ob⟩ := by
  intro g a w hs
  obtain ⟨b, hv, how, hb, hm⟩ := iter_inv hs (evo_rep hs hx)
  have htl : tok < M1 := Nat.blt_eq ▸ htok
  have hbl := (hs.own tok b how).1
  unfold Oper.wp
  have hsz : pos < (⟨s.toArray⟩ : ByteArray).size := by simpa [ByteArray.size] using hp
  have hg0 : (⟨s.toArray⟩ : ByteArray)[pos]'hsz = s.getD pos 0 := by
    rw [List.getD_eq_getElem?_getD, List.getElem?_eq_getElem hp]; rfl
  have hnx := Go.Lib.run_next_ascii_at (P := C.P) w b ⟨s.toArray⟩ pos o.type hb hsz (by rw [hg0]; exact ha)
  rw [hg0] at hnx
  have hrun : (execOp a.eval o).run C.P w = .ok (.value (.tuple #[.bool true, .int .i64 pos, .int .i32 (s.getD pos 0).toNat])) (w.iterAt b ⟨s.toArray⟩ (pos + 1)) := by
    simp [execOp, ho, hv, hnx]
  rw [hrun]
  have hheap : ∀ b', b' ≠ b → (w.iterAt b ⟨s.toArray⟩ (pos + 1)).heap[b']? = w.heap[b']? := fun b' hne => by
    simp only [World.iterAt, Array.getElem?_setIfInBounds]
    rw [if_neg (by omega)]
  have hheapb := Go.Lib.iterAt_heap w b ⟨s.toArray⟩ pos (pos + 1) hb
  have hwsz : (w.iterAt b ⟨s.toArray⟩ (pos + 1)).heap.size = w.heap.size := by simp [World.iterAt]
  have hcell : ∀ b' o', (w.iterAt b ⟨s.toArray⟩ (pos + 1)).cell? ⟨b', o', none⟩ = w.cell? ⟨b', o', none⟩ := fun b' o' => by
    by_cases e : b' = b
    · subst e
      simp only [World.cell?, hheapb, hb]
    · simp only [World.cell?, hheap b' e]
  have hs' : St C.n C.w0 C.F g (demS (Nat.beq · tok) ⟨sl, ob⟩) a (w.iterAt b ⟨s.toArray⟩ (pos + 1)) := by
    refine hs.evolve (Nat.beq · tok) (beq_lo htl) (fun b' o' h => ⟨h, hcell b' o'⟩) (fun id b' hD h => ⟨h, hheap b' fun e => ?_, fun o h => h⟩) hs.inj (fun i b' h => by rw [hwsz]; exact hs.own i b' h) (fun b' o' h => by rw [hwsz]; exact hs.lt b' o' h) (fun b' hb' => hheap b' fun e => ?_) rfl rfl rfl (by omega) (fun b' _ o' => Iff.rfl) (fun i _ => rfl)
    · subst e
      have := hs.inj id tok b' h how
      subst this
      simp at hD
    · subst e
      exact (hs.own tok b' how).2 hb'
  have hjd : j < C.n := Nat.blt_eq ▸ hj
  refine ⟨g, ⟨(d, .tuple [.p (eB true), .p (eI (pos : Int)), .p (eK .i32 ((s.getD pos 0).toNat : Int))]) :: (j, .it tok s (pos + 1)) :: sl', ob'⟩, ?_, hK⟩
  have hs2 : St C.n C.w0 C.F g ⟨(j, .it tok s (pos + 1)) :: sl', ob'⟩ a (w.iterAt b ⟨s.toArray⟩ (pos + 1)) := by
    rw [dmS_ok h1, dmO_ok h2]
    refine { hs' with sl := fun i => ?_ }
    simp only [AS.get, look_cons]
    by_cases e : j = i
    · subst e
      rw [if_pos rfl]
      simp only [Option.getD_some]
      have : a.eval (.tmp j) = a.tmps.getD j Go.undef := rfl
      rw [← this, hv]
      exact .it how hheapb hm
    · rw [if_neg e]
      exact hs'.sl i
  have hp2 := hs2.put (d := o.dst) (fun t ht => by rw [hd] at ht; cases ht; exact Nat.blt_eq ▸ hn) (x := .tuple [.p (eB true), .p (eI (pos : Int)), .p (eK .i32 ((s.getD pos 0).toNat : Int))]) (v := .tuple #[.bool true, .int .i64 pos, .int .i32 (s.getD pos 0).toNat])
    (.tuple rfl fun i c v h1 h2 => by
      match i, h1, h2 with
      | 0, h1, h2 => simp at h1 h2; subst h1 h2; exact .p (.val _)
      | 1, h1, h2 => simp at h1 h2; subst h1 h2; exact .p (.val _)
      | 2, h1, h2 => simp at h1 h2; subst h1 h2; exact .p (.val _))
  rw [hd] at hp2 ⊢
  exact hp2
end
end Go.Ab
