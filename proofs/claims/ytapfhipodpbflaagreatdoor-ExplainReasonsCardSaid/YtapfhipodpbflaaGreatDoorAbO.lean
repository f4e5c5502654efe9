/- A layer of abstract values over the model's worlds, part O: more operators. It holds for every program. -/
import Derived.Test.YtapfhipodpbflaaGreatDoorAbX
set_option linter.unusedVariables false
set_option linter.unusedSimpArgs false
set_option linter.unnecessarySimpa false
namespace Go.Ab

theorem run_equalIn_nilslice {P : Program} (w : World) (d : Nat) (t e : TypeId) (a : Option Addr) (l c : Nat) (h : P.underlying t = some (.slice e)) : (Op.equalIn (d + 1) t (.slice a l c) (.slice none 0 0)).run P w = .ok a.isNone w := by
  cases a <;> simp [Op.equalIn, run_underlying h]
theorem run_equal_nilslice {P : Program} (w : World) (t e : TypeId) (a : Option Addr) (l c : Nat) (h : P.underlying t = some (.slice e)) : (Op.equal t (.slice a l c) (.slice none 0 0)).run P w = .ok a.isNone w := run_equalIn_nilslice w 9999 t e a l c h

section
variable {C : Cx} {o : Oper} {K : AS → Prop} {sl : List (Nat × AV)} {ob : List (Nat × List AV)} {d : Nat}

/-- s == nil -/
theorem op_isNil {t t' : TypeId} {x y : Operand} {Y : AV} {es : List PV} {i : TI} {e : Nat} (ho : o.op = .binOp .eql t x y t') (hd : o.dst = some d) (hn : Nat.blt d C.n = true)
    (hi : look C.tt t = some i) (hik : i.k = .slice e) (hx : evo sl x = some Y) (hY : Y.elems? = some es) (hy : evo sl y = some (.p (.val (.slice none 0 0))))
    (hK : ∀ b : Bool, (b = true → es = []) → K ⟨(d, .p (.val (.bool b))) :: sl, ob⟩) : OpOk C o K ⟨sl, ob⟩ := by
  obtain ⟨u, h1, h2⟩ := und_of C.good hi
  have h3 := kind_slice (h2.trans hik)
  subst h3
  intro g a w hs
  have hp := elems_view hY (evo_rep hs hx)
  have hyv := evo_val hs hy
  generalize hxv : a.eval x = v at hp
  have key : ∃ (b : Bool) (ad : Option Addr) (l c : Nat), v = .slice ad l c ∧ b = ad.isNone ∧ (b = true → es = []) := by
    cases hp with
    | nils => exact ⟨true, none, 0, 0, rfl, rfl, fun _ => rfl⟩
    | nile ad => exact ⟨false, some ad, 0, 0, rfl, rfl, fun _ => rfl⟩
    | slice sz cf hcap hsz hone hc hr => exact ⟨false, _, _, _, rfl, rfl, fun h => by cases h⟩
  obtain ⟨b, ad, l, c, rfl, rfl, hb⟩ := key
  have hrun : (execOp a.eval o).run C.P w = .ok (.value (.bool ad.isNone)) w := by
    simp [execOp, ho, hxv, hyv, eqGuard, binOp, run_equal_nilslice _ _ _ _ _ _ h1]
  unfold Oper.wp
  rw [hrun]
  simp only [Oper.upon, hd]
  exact ⟨g, _, hs.put (d := some d) (fun t ht => by cases ht; exact Nat.blt_eq ▸ hn) (.p (.val _)), hK _ hb⟩

/-- An empty literal. -/
theorem op_empty {t e : TypeId} {i ie : TI} (ho : o.op = .buildSlice t 0 #[]) (hd : o.dst = some d) (hn : Nat.blt d C.n = true)
    (hi : look C.tt t = some i) (hik : i.k = .slice e) (hie : look C.tt e = some ie) (hzl : Nat.beq ie.zero.length ie.size = true) (tok sz : Nat)
    (hK : K ⟨(d, .vec tok sz 0 []) :: sl, ob⟩) : OpOk C o K ⟨sl, ob⟩ := by
  obtain ⟨u, h1, h2⟩ := und_of C.good hi
  have h3 := kind_slice (h2.trans hik)
  subst h3
  obtain ⟨j, hj, hj1, hj2, z, hz1, hz2⟩ := info_of C.good hie
  intro g a w hs
  have hrun : (execOp a.eval o).run C.P w = .ok (.value (.slice (some ⟨w.heap.size, 0, none⟩) 0 0)) (w.alloc (.cells #[] e)) := by
    simp [execOp, ho, Instr.buildSlice, run_underlying h1, sizeOf, typeInfo, hj, Instr.fill, newRow]
    congr 2
    apply Array.ext <;> simp
  unfold Oper.wp
  rw [hrun]
  have hst := (hs.settled (fun _ => False) #[] e).put (d := some d) (fun t ht => by cases ht; exact Nat.blt_eq ▸ hn) (.vece tok sz ⟨w.heap.size, 0, none⟩)
  simp only [Oper.upon, hd]
  exact ⟨_, _, hst, hK⟩

/-- An empty literal, as a row that may be written. -/
theorem op_emptyA {t e : TypeId} {i ie : TI} (ho : o.op = .buildSlice t 0 #[]) (hd : o.dst = some d) (hn : Nat.blt d C.n = true)
    (hi : look C.tt t = some i) (hik : i.k = .slice e) (hie : look C.tt e = some ie) (sz : Nat)
    (hK : K ⟨(d, .arr d sz 0 0) :: (demS (fun i => Nat.beq i d) ⟨sl, ob⟩).sl, (d, []) :: (demS (fun i => Nat.beq i d) ⟨sl, ob⟩).ob⟩) : OpOk C o K ⟨sl, ob⟩ := by
  obtain ⟨u, h1, h2⟩ := und_of C.good hi
  have h3 := kind_slice (h2.trans hik)
  subst h3
  obtain ⟨j, hj, hj1, hj2, z, hz1, hz2⟩ := info_of C.good hie
  intro g a w hs
  have hrun : (execOp a.eval o).run C.P w = .ok (.value (.slice (some ⟨w.heap.size, 0, none⟩) 0 0)) (w.alloc (.cells #[] e)) := by
    simp [execOp, ho, Instr.buildSlice, run_underlying h1, sizeOf, typeInfo, hj, Instr.fill, newRow]
    congr 2
    apply Array.ext <;> simp
  unfold Oper.wp
  rw [hrun]
  have hdl : d < M1 := by have h1 := Nat.le_of_ble_eq_true C.nl; have h2 : d < C.n := Nat.blt_eq ▸ hn; omega
  have hf := hs.fresh (fun i => Nat.beq i d) (fun i hi => by have := Nat.eq_of_beq_eq_true hi; omega) d (by simp) (fun _ => False) #[] e
  have hp := hf.put (d := some d) (fun t ht => by cases ht; exact Nat.blt_eq ▸ hn) (x := .arr d sz 0 0) (v := .slice (some ⟨w.heap.size, 0, none⟩) 0 0) (.arr (cap := 0) (by simp) heap_alloc_at (by simp) (Nat.le_refl _))
  simp only [Oper.upon, hd]
  refine ⟨_, ⟨(d, .arr d sz 0 0) :: (demS (fun i => Nat.beq i d) ⟨sl, ob⟩).sl, (d, []) :: (demS (fun i => Nat.beq i d) ⟨sl, ob⟩).ob⟩, { hp with ob := fun id cs' hc => ?_ }, hK⟩
  simp only [look_cons] at hc
  by_cases e1 : d = id
  · subst e1
    simp only [if_true, Option.some.injEq] at hc
    subst hc
    refine ⟨w.heap.size, #[], e, by simp, heap_alloc_at, by simp, fun o ho => ?_, fun i y hy => by simp at hy⟩
    rcases ho with ho | ⟨_, ho⟩
    · exact absurd (hs.lt _ _ ho) (by omega)
    · exact ho
  · rw [if_neg e1] at hc
    exact hp.ob id cs' hc

/-- Rows that are written, of elements of many cells. -/
theorem rowC_len {α : Type} {f : α → PV} {sz : Nat} (hsz : ∀ x, (f x).cells.length = sz) (l : List α) : (rowC f l).length = l.length * sz := by
  unfold rowC
  rw [List.length_map, flatC_len (sz := sz), List.length_map]
  intro e he
  obtain ⟨x, _, rfl⟩ := List.mem_map.1 he
  exact hsz x
theorem rowC_append {α : Type} (f : α → PV) (l q : List α) : (flatC (l.map f ++ q.map f)).map AV.p = rowC f (l ++ q) := by
  unfold rowC; rw [List.map_append]

theorem op_rowN {α : Type} (f : α → PV) (l : List α) {t tx e e' : TypeId} {x y : Operand} {Y : AV} {sz : Nat} {i ie j : TI} (ho : o.op = .call { callee := .builtin .append, args := #[x, y], argTypes := #[t, tx] }) (hd : o.dst = some d) (hn : Nat.blt d C.n = true)
    (hi : look C.tt t = some i) (hik : i.k = .slice e) (hie : look C.tt e = some ie) (hj : look C.tt tx = some j) (hjk : j.k = .slice e') (hx : evo sl x = some (.p (.val (.slice none 0 0))))
    (hy : evo sl y = some Y) (hY : Y.elems? = some (l.map f)) (hiz : ie.size = sz) (hsz : ∀ x, (f x).cells.length = ie.size) (hl : 0 < l.length) (h0 : Nat.blt 0 ie.size = true) (hzl : Nat.beq ie.zero.length ie.size = true) (hby : Nat.blt 0 ie.bytes = true)
    (hlen : l.length * ie.bytes ≤ 140737488355328)
    (hK : K ⟨(d, .arr d sz 0 l.length) :: (demS (fun i => Nat.beq i d) ⟨sl, ob⟩).sl, (d, rowC f l) :: (demS (fun i => Nat.beq i d) ⟨sl, ob⟩).ob⟩) : OpOk C o K ⟨sl, ob⟩ := by
  subst hiz
  have hby' : 1 ≤ ie.bytes := Nat.succ_le_of_lt (by simpa using hby)
  have h1 : l.length * 1 ≤ l.length * ie.bytes := Nat.mul_le_mul_left _ hby'
  exact ok_appendNM ho hd hn hi hik hie hj hjk hx hy hY (fun y hy => by obtain ⟨x, _, rfl⟩ := List.mem_map.1 hy; exact hsz x) (by rw [List.length_map]; exact hl) h0 hzl (by rw [List.length_map]; exact hlen) (by rw [List.length_map]; omega) (by rw [List.length_map]; exact hK)

theorem op_rowA {α : Type} (f : α → PV) (l0 l : List α) {t tx e e' : TypeId} {x y : Operand} {k sz n : Nat} {Y : AV} {i ie j : TI} (ho : o.op = .call { callee := .builtin .append, args := #[x, y], argTypes := #[t, tx] }) (hd : o.dst = some d) (hn : Nat.blt d C.n = true)
    (hi : look C.tt t = some i) (hik : i.k = .slice e) (hie : look C.tt e = some ie) (hj : look C.tt tx = some j) (hjk : j.k = .slice e') (hx : evo sl x = some (.arr k sz 0 n)) (hk : Nat.blt k M1 = true) (hob : look ob k = some (rowC f l0)) (hnl : n = l0.length)
    (hy : evo sl y = some Y) (hY : Y.elems? = some (l.map f)) (hiz : ie.size = sz) (hsz : ∀ x, (f x).cells.length = ie.size) (h0 : Nat.blt 0 ie.size = true) (hzl : Nat.beq ie.zero.length ie.size = true) (hby : Nat.blt 0 ie.bytes = true)
    (hlen : (l0.length + l.length) * ie.bytes ≤ 140737488355328)
    (hK : K ⟨(d, .arr d sz 0 (l0.length + l.length)) :: (demS (fun i => Nat.beq i k || Nat.beq i d) ⟨sl, ob⟩).sl, (d, rowC f (l0 ++ l)) :: (demS (fun i => Nat.beq i k || Nat.beq i d) ⟨sl, ob⟩).ob⟩) : OpOk C o K ⟨sl, ob⟩ := by
  have hby' : 1 ≤ ie.bytes := Nat.succ_le_of_lt (by simpa using hby)
  have h1 : (l0.length + l.length) * 1 ≤ (l0.length + l.length) * ie.bytes := Nat.mul_le_mul_left _ hby'
  have hs : ∀ (l : List α), ∀ y ∈ l.map f, y.cells.length = ie.size := fun l y hy => by obtain ⟨x, _, rfl⟩ := List.mem_map.1 hy; exact hsz x
  exact ok_appendM ho hd hn hi hik hie hj hjk hx hk hob (by rw [List.length_map]; exact hnl) hy hY (hs l) (hs l0) hiz h0 hzl (by rw [List.length_map, List.length_map]; exact hlen) (by rw [List.length_map, List.length_map]; omega)
    (by rw [List.length_map, List.length_map, rowC_append]; exact hK)

theorem rowC_cut {α : Type} [Inhabited α] {f : α → PV} {sz : Nat} (h0 : 0 < sz) (hsz : ∀ x, (f x).cells.length = sz) (l : List α) {n : Nat} (hn : n < l.length) : ((rowC f l).drop (n * sz)).take sz = (f (l.getD n default)).cells.map .p := by
  have hs : ∀ e ∈ l.map f, e.cells.length = sz := fun y hy => by obtain ⟨x, _, rfl⟩ := List.mem_map.1 hy; exact hsz x
  have hm : n * sz + sz ≤ l.length * sz := by rw [← Nat.succ_mul]; exact Nat.mul_le_mul_right _ hn
  have hlen : (rowC f l).length = l.length * sz := rowC_len hsz l
  apply List.ext_getElem?
  intro j
  rw [List.getElem?_take, List.getElem?_map]
  by_cases hj : j < sz
  · rw [if_pos hj, List.getElem?_drop]
    have hcj : j < (f (l.getD n default)).cells.length := by rw [hsz]; exact hj
    have hg := flatC_get hs n (f (l.getD n default)) j _ (map_get f l n default hn) (List.getElem?_eq_getElem hcj)
    rw [rowC, List.getElem?_map, hg, List.getElem?_eq_getElem hcj]
  · rw [if_neg hj, List.getElem?_eq_none (by rw [hsz]; omega)]; rfl
theorem mkAgg_p : ∀ (l : List PV), mkAgg (l.map .p) = .p (.agg l) := by
  have h : ∀ (l : List PV), allP (l.map .p) = some l := by
    intro l
    induction l with
    | nil => rfl
    | cons x r ih => simp only [List.map_cons, allP, ih]
  intro l
  unfold mkAgg
  rw [h]

theorem op_loadRow {α : Type} [Inhabited α] (f : α → PV) (cs : α → List PV) (l : List α) {t : TypeId} {x : Operand} {i : TI} {id sz : Nat} {n : Int} (ho : o.op = .load t x) (hd : o.dst = some d) (hn : Nat.blt d C.n = true)
    (hi : look C.tt t = some i) (hia : i.k.isAgg = true) (hx : evo sl x = some (.ptr id (0 + n.toNat * sz))) (hob : look ob id = some (rowC f l)) (hiz : i.size = sz) (h0 : Nat.blt 0 sz = true) (hb : 0 ≤ n ∧ n < (l.length : Int)) (hcs : ∀ x, (f x).cells = cs x) (hsz : ∀ x, (cs x).length = sz)
    (hK : K ⟨(d, .p (.agg (cs (lat l n)))) :: sl, ob⟩) : OpOk C o K ⟨sl, ob⟩ := by
  subst hiz
  have h0' : 0 < i.size := by simpa using h0
  have hsz' : ∀ x, (f x).cells.length = i.size := fun x => by rw [hcs]; exact hsz x
  have hnl : n.toNat < l.length := by omega
  have hm : n.toNat * i.size + i.size ≤ l.length * i.size := by rw [← Nat.succ_mul]; exact Nat.mul_le_mul_right _ hnl
  refine ok_loadPA ho hd hn hi hia hx hob (Nat.ble_eq_true_of_le (by rw [rowC_len hsz']; omega)) (y := .p (.agg (cs (lat l n)))) ?_ hK
  rw [Nat.zero_add, rowC_cut h0' hsz' l hnl, mkAgg_p, hcs]
  rfl

theorem updL_row {α : Type} {f : α → PV} {sz : Nat} (h0 : 0 < sz) (hsz : ∀ x, (f x).cells.length = sz) (l : List α) {n : Nat} (hn : n < l.length) (y : α) : updL (rowC f l) (n * sz) ((f y).cells.map .p) = rowC f (l.set n y) := by
  have hs : ∀ (l : List α), ∀ e ∈ l.map f, e.cells.length = sz := fun l y hy => by obtain ⟨x, _, rfl⟩ := List.mem_map.1 hy; exact hsz x
  have hm : n * sz + sz ≤ l.length * sz := by rw [← Nat.succ_mul]; exact Nat.mul_le_mul_right _ hn
  have hl1 : ((f y).cells.map AV.p).length = sz := by rw [List.length_map]; exact hsz y
  have hlen : (rowC f l).length = l.length * sz := rowC_len hsz l
  apply List.ext_getElem?
  intro k
  rw [updL_get _ _ _ (by rw [hl1, hlen]; exact hm), hl1]
  by_cases hk : k < l.length * sz
  · have hd : k / sz < l.length := (Nat.div_lt_iff_lt_mul h0).2 hk
    have hr : k % sz < sz := Nat.mod_lt _ h0
    have he : k / sz * sz + k % sz = k := by rw [Nat.mul_comm]; exact Nat.div_add_mod k sz
    have get : ∀ (q : List α) (x : α), q[k / sz]? = some x → (rowC f q)[k]? = ((f x).cells[k % sz]?).map .p := by
      intro q x hq
      have hc : k % sz < (f x).cells.length := by rw [hsz]; exact hr
      have := flatC_get (hs q) (k / sz) (f x) (k % sz) _ (by rw [List.getElem?_map, hq]; rfl) (List.getElem?_eq_getElem hc)
      rw [he] at this
      rw [rowC, List.getElem?_map, this, List.getElem?_eq_getElem hc]
    by_cases h : n * sz ≤ k ∧ k < n * sz + sz
    · rw [if_pos h]
      have hkn : k / sz = n := by
        apply Nat.div_eq_of_lt_le
        · exact h.1
        · rw [Nat.succ_mul]; exact h.2
      rw [get (l.set n y) y (by rw [hkn, List.getElem?_set_self hn]), List.getElem?_map]
      have : k - n * sz = k % sz := by rw [hkn] at he; omega
      rw [this]
    · rw [if_neg h]
      have hkn : ¬ n = k / sz := by
        intro e; apply h; rw [e]; omega
      rw [get l l[k / sz] (List.getElem?_eq_getElem hd), get (l.set n y) l[k / sz] (by rw [List.getElem?_set_ne hkn]; exact List.getElem?_eq_getElem hd)]
  · rw [if_neg (by omega), List.getElem?_eq_none (by omega), List.getElem?_eq_none (by rw [rowC_len hsz, List.length_set]; omega)]

theorem cellsA_agg (l : List PV) (h : PV.onesB l = true) : (AV.p (.agg l)).cellsA = some (l.map .p) := by
  first | rfl | simp [AV.cellsA, h]

theorem op_storeRow {α : Type} [Inhabited α] (f : α → PV) (cs : α → List PV) (l : List α) (y : α) {t : TypeId} {x v : Operand} {i : TI} {id sz : Nat} {n : Int} (ho : o.op = .store t x v) (hd : o.dst = none)
    (hi : look C.tt t = some i) (hx : evo sl x = some (.ptr id (0 + n.toNat * sz))) (hv : evo sl v = some (.p (.agg (cs y)))) (hob : look ob id = some (rowC f l)) (hiz : i.size = sz) (h0 : Nat.blt 0 sz = true) (hb : 0 ≤ n ∧ n < (l.length : Int)) (hcs : ∀ x, (f x).cells = cs x) (hsz : ∀ x, (cs x).length = sz) (hone : ∀ x, PV.onesB (cs x) = true)
    (hK : K ⟨sl, (id, rowC f (l.set n.toNat y)) :: ob⟩) : OpOk C o K ⟨sl, ob⟩ := by
  subst hiz
  have h0' : 0 < i.size := by simpa using h0
  have hsz' : ∀ x, (f x).cells.length = i.size := fun x => by rw [hcs]; exact hsz x
  have hnl : n.toNat < l.length := by omega
  have hm : n.toNat * i.size + i.size ≤ l.length * i.size := by rw [← Nat.succ_mul]; exact Nat.mul_le_mul_right _ hnl
  refine ok_store (xs := (cs y).map .p) ho hd hi hx hv (cellsA_agg _ (hone y)) (by rw [List.length_map]; exact hsz y) hob (by rw [List.length_map, hsz, rowC_len hsz']; omega) ?_
  rw [Nat.zero_add, ← hcs, updL_row h0' hsz' l hnl]
  exact hK

/-- A field of an element of a row is written. -/
theorem updL_field {α : Type} [Inhabited α] {f : α → PV} {cs : α → List PV} {sz : Nat} (h0 : 0 < sz) (hcs : ∀ x, (f x).cells = cs x) (hsz : ∀ x, (cs x).length = sz) (l : List α) {n off : Nat} (hn : n < l.length) (y : α) (xs : List PV) (hoff : off + xs.length ≤ sz)
    (hy : cs y = (cs (l.getD n default)).take off ++ xs ++ (cs (l.getD n default)).drop (off + xs.length)) : updL (rowC f l) (n * sz + off) (xs.map .p) = rowC f (l.set n y) := by
  have hsz' : ∀ x, (f x).cells.length = sz := fun x => by rw [hcs]; exact hsz x
  have hm : n * sz + sz ≤ l.length * sz := by rw [← Nat.succ_mul]; exact Nat.mul_le_mul_right _ hn
  have hlen : (rowC f l).length = l.length * sz := rowC_len hsz' l
  rw [← updL_row h0 hsz' l hn y, hcs]
  have hcut := rowC_cut h0 hsz' l hn
  apply List.ext_getElem?
  intro k
  rw [updL_get _ _ _ (by rw [List.length_map, hlen]; omega), updL_get _ _ _ (by rw [List.length_map, hsz, hlen]; omega), List.length_map, List.length_map, hsz]
  by_cases h : n * sz ≤ k ∧ k < n * sz + sz
  · rw [if_pos h]
    have hs := splice_get (cs (l.getD n default)) xs off (by rw [hsz]; exact hoff) (k - n * sz)
    rw [← hy] at hs
    rw [show (List.map AV.p (cs y))[k - n * sz]? = ((cs y)[k - n * sz]?).map AV.p from List.getElem?_map .., hs]
    by_cases h2 : n * sz + off ≤ k ∧ k < n * sz + off + xs.length
    · rw [if_pos h2, if_pos (by omega), List.getElem?_map]
      rw [show k - (n * sz + off) = k - n * sz - off by omega]
    · rw [if_neg h2, if_neg (by omega)]
      have h3 := congrArg (fun q => q[k - n * sz]?) hcut
      simp only [List.getElem?_take, List.getElem?_drop, List.getElem?_map, hcs] at h3
      rw [if_pos (by omega), show n * sz + (k - n * sz) = k by omega] at h3
      exact h3
  · rw [if_neg h, if_neg (by omega)]

theorem op_storeField {α : Type} [Inhabited α] (f : α → PV) (cs : α → List PV) (l : List α) (y : α) (xs : List PV) {t : TypeId} {x v : Operand} {X : AV} {i : TI} {id sz off : Nat} {n : Int} (ho : o.op = .store t x v) (hd : o.dst = none)
    (hi : look C.tt t = some i) (hx : evo sl x = some (.ptr id (0 + n.toNat * sz + off))) (hv : evo sl v = some X) (hX : X.cellsA = some (xs.map .p)) (hxi : xs.length = i.size) (hob : look ob id = some (rowC f l)) (h0 : Nat.blt 0 sz = true) (hoff : Nat.ble (off + xs.length) sz = true)
    (hb : 0 ≤ n ∧ n < (l.length : Int)) (hcs : ∀ x, (f x).cells = cs x) (hsz : ∀ x, (cs x).length = sz) (hy : cs y = (cs (lat l n)).take off ++ xs ++ (cs (lat l n)).drop (off + xs.length))
    (hK : K ⟨sl, (id, rowC f (l.set n.toNat y)) :: ob⟩) : OpOk C o K ⟨sl, ob⟩ := by
  have h0' : 0 < sz := by simpa using h0
  have hoff' := Nat.le_of_ble_eq_true hoff
  have hsz' : ∀ x, (f x).cells.length = sz := fun x => by rw [hcs]; exact hsz x
  have hnl : n.toNat < l.length := by omega
  have hm : n.toNat * sz + sz ≤ l.length * sz := by rw [← Nat.succ_mul]; exact Nat.mul_le_mul_right _ hnl
  refine ok_store (xs := xs.map .p) ho hd hi hx hv hX (by rw [List.length_map]; exact hxi) hob (by rw [List.length_map, rowC_len hsz']; omega) ?_
  rw [Nat.zero_add, updL_field h0' hcs hsz l hnl y xs hoff' hy]
  exact hK

theorem wrap_in {a : Int} (h : inR a) : IntKind.wrap .i64 a = a := IntWalk.i64_in a h
def dvI : BinOp → Int → Int → Option Int
  | .rem, a, b => some (a.tmod b)
  | .quo, a, b => some (IntKind.wrap .i64 (a.tdiv b))
  | _, _, _ => none
theorem binOp_dv {P : Program} {w : World} {op : BinOp} {t : TypeId} {a b c : Int} (hb : b ≠ 0) (h : dvI op a b = some c) :
    (binOp op t (.int .i64 a) (.int .i64 b)).run P w = .ok (.int .i64 c) w := by
  cases op <;> simp only [dvI, Option.some.injEq, reduceCtorEq] at h <;> subst h <;> simp [binOp, Op.intDiv, hb]
theorem ok_dv {op : BinOp} {t t' : TypeId} {x y : Operand} {a b c : Int} (ho : o.op = .binOp op t x y t') (hd : o.dst = some d) (hn : Nat.blt d C.n = true)
    (hx : evo sl x = some (.p (.val (.int .i64 a)))) (hy : evo sl y = some (.p (.val (.int .i64 b)))) (hc : dvI op a b = some c) (hb : b ≠ 0)
    (hK : K ⟨(d, .p (.val (.int .i64 c))) :: sl, ob⟩) : OpOk C o K ⟨sl, ob⟩ :=
  ok_one hd hn (fun g a w hs => ⟨_, by
    simp only [execOp, ho, evo_val hs hx, evo_val hs hy, Sem.run_bind, eqGuard_int, Result.andThen_ok, binOp_dv hb hc, Sem.run_pure], .p (.val _)⟩) hK
end

end Go.Ab
