/- A layer of abstract values over the model's worlds, part Sm: stacks whose elements have several cells: they grow, an element is stored to in place, they are settled late. It holds for every program. -/
import Derived.Test.YtapfhipodpbflaaGreatDoorAbSk
import Derived.Test.YtapfhipodpbflaaGreatDoorAbPn
import Derived.Test.YtapfhipodpbflaaGreatDoorAbMk
set_option linter.unusedVariables false
set_option linter.unusedSimpArgs false
set_option linter.unnecessarySimpa false
namespace Go.Ab

theorem idx_lt {i n j sz : Nat} (h : i < n) (hj : j < sz) : i * sz + j < n * sz := by
  have := Nat.mul_le_mul_right sz (show i + 1 ≤ n from h)
  rw [Nat.succ_mul] at this; omega

section
variable {C : Cx} {o : Oper} {K : AS → Prop} {sl : List (Nat × AV)} {ob : List (Nat × List AV)} {d : Nat}

theorem skm_grow {es ys : List PV} {t tx e e' : TypeId} {i ie j : TI} {y : Operand} {Y : AV} {k sz : Nat} (D : Nat → Bool) (hDl : ∀ i, D i = true → i < M1) (hDk : D k = true)
    (hi : look C.tt t = some i) (hik : i.k = .slice e) (hie : look C.tt e = some ie) (hj : look C.tt tx = some j) (hjk : j.k = .slice e')
    (hy : evo sl y = some Y) (hY : Y.elems? = some ys) (hszy : ∀ y ∈ ys, y.cells.length = sz) (hsze : ∀ x ∈ es, x.cells.length = sz) (hone : ∀ x ∈ es, ∀ c ∈ x.cells, c.one = true)
    (h1s : ie.size = sz) (h0 : 0 < sz) (hzl : ie.zero.length = ie.size)
    (hlen : (es.length + ys.length) * ie.bytes ≤ 140737488355328) (hlen' : es.length + ys.length ≤ 9223372036854775807)
    {g : Gh} {a : Act} {w : World} (hs : St C.n C.w0 C.F g ⟨sl, ob⟩ a w) (base : Option Addr) (cap : Nat) (olds : List Value)
    (hold : (Builtin.firstCells ie.size es.length (.slice base es.length cap)).run C.P w.drew = .ok olds.toArray w.drew) (hol : olds.length = es.length * sz)
    (hoc : ∀ (i : Nat) x (j : Nat) p, es[i]? = some x → x.cells[j]? = some p → ∃ u, olds[i * sz + j]? = some u ∧ PRep w g.st p u)
    (hg : cap < es.length + ys.length) (ty : TypeId) (hn : Nat.blt d C.n = true) :
    ∃ v w' g', (Builtin.append_ #[t, tx] ty #[.slice base es.length cap, a.eval y]).run C.P w = .ok v w' ∧
      St C.n C.w0 C.F g' ⟨(d, .stk k sz (es ++ ys)) :: (demS D ⟨sl, ob⟩).sl, (demS D ⟨sl, ob⟩).ob⟩ (a.put (some d) v) w' := by
  subst h1s
  obtain ⟨u, h1, h2⟩ := und_of C.good hi
  have h3 := kind_slice (h2.trans hik)
  subst h3
  obtain ⟨u', h1', h2'⟩ := und_of C.good hj
  have h3' := kind_slice (h2'.trans hjk)
  subst h3'
  obtain ⟨info, hf1, hf2, hf3, z, hf4, hf5⟩ := info_of C.good hie
  have hyv := elems_view hY (evo_rep hs hy)
  obtain ⟨news, hsrc, hnews⟩ := src_of (P := C.P) (sz := ie.size) h1' hyv hszy h0
  have hfit := growslice_fits (bytes := ie.bytes) hg hlen
  have hrun := run_append_grow_src w t tx ty e info z h1 hf1 hf4 base es.length cap olds (by rw [hf2]; exact hold) (a.eval y) ys.length news (by rw [hf2]; exact hsrc) hg (by omega) (by rw [hf3]; exact hfit)
  obtain ⟨q, hq⟩ : ∃ q, q = grownCap w (es.length + ys.length) cap e := ⟨_, rfl⟩
  rw [← hq] at hrun
  have hqn : es.length + ys.length ≤ q := by
    rw [hq]; unfold grownCap; simp only [Question.cut]; omega
  have hzs : z.cells.size = ie.size := by rw [← hzl, ← hf5, Array.length_toList]
  have hnl : news.length = ys.length * ie.size := hsrc.newsLen
  obtain ⟨c, hc⟩ : ∃ c, c = (olds ++ news).toArray ++ Builtin.zeroCells z.cells (q - (es.length + ys.length)) := ⟨_, rfl⟩
  rw [← hc] at hrun
  have hcs : c.size = q * ie.size := by
    rw [hc]
    simp only [Array.size_append, List.size_toArray, List.length_append, hol, hnl, size_zeroCells, hzs]
    obtain ⟨r, rfl⟩ : ∃ r, q = es.length + ys.length + r := ⟨q - (es.length + ys.length), by omega⟩
    rw [Nat.add_sub_cancel_left, Nat.add_mul, Nat.add_mul]
  have hf := hs.drew.fresh D hDl k hDk (fun o => o = q * ie.size) c e
  have hev := Ev_alloc (w := w.drew) (T := fun o => o = q * ie.size) (ob := .cells c e) hs.drew.lt
  have hlenA : (es ++ ys).length = es.length + ys.length := List.length_append
  have hrep : ARep (w.drew.alloc (.cells c e)) ⟨fun b o => g.st b o ∨ (b = w.drew.heap.size ∧ o = q * ie.size), fun i => if i = k then some w.drew.heap.size else if D i then none else g.ow i⟩ (.stk k ie.size (es ++ ys)) (.slice (some ⟨w.drew.heap.size, 0, none⟩) (es ++ ys).length q) := by
    refine .stk (by simp) heap_alloc_at hcs (by omega) (fun x hx => ?_) (fun x hx c hc => ?_) (fun o => ?_) (fun i x j p hx hp => ?_)
    · rcases List.mem_append.1 hx with hx | hx
      · exact hsze x hx
      · exact hszy x hx
    · rcases List.mem_append.1 hx with hx | hx
      · exact hone x hx c hc
      · obtain ⟨i, hi⟩ := List.mem_iff_getElem?.1 hx
        obtain ⟨j, hj⟩ := List.mem_iff_getElem?.1 hc
        exact (hnews i x j c hi hj).1
    · constructor
      · rintro (h | ⟨_, h⟩)
        · exact absurd (hs.lt _ _ h) (Nat.lt_irrefl _)
        · exact h
      · intro h; exact .inr ⟨rfl, h⟩
    · have hjl : j < x.cells.length := (List.getElem?_eq_some_iff.1 hp).1
      have hget : ∀ m, m < olds.length + news.length → c[m]? = if m < olds.length then olds[m]? else news[m - olds.length]? := by
        intro m hm
        rw [hc, Array.getElem?_append]
        simp only [List.size_toArray, List.length_append]
        rw [if_pos hm, List.getElem?_toArray, List.getElem?_append]
      rw [List.getElem?_append] at hx
      split at hx
      · rename_i hlt
        rw [hsze x (List.mem_of_getElem? hx)] at hjl
        have := idx_lt hlt hjl
        obtain ⟨u, hu, hr⟩ := hoc i x j p hx hp
        exact ⟨u, by rw [hget _ (by omega), if_pos (by omega)]; exact hu, (PRep.mono (w := w) (w' := w.drew) (st := g.st) (st' := g.st) (fun b o h => ⟨h, rfl⟩) hr).mono hev⟩
      · rename_i hge
        rw [hszy x (List.mem_of_getElem? hx)] at hjl
        have hil : i - es.length < ys.length := (List.getElem?_eq_some_iff.1 hx).1
        have := idx_lt hil hjl
        obtain ⟨k1, u, hu, hr⟩ := hnews (i - es.length) x j p hx hp
        have e1 : i * ie.size + j = es.length * ie.size + ((i - es.length) * ie.size + j) := by
          rw [← Nat.add_assoc, ← Nat.add_mul]; congr 2; omega
        exact ⟨u, by rw [hget _ (by omega), if_neg (by omega), e1, hol, Nat.add_sub_cancel_left]; exact hu, (PRep.mono (w := w) (w' := w.drew) (st := g.st) (st' := g.st) (fun b o h => ⟨h, rfl⟩) hr).mono hev⟩
  rw [hlenA] at hrep
  have hp := hf.put (d := some d) (fun t ht => by cases ht; exact Nat.blt_eq ▸ hn) hrep
  exact ⟨_, _, _, hrun, hp⟩
/-- append to a stack. -/
theorem ok_appendSm {t tx e e' : TypeId} {x y : Operand} {k sz : Nat} {es : List PV} {Y : AV} {ys : List PV} {i ie j : TI} (ho : o.op = .call { callee := .builtin .append, args := #[x, y], argTypes := #[t, tx] }) (hd : o.dst = some d) (hn : Nat.blt d C.n = true)
    (hi : look C.tt t = some i) (hik : i.k = .slice e) (hie : look C.tt e = some ie) (hj : look C.tt tx = some j) (hjk : j.k = .slice e') (hx : evo sl x = some (.stk k sz es)) (hk : Nat.blt k M1 = true)
    (hy : evo sl y = some Y) (hY : Y.elems? = some ys) (hszy : ∀ y ∈ ys, y.cells.length = sz) (hys : 0 < ys.length) (h1s : ie.size = sz) (h0 : Nat.blt 0 sz = true) (hzl : Nat.beq ie.zero.length ie.size = true)
    (hlen : (es.length + ys.length) * ie.bytes ≤ 140737488355328) (hlen' : es.length + ys.length ≤ 9223372036854775807)
    (hK : K ⟨(d, .stk k sz (es ++ ys)) :: (demS (fun i => Nat.beq i k) ⟨sl, ob⟩).sl, (demS (fun i => Nat.beq i k) ⟨sl, ob⟩).ob⟩) : OpOk C o K ⟨sl, ob⟩ := by
  have hzl' := Nat.eq_of_beq_eq_true hzl
  have hk' : k < M1 := Nat.blt_eq ▸ hk
  have h0' : 0 < sz := Nat.blt_eq ▸ h0
  have hDl : ∀ i, (Nat.beq i k) = true → i < M1 := by
    intro i hi
    have := Nat.eq_of_beq_eq_true hi; omega
  intro g a w hs
  have hxr := evo_rep hs hx
  generalize hxv : a.eval x = xv at hxr
  have hrun0 : ∀ v w', (Builtin.append_ #[t, tx] o.type #[xv, a.eval y]).run C.P w = .ok v w' → (execOp a.eval o).run C.P w = .ok (.value v) w' := by
    intro v w' h
    rw [run_builtin ho]
    simp [builtin, hxv, h]
  cases hxr with
  | stkn =>
    obtain ⟨v, w', g', hr', hst'⟩ := skm_grow (es := []) (k := k) (fun i => Nat.beq i k) hDl (by simp) hi hik hie hj hjk hy hY hszy (by simp) (by simp) h1s h0' hzl' hlen hlen' hs none 0 [] (run_firstCells_none w.drew ie.size 0 0 0) (by simp) (fun i x j p hx => by simp at hx) (by simpa using hys) o.type hn
    unfold Oper.wp
    rw [hrun0 _ _ hr']
    simp only [Oper.upon, hd]
    exact ⟨g', _, hst', hK⟩
  | stke =>
    rename_i a0
    obtain ⟨v, w', g', hr', hst'⟩ := skm_grow (es := []) (k := k) (fun i => Nat.beq i k) hDl (by simp) hi hik hie hj hjk hy hY hszy (by simp) (by simp) h1s h0' hzl' hlen hlen' hs (some a0) 0 [] (run_firstCells_some w.drew ie.size 0 a0 0 0 [] (by simp) (by simp)) (by simp) (fun i x j p hx => by simp at hx) (by simpa using hys) o.type hn
    unfold Oper.wp
    rw [hrun0 _ _ hr']
    simp only [Oper.upon, hd]
    exact ⟨g', _, hst', hK⟩
  | stk how hb hcs hlenc hszc hone hst hr =>
    rename_i b cap c e0
    subst h1s
    by_cases hroom : es.length + ys.length ≤ cap
    · obtain ⟨u, h1, h2⟩ := und_of C.good hi
      have h3 := kind_slice (h2.trans hik)
      subst h3
      obtain ⟨u', h1', h2'⟩ := und_of C.good hj
      have h3' := kind_slice (h2'.trans hjk)
      subst h3'
      obtain ⟨info, hf1, hf2, hf3, z, hf4, hf5⟩ := info_of C.good hie
      have hyv := elems_view hY (evo_rep hs hy)
      obtain ⟨news, hsrc, hnews⟩ := src_of (P := C.P) (sz := ie.size) h1' hyv hszy h0'
      have hnl : news.length = ys.length * ie.size := hsrc.newsLen
      have hfit : es.length * ie.size + news.length ≤ c.size := by
        rw [hnl, hcs, ← Nat.add_mul]; exact Nat.mul_le_mul_right _ hroom
      have hstc := run_storeCells_at C.P b (es.length * ie.size) e0 news 0 c w hb (by simpa using hfit) hsrc.one
      simp only [Nat.add_zero] at hstc
      obtain ⟨c', hc'⟩ : ∃ c', c' = (c.toList.take (es.length * ie.size) ++ news ++ c.toList.drop (es.length * ie.size + news.length)).toArray := ⟨_, rfl⟩
      rw [← hc'] at hstc
      have hrr := run_append_room' t tx o.type e info h1 hf1 b es.length cap (a.eval y) ys.length news (by rw [hf2]; exact hsrc) hroom (by rw [hf2]; exact hstc)
      have hcell' : ∀ j, c'[j]? = if es.length * ie.size ≤ j ∧ j < es.length * ie.size + news.length then news[j - es.length * ie.size]? else c[j]? := by
        intro j
        rw [hc']
        have := splice_get c.toList news (es.length * ie.size) (by simpa using hfit) j
        simpa using this
      have hcs' : c'.size = cap * ie.size := by rw [← hcs, hc']; simp; omega
      have hin := hs.inplace (fun i => Nat.beq i k) hDl (k := k) (d := k) how (by simp) (by simp) hb (c' := c') (hcs'.trans hcs.symm) (fun o h => by
        have := (hst o).1 h
        rw [Array.getElem?_eq_none (by omega), Array.getElem?_eq_none (by omega)]) (fun o => o = cap * ie.size) (fun o h => (hst o).1 h)
      have hEv : Ev w g.st (w.setRow b c') (fun b' o => (b' = b ∧ o = cap * ie.size) ∨ (b' ≠ b ∧ g.st b' o)) := by
        intro b' o h
        by_cases e1 : b' = b
        · subst e1
          have ho := (hst o).1 h
          refine ⟨.inl ⟨rfl, ho⟩, ?_⟩
          simp only [World.cell?, setRow_heap w b' c c' e0 (0, 0) hb, hb]
          rw [Array.getElem?_eq_none (by omega), Array.getElem?_eq_none (by omega)]
        · exact ⟨.inr ⟨e1, h⟩, by simp only [World.cell?, setRow_other w b b' c' e1]⟩
      have hlenA : (es ++ ys).length = es.length + ys.length := List.length_append
      have hrep : ARep (w.setRow b c') ⟨fun b' o => (b' = b ∧ o = cap * ie.size) ∨ (b' ≠ b ∧ g.st b' o), fun i => if i = k then some b else if (Nat.beq i k) then none else g.ow i⟩ (.stk k ie.size (es ++ ys)) (.slice (some ⟨b, 0, none⟩) (es ++ ys).length cap) := by
        refine .stk (by simp) (setRow_heap w b c c' e0 (0, 0) hb) hcs' (by omega) (fun x hx => ?_) (fun x hx c hc => ?_) (fun o => ?_) (fun i x j p hx hp => ?_)
        · rcases List.mem_append.1 hx with hx | hx
          · exact hszc x hx
          · exact hszy x hx
        · rcases List.mem_append.1 hx with hx | hx
          · exact hone x hx c hc
          · obtain ⟨i, hi⟩ := List.mem_iff_getElem?.1 hx
            obtain ⟨j, hj⟩ := List.mem_iff_getElem?.1 hc
            exact (hnews i x j c hi hj).1
        · constructor
          · rintro (⟨_, h⟩ | ⟨h, _⟩)
            · exact h
            · exact absurd rfl h
          · intro h; exact .inl ⟨rfl, h⟩
        · have hjl : j < x.cells.length := (List.getElem?_eq_some_iff.1 hp).1
          rw [List.getElem?_append] at hx
          split at hx
          · rename_i hlt
            rw [hszc x (List.mem_of_getElem? hx)] at hjl
            have := idx_lt hlt hjl
            obtain ⟨u, hu, hr⟩ := hr i x j p hx hp
            exact ⟨u, by rw [hcell', if_neg (by omega)]; exact hu, hr.mono hEv⟩
          · rename_i hge
            rw [hszy x (List.mem_of_getElem? hx)] at hjl
            have hil : i - es.length < ys.length := (List.getElem?_eq_some_iff.1 hx).1
            have := idx_lt hil hjl
            obtain ⟨_, u, hu, hr⟩ := hnews (i - es.length) x j p hx hp
            have e1 : i * ie.size + j = es.length * ie.size + ((i - es.length) * ie.size + j) := by
              rw [← Nat.add_assoc, ← Nat.add_mul]; congr 2; omega
            exact ⟨u, by rw [hcell', if_pos (by omega), e1, Nat.add_sub_cancel_left]; exact hu, hr.mono hEv⟩
      rw [hlenA] at hrep
      have hp := hin.put (d := some d) (fun t ht => by cases ht; exact Nat.blt_eq ▸ hn) hrep
      unfold Oper.wp
      rw [hrun0 _ _ hrr]
      simp only [Oper.upon, hd]
      exact ⟨_, _, hp, hK⟩
    · have hle : es.length * ie.size ≤ c.toList.length := by
        have e1 : c.toList.length = cap * ie.size := Array.length_toList.trans hcs
        rw [e1]; exact Nat.mul_le_mul_right _ hlenc
      have hlenT : (c.toList.take (es.length * ie.size)).length = es.length * ie.size := by
        rw [List.length_take]; omega
      have hold : (Builtin.firstCells ie.size es.length (.slice (some ⟨b, 0, none⟩) es.length cap)).run C.P w.drew = .ok (c.toList.take (es.length * ie.size)).toArray w.drew := by
        refine run_firstCells_some w.drew ie.size es.length ⟨b, 0, none⟩ es.length cap _ hlenT (fun j v hv => ?_)
        rw [List.getElem?_take] at hv
        split at hv
        · rw [add_lit, Nat.zero_add, World.cell?_drew]
          simp only [World.cell?, hb]
          simpa using hv
        · cases hv
      obtain ⟨v, w', g', hr', hst'⟩ := skm_grow (es := es) (k := k) (fun i => Nat.beq i k) hDl (by simp) hi hik hie hj hjk hy hY hszy hszc hone rfl h0' hzl' hlen hlen' hs (some ⟨b, 0, none⟩) cap (c.toList.take (es.length * ie.size))
        hold hlenT (fun i x j p hx hp => by
          obtain ⟨u, hu, hr⟩ := hr i x j p hx hp
          have hjl : j < x.cells.length := (List.getElem?_eq_some_iff.1 hp).1
          rw [hszc x (List.mem_of_getElem? hx)] at hjl
          have := idx_lt (List.getElem?_eq_some_iff.1 hx).1 hjl
          exact ⟨u, by rw [List.getElem?_take, if_pos this]; simpa using hu, hr⟩) (by omega) o.type hn
      unfold Oper.wp
      rw [hrun0 _ _ hr']
      simp only [Oper.upon, hd]
      exact ⟨g', _, hst', hK⟩
/-- What is known behind the store of z to the element n of a stack. -/
def upK (tok sz n : Nat) (z : PV) (x : AV) : AV := match x with
  | .stk t s es => bif Nat.beq t tok then (bif Nat.beq s sz then .stk t s (es.set n z) else .undef) else .stk t s es
  | x => x.dem (Nat.beq · tok)
def upKC (tok sz n : Nat) (z : PV) : List AV → Option (List AV)
  | [] => some []
  | x :: r => (match frc (upK tok sz n z x) with
    | some y => (match upKC tok sz n z r with | some l => some (y :: l) | none => none)
    | none => none)
theorem upKC_ok {tok sz n : Nat} {z : PV} : ∀ {l l' : List AV}, upKC tok sz n z l = some l' → l' = l.map (upK tok sz n z)
  | [], l', h => by cases h; rfl
  | x :: r, l', h => by
    unfold upKC at h
    split at h
    · rename_i y hy
      split at h
      · rename_i m hm; cases h; rw [frc_ok hy, upKC_ok hm]; rfl
      · cases h
    · cases h
def upKO (tok sz n : Nat) (z : PV) : List (Nat × List AV) → Option (List (Nat × List AV))
  | [] => some []
  | (i, cs) :: r => (match Nat.beq i tok with
    | true => upKO tok sz n z r
    | false => (match upKC tok sz n z cs with
      | some ds => (match upKO tok sz n z r with | some l => some ((i, ds) :: l) | none => none)
      | none => none))
theorem upKO_look {tok sz n : Nat} {z : PV} : ∀ {l l' : List (Nat × List AV)}, upKO tok sz n z l = some l' → ∀ id cs, look l' id = some cs → id ≠ tok ∧ ∃ ds, look l id = some ds ∧ cs = ds.map (upK tok sz n z)
  | [], l', h, id, cs, hc => by cases h; cases hc
  | (i, xs) :: r, l', h, id, cs, hc => by
    unfold upKO at h
    split at h
    · rename_i hb
      obtain ⟨h1, ds, h2, h3⟩ := upKO_look h id cs hc
      have hi := Nat.eq_of_beq_eq_true hb
      refine ⟨h1, ds, ?_, h3⟩
      rw [look_cons, if_neg (fun e' => h1 (by omega))]
      exact h2
    · rename_i hb
      have hi : i ≠ tok := fun e => by subst e; simp at hb
      split at h
      · rename_i ds hds
        split at h
        · rename_i m hm
          cases h
          rw [look_cons] at hc ⊢
          by_cases e1 : i = id
          · subst e1
            rw [if_pos rfl] at hc ⊢
            cases hc
            exact ⟨hi, xs, rfl, upKC_ok hds⟩
          · rw [if_neg e1] at hc ⊢
            exact upKO_look hm id cs hc
        · cases h
      · cases h
theorem one_of_cellsA {z : PV} (hc : (AV.p z).cellsA = some (z.cells.map .p)) {x : PV} (hx : x ∈ z.cells) : x.one = true := by
  have h9 : PV.onesB z.cells = true ∨ z.one = true := by
    cases z with
    | agg cs =>
      simp only [AV.cellsA] at hc
      cases ho : PV.onesB cs
      · rw [ho] at hc; cases hc
      · exact .inl ho
    | val _ =>
      simp only [AV.cellsA] at hc
      rename_i v0
      cases ho : v0.oneCell'
      · rw [ho] at hc; cases hc
      · exact .inr ho
    | slice _ => exact .inr rfl
    | ifc => exact .inr rfl
    | aint _ => exact .inr rfl
  rcases h9 with h9 | h9
  · exact onesB_mem h9 x hx
  · have : z.cells = [z] := by cases z <;> first | rfl | (simp [PV.one] at h9)
    rw [this] at hx
    rw [List.mem_singleton.1 hx]; exact h9

/-- An element of a stack is stored to, in place. -/
theorem ok_storeSmG {t : TypeId} {x v : Operand} {i : TI} {tok sz n off : Nat} {es : List PV} {z : PV} {Y : AV} {sl' : List (Nat × AV)} {ob' : List (Nat × List AV)} (ho : o.op = .store t x v) (hd : o.dst = none)
    (hi : look C.tt t = some i) (hiz : i.size = sz) (hx : evo sl x = some (.ptr tok off)) (hoff : off = n * sz) (hq : ∀ {g : Gh} {a : Act} {w : World}, St C.n C.w0 C.F g ⟨sl, ob⟩ a w → ∃ u, ARep w g (.stk tok sz es) u) (hn : n < es.length)
    (hv : evo sl v = some Y) (hY : Y.sub (.p z)) (hc : (AV.p z).cellsA = some (z.cells.map .p)) (hcl : Nat.beq z.cells.length sz = true) (htok : Nat.blt tok M1 = true)
    (h1 : sl' = sl.map fun p => (p.1, upK tok sz n z p.2)) (h2 : upKO tok sz n z ob = some ob') (hK : K ⟨sl', ob'⟩) : OpOk C o K ⟨sl, ob⟩ := by
  subst hiz h1 hoff
  have htl : tok < M1 := Nat.blt_eq ▸ htok
  have hcl' := Nat.eq_of_beq_eq_true hcl
  intro g a w hs
  have h5 := evo_rep hs hx
  have h6 : ARep w g (.p z) (a.eval v) := hY _ _ _ (evo_rep hs hv)
  obtain ⟨vq, h7⟩ := hq hs
  obtain ⟨hs1, hs2⟩ := cellsA_spec hc h6
  rw [List.length_map] at hs1
  generalize hev : a.eval x = u at h5
  cases h5 with
  | ptr how =>
  rename_i b
  cases h7 with
  | stkn => simp at hn
  | stke => simp at hn
  | stk how0 k2 hcs hlen hsz hone hst hr =>
    rename_i b0 cap c e
    rw [how] at how0; cases how0
    obtain ⟨p, hpd⟩ : ∃ p, p = n * i.size := ⟨_, rfl⟩
    rw [← hpd] at hev
    have hp : p + i.size ≤ c.size := by
      have := Nat.mul_le_mul_right i.size (show n + 1 ≤ cap by omega)
      rw [Nat.add_mul, Nat.one_mul] at this
      rw [hpd, hcs]; exact this
    have hone1 : ∀ u ∈ (a.eval v).cells.toList, u.oneCell' = true := by
      intro u hu
      obtain ⟨j, hj, rfl⟩ := List.getElem_of_mem hu
      simp only [Array.length_toList] at hj
      exact (hs2 j ((z.cells.map AV.p)[j]'(by simp; omega)) _ (List.getElem?_eq_getElem (by simp; omega)) (by simp [hj])).2
    have hstc := run_storeCells_at C.P b p e (a.eval v).cells.toList 0 c w k2 (by simp; omega) hone1
    simp only [Nat.add_zero, Array.length_toList] at hstc
    obtain ⟨c', hc'⟩ : ∃ c', c' = (c.toList.take p ++ (a.eval v).cells.toList ++ c.toList.drop (p + (a.eval v).cells.size)).toArray := ⟨_, rfl⟩
    rw [← hc'] at hstc
    have hsz' := run_sizeOf C.good hi w
    have hne : (a.eval v).cells.size = i.size := hs1.trans hcl'
    unfold Oper.wp
    have hrun : (execOp a.eval o).run C.P w = .ok .skip (w.setRow b c') := by
      simp [execOp, ho, hev, Instr.storeAt, Instr.sureAddr, storeVar, hsz', hne, hstc]
    rw [hrun]
    simp only [Oper.upon, hd, Act.put]
    have hcell : ∀ j, c'[j]? = if p ≤ j ∧ j < p + i.size then (a.eval v).cells[j - p]? else c[j]? := by
      intro j
      rw [hc']
      have := splice_get c.toList (a.eval v).cells.toList p (by simp; omega) j
      simp only [Array.length_toList, Array.getElem?_toList, hne] at this
      simpa [hne] using this
    have hsize' : c'.size = c.size := by
      rw [hc']; simp; omega
    have hev' : Ev w g.st (w.setRow b c') g.st := by
      intro b2 o2 h2
      by_cases e1 : b2 = b
      · subst e1
        have := (hst o2).1 h2
        refine ⟨h2, ?_⟩
        simp only [World.cell?, k2, setRow_heap w b2 c c' e (0, 0) k2]
        have h7 := hcell o2
        rw [if_neg (by omega)] at h7
        simpa using h7
      · exact ⟨h2, by simp only [World.cell?, setRow_other w b b2 c' e1]⟩
    have hnb : ∀ id b2, Nat.beq id tok = false → g.ow id = some b2 → b2 ≠ b := fun id b2 hD h e => by
      subst e
      have := hs.inj id tok b2 h how
      subst this
      simp at hD
    have hE : EvO (Nat.beq · tok) w g (w.setRow b c') g := by
      refine ⟨hev', fun id b2 _ h => h, fun id b2 c2 e2 hD h h2 => ⟨c2, (setRow_other w b b2 c' (hnb id b2 hD h)).trans h2, rfl⟩, fun id b2 o2 hD h h3 => h3, fun id b2 es2 k2' hD h h2 => (setRow_other w b b2 c' (hnb id b2 hD h)).trans h2, fun i hi => ?_, fun id b2 o2 hD h _ => setRow_other w b b2 c' (hnb id b2 hD h)⟩
      cases hq : Nat.beq i tok
      · rfl
      · have := Nat.eq_of_beq_eq_true hq; have := M1_lt hi; omega
    have hup : ∀ {y : AV} {u : Value}, ARep w g y u → ARep (w.setRow b c') g (upK tok i.size n z y) u := by
      intro y u h
      unfold upK
      split
      · rename_i t s es1
        cases hq : Nat.beq t tok
        · have := h.dem hE
          simpa [AV.dem, hq] using this
        · have e1 := Nat.eq_of_beq_eq_true hq
          subst e1
          simp only [cond_true]
          cases hq2 : Nat.beq s i.size
          · exact .undef _
          · have e2 := Nat.eq_of_beq_eq_true hq2
            subst e2
            simp only [cond_true]
            cases h with
            | stkn => exact .stkn _ _
            | stke => exact .stke _ _ _
            | stk how2 hb2 hcs2 hlen2 hsz2 hone2 hst2 hr2 =>
              rename_i b2 cap2 c2 e2
              rw [how] at how2; cases how2
              rw [k2] at hb2; cases hb2
              have hl : (es1.set n z).length = es1.length := List.length_set
              rw [← hl]
              refine .stk how (setRow_heap w b c c' e (0, 0) k2) (hsize'.trans hcs2) (by omega) (fun x hx => ?_) (fun x hx y hy => ?_) hst2 (fun k x j p1 hx hp1 => ?_)
              · rcases List.mem_or_eq_of_mem_set hx with hx | rfl
                · exact hsz2 x hx
                · exact hcl'
              · rcases List.mem_or_eq_of_mem_set hx with hx | rfl
                · exact hone2 x hx y hy
                · exact one_of_cellsA hc hy
              · rw [List.getElem?_set] at hx
                split at hx
                · rename_i hnk
                  subst hnk
                  split at hx
                  · simp only [Option.some.injEq] at hx
                    subst hx
                    have hjl : j < z.cells.length := (List.getElem?_eq_some_iff.1 hp1).1
                    have hjc : j < (a.eval v).cells.size := by omega
                    have h8 := hs2 j (.p p1) _ (by simp [hp1]) (Array.getElem?_eq_getElem hjc)
                    refine ⟨(a.eval v).cells[j], ?_, ?_⟩
                    · rw [hcell, ← hpd, if_pos ⟨by omega, by omega⟩]
                      rw [show p + j - p = j by omega]
                      exact Array.getElem?_eq_getElem hjc
                    · cases h8.1 with
                      | p hr => exact hr.mono hev'
                  · cases hx
                · rename_i hnk
                  obtain ⟨u, hu, hrr⟩ := hr2 k x j p1 hx hp1
                  have hjl : j < i.size := by rw [← hsz2 x (List.mem_of_getElem? hx)]; exact (List.getElem?_eq_some_iff.1 hp1).1
                  refine ⟨u, ?_, hrr.mono hev'⟩
                  rw [hcell, if_neg ?_]
                  · exact hu
                  · rw [hpd]
                    rcases Nat.lt_or_gt_of_ne hnk with h9 | h9
                    · have := Nat.mul_le_mul_right i.size (show n + 1 ≤ k from h9)
                      rw [Nat.add_mul, Nat.one_mul] at this; omega
                    · have := Nat.mul_le_mul_right i.size (show k + 1 ≤ n from h9)
                      rw [Nat.add_mul, Nat.one_mul] at this; omega
      · exact h.dem hE
    refine ⟨g, ⟨sl.map fun p => (p.1, upK tok i.size n z p.2), ob'⟩, ?_, hK⟩
    refine ⟨hs.nd, hs.sz, fun j => ?_, fun id' cs' h' => ?_, hs.inj, fun j b2 h => ?_, fun b2 o2 h => ?_, hs.fl, fun b2 h => ?_, hs.os, hs.out, hs.tape, ?_, hs.stf, hs.owf, hs.shf.next (fun _ b c e _ _ h => (Shapes_setRow k2 hsize').1 b c e h), hs.nst, hs.ev0.trans hev'⟩
    · have h := hs.sl j
      simp only [AS.get, look_map]
      simp only [AS.get] at h
      cases hl : look sl j with
      | none => simp only [Option.map_none, Option.getD_none]; exact .undef _
      | some x => rw [hl] at h; simpa using hup h
    · obtain ⟨hne', ds, m1, rfl⟩ := upKO_look h2 id' cs' h'
      obtain ⟨b2, c2, e2, n1, n2, n3, n4, n5⟩ := hs.ob id' ds m1
      have hD : Nat.beq id' tok = false := by
        cases hq : Nat.beq id' tok
        · rfl
        · exact absurd (Nat.eq_of_beq_eq_true hq) hne'
      have hb2 := hnb id' b2 hD n1
      refine ⟨b2, c2, e2, n1, (setRow_other w b b2 c' hb2).trans n2, by simpa using n3, n4, fun j y hy => ?_⟩
      simp only [List.getElem?_map, Option.map_eq_some_iff] at hy
      obtain ⟨y0, hy0, rfl⟩ := hy
      obtain ⟨u, hu, hr⟩ := n5 j y0 hy0
      exact ⟨u, hu, hup hr⟩
    · have := hs.own j b2 h; exact ⟨by simpa using this.1, this.2⟩
    · have := hs.lt b2 o2 h; simpa using this
    · have hne : b2 ≠ b := fun e => (hs.own tok b how).2 (e ▸ h)
      exact (setRow_other w b b2 c' hne).trans (hs.fr b2 h)
    · have := hs.size; simpa using this
theorem stk_slot {q tok sz : Nat} {es : List PV} (hq : look sl q = some (.stk tok sz es)) {g : Gh} {a : Act} {w : World} (hs : St C.n C.w0 C.F g ⟨sl, ob⟩ a w) : ∃ u, ARep w g (.stk tok sz es) u := by
  have h7 := hs.sl q
  simp only [AS.get, hq, Option.getD_some] at h7
  exact ⟨_, h7⟩
theorem stk_cell {id j tok sz : Nat} {cs : List AV} {es : List PV} (hq : look ob id = some cs) (hj : cs[j]? = some (.stk tok sz es)) {g : Gh} {a : Act} {w : World} (hs : St C.n C.w0 C.F g ⟨sl, ob⟩ a w) : ∃ u, ARep w g (.stk tok sz es) u := by
  obtain ⟨b2, c2, e2, n1, n2, n3, n4, n5⟩ := hs.ob id cs hq
  obtain ⟨u, _, hr⟩ := n5 j _ hj
  exact ⟨u, hr⟩

/-- The address of an element of a stack. -/
theorem ok_indexAddrSm {t e : TypeId} {x y : Operand} {i ie : TI} {k : IntKind} {n : Int} {id sz : Nat} {es : List PV} (ho : o.op = .indexAddr t x y) (hd : o.dst = some d) (hn : Nat.blt d C.n = true)
    (hi : look C.tt t = some i) (hik : i.k = .slice e) (hie : look C.tt e = some ie) (hx : evo sl x = some (.stk id sz es))
    (hy : evo sl y = some (.p (.val (.int k n)))) (hsz : ie.size = sz) (hb : 0 ≤ n ∧ n < (es.length : Int))
    (hK : K ⟨(d, .ptr id (n.toNat * sz)) :: sl, ob⟩) : OpOk C o K ⟨sl, ob⟩ := by
  obtain ⟨u, h1, h2⟩ := und_of C.good hi
  have h3 := kind_slice (h2.trans hik)
  subst h3
  refine ok_one hd hn (fun g a w hs => ?_) hK
  have h5 := evo_rep hs hx
  generalize hv : a.eval x = v at h5
  cases h5 with
  | stkn => simp at hb; omega
  | stke => simp at hb; omega
  | stk how hb' hcs hlenc hszc hone hst hr =>
    rename_i b cap c e'
    exact ⟨.pointer (some ⟨b, n.toNat * sz, none⟩), by simp [execOp, ho, hv, evo_val hs hy, Instr.indexAt, asIntOf, run_underlying h1, hb.1, hb.2, run_sizeOf C.good hie, hsz, add_lit], .ptr how⟩

/-- A stack is settled, wherever it is named. -/
theorem ghost_settleSm {id sz : Nat} {es : List PV} {q : Nat} {sl' : List (Nat × AV)} {ob' : List (Nat × List AV)} (hid : id < M1) (hq : look sl q = some (.stk id sz es)) (h1 : dmS (Nat.beq · id) sl = some sl') (h2 : dmO (Nat.beq · id) ob = some ob') :
    Ghost C ⟨sl, ob⟩ ⟨(q, .p (.slice es)) :: sl', ob'⟩ := by
  intro g a w hs
  have h6 := hs.sl q
  simp only [AS.get, hq, Option.getD_some] at h6
  have drop : ∀ (st' : Nat → Nat → Prop), (∀ b o, g.st b o → st' b o) → (∀ i b, i ≠ id → g.ow i = some b → ∀ o, st' b o → g.st b o) → (∀ b o, st' b o → b < w.heap.size) → (∀ b, C.F b → ∀ o, st' b o ↔ g.st b o) →
      St C.n C.w0 C.F ⟨st', fun i => if i = id then none else g.ow i⟩ (demS (Nat.beq · id) ⟨sl, ob⟩) a w := by
    intro st' k1 k2 k3 k4
    refine hs.evolve (Nat.beq · id) (beq_lo hid) (fun b o h => ⟨k1 b o h, rfl⟩) (fun i b hD h => ?_) (fun i j b h1 h2 => ?_) (fun i b h => ?_) k3 (fun b h => rfl) rfl rfl rfl (Nat.le_refl _) k4 (fun i hi => ?_)
    · have hne : i ≠ id := fun e => by subst e; simp at hD
      exact ⟨by simp only [if_neg hne]; exact h, rfl, k2 i b hne h⟩
    · dsimp only at h1 h2
      split at h1
      · cases h1
      · split at h2
        · cases h2
        · exact hs.inj i j b h1 h2
    · dsimp only at h
      split at h
      · cases h
      · exact hs.own i b h
    · dsimp only; rw [if_neg (by omega)]
  obtain ⟨g', hs', hrep⟩ : ∃ g', St C.n C.w0 C.F g' (demS (Nat.beq · id) ⟨sl, ob⟩) a w ∧ ARep w g' (.p (.slice es)) (a.tmps.getD q Go.undef) := by
    generalize a.tmps.getD q Go.undef = vq at h6
    cases h6 with
    | stkn => exact ⟨_, drop g.st (fun _ _ h => h) (fun _ _ _ _ _ h => h) hs.lt (fun _ _ _ => Iff.rfl), .p .nils⟩
    | stke => exact ⟨_, drop g.st (fun _ _ h => h) (fun _ _ _ _ _ h => h) hs.lt (fun _ _ _ => Iff.rfl), .p (.nile _)⟩
    | stk how hb hcs hlen hsz hone hst hr =>
      rename_i b cap c e
      have hown := hs.own id b how
      refine ⟨_, drop (fun b' o => g.st b' o ∨ (b' = b ∧ o < es.length * sz)) (fun _ _ h => .inl h) (fun i b' hne h o h2 => ?_) (fun b' o h => ?_) (fun b' hF o => ?_), .p ?_⟩
      · rcases h2 with h2 | ⟨h2, _⟩
        · exact h2
        · subst h2; exact absurd (hs.inj i id b' h how) hne
      · rcases h with h | ⟨h, _⟩
        · exact hs.lt b' o h
        · subst h; exact hown.1
      · constructor
        · rintro (h | ⟨h, _⟩)
          · exact h
          · subst h; exact absurd hF hown.2
        · exact .inl
      · refine .slice sz (fun i j => (c[i * sz + j]?).getD Go.undef) hlen hsz hone (fun i x j p hx hp => ?_) (fun i x j p hx hp => ?_)
        · obtain ⟨v, h3, h4⟩ := hr i x j p hx hp
          have hil : i < es.length := (List.getElem?_eq_some_iff.1 hx).1
          have hjl : j < sz := by have := (List.getElem?_eq_some_iff.1 hp).1; rw [hsz x (List.mem_of_getElem? hx)] at this; exact this
          have := idx_lt hil hjl
          refine ⟨.inr ⟨rfl, by omega⟩, ?_⟩
          simp only [World.cell?, hb, Nat.zero_add]
          rw [h3]
          simp
        · obtain ⟨v, h3, h4⟩ := hr i x j p hx hp
          rw [h3]
          exact h4.mono fun b o h => ⟨.inl h, rfl⟩
  refine ⟨g', ?_⟩
  rw [dmS_ok h1, dmO_ok h2]
  refine { hs' with sl := fun i => ?_ }
  simp only [AS.get, look_cons]
  by_cases e : q = i
  · subst e; rw [if_pos rfl]; exact hrep
  · rw [if_neg e]; exact hs'.sl i

/-- make([]T, 0, m), as a stack. -/
theorem op_makeSm {t e : Nat} {x y : Operand} {i ie : TI} {k k' : IntKind} {m : Int} (ho : o.op = .makeSlice t x y) (hd : o.dst = some d) (hn : Nat.blt d C.n = true)
    (hi : look C.tt t = some i) (hik : i.k = .slice e) (hie : look C.tt e = some ie) (hx : evo sl x = some (.p (.val (.int k 0)))) (hy : evo sl y = some (.p (.val (.int k' m))))
    (hb : 0 ≤ m ∧ m ≤ 9223372036854775807 ∧ (ie.bytes : Int) * m ≤ 281474976710656) {sz : Nat} (hsz : ie.size = sz) {ob' : List (Nat × List AV)} (hob : dmO (fun i => Nat.beq i d) ob = some ob')
    (hK : K ⟨(d, .stk d sz []) :: (demS (fun i => Nat.beq i d) ⟨sl, ob⟩).sl, ob'⟩) : OpOk C o K ⟨sl, ob⟩ := by
  subst hsz
  have e1 := (dmO_ok hob).symm
  have hdl : d < M1 := by have h1 := Nat.le_of_ble_eq_true C.nl; have h2 : d < C.n := Nat.blt_eq ▸ hn; omega
  intro g a w hs
  obtain ⟨c, hc, hrun⟩ := run_make0 C.good hi hik hie k k' hb w
  have hf := hs.fresh (fun i => Nat.beq i d) (fun i hi => by have := Nat.eq_of_beq_eq_true hi; omega) d (by simp) (fun o => o = m.toNat * ie.size) c e
  have hp := hf.put (d := some d) (fun t ht => by cases ht; exact Nat.blt_eq ▸ hn) (x := .stk d ie.size []) (v := .slice (some ⟨w.heap.size, 0, none⟩) 0 m.toNat)
    (.stk (es := []) (cap := m.toNat) (by simp) heap_alloc_at (by simpa using hc) (Nat.zero_le _) (by simp) (by simp) (fun o => by
      constructor
      · rintro (h | ⟨_, h⟩)
        · exact absurd (hs.lt _ _ h) (Nat.lt_irrefl _)
        · exact h
      · intro h; exact .inr ⟨rfl, h⟩) (fun i x j p hx => by simp at hx))
  unfold Oper.wp
  have hrun' : (execOp a.eval o).run C.P w = .ok (.value (.slice (some ⟨w.heap.size, 0, none⟩) 0 m.toNat)) (w.alloc (.cells c e)) := by
    simp only [execOp, ho, evo_val hs hx, evo_val hs hy, Sem.run_bind, hrun, Result.andThen_ok, Sem.run_pure]
  rw [hrun']
  simp only [Oper.upon, hd]
  rw [← show (demS (fun i => Nat.beq i d) ⟨sl, ob⟩).ob = ob' from e1] at hK
  exact ⟨_, _, hp, hK⟩
end
mutual
/-- A stack settled wherever it is named, in structs too. -/
def AV.stl (tok : Nat) : AV → AV
  | .stk t s es => bif Nat.beq t tok then .p (.slice es) else .stk t s es
  | .agg cs => .agg (AV.stlL tok cs)
  | x => x.dem (Nat.beq · tok)
def AV.stlL (tok : Nat) : List AV → List AV
  | [] => []
  | x :: r => x.stl tok :: AV.stlL tok r
end
theorem stlL_eq (tok : Nat) : ∀ l : List AV, AV.stlL tok l = l.map (AV.stl tok)
  | [] => by rw [AV.stlL]; rfl
  | x :: r => by rw [AV.stlL, stlL_eq tok r]; rfl
theorem ARep.stl {tok : Nat} {w : World} {g g' : Gh} (hE : EvO (Nat.beq · tok) w g w g') (hs : ∀ b c e, g.ow tok = some b → w.heap[b]? = some (.cells c e (0, 0)) → ∀ o, o < c.size → g'.st b o)
    {x : AV} {v : Value} (h : ARep w g x v) : ARep w g' (x.stl tok) v := by
  induction h with
  | agg hl h ih =>
    simp only [AV.stl, stlL_eq]
    refine .agg (by simpa using hl) fun i c v h1 h2 => ?_
    rw [List.getElem?_map] at h1
    obtain ⟨x, hx, rfl⟩ := Option.map_eq_some_iff.1 h1
    exact ih i x v hx h2
  | stkn t sz =>
    simp only [AV.stl]
    cases Nat.beq t tok
    · exact .stkn _ _
    · exact .p .nils
  | stke t sz a =>
    simp only [AV.stl]
    cases Nat.beq t tok
    · exact .stke _ _ _
    · exact .p (.nile _)
  | stk how hb hcs hlen hsz hone hst hr =>
    rename_i t sz es b cap c e
    have hd := (ARep.stk how hb hcs hlen hsz hone hst hr).dem hE
    simp only [AV.stl]
    simp only [AV.dem] at hd
    cases hq : Nat.beq t tok
    · rw [hq] at hd; exact hd
    · have := Nat.eq_of_beq_eq_true hq
      subst this
      refine .p (.slice sz (fun i j => (c[i * sz + j]?).getD Go.undef) hlen hsz hone (fun i x j p hx hp => ?_) (fun i x j p hx hp => ?_))
      · obtain ⟨v, h3, h4⟩ := hr i x j p hx hp
        refine ⟨hs b c e how hb _ ?_, ?_⟩
        · have := (Array.getElem?_eq_some_iff.1 h3).1
          omega
        · simp only [World.cell?, hb, Nat.zero_add]
          rw [h3]
          simp
      · obtain ⟨v, h3, h4⟩ := hr i x j p hx hp
        rw [h3]
        exact h4.mono hE.ev
  | undef v => exact (ARep.undef v).dem hE
  | p h => exact (ARep.p h).dem hE
  | vecn a b c => exact (ARep.vecn a b c).dem hE
  | vece a b c => exact (ARep.vece a b c).dem hE
  | vec h1 h2 h3 h4 h5 h6 h7 => exact (ARep.vec h1 h2 h3 h4 h5 h6 h7).dem hE
  | arr h1 h2 h3 h4 => exact (ARep.arr h1 h2 h3 h4).dem hE
  | ptr h1 => exact (ARep.ptr h1).dem hE
  | bptrn h1 h2 h3 => exact (ARep.bptrn h1 h2 h3).dem hE
  | bptr h1 h2 h3 => exact (ARep.bptr h1 h2 h3).dem hE
  | rptr a h1 h2 => exact (ARep.rptr a h1 h2).dem hE
  | tuple hl h _ => exact (ARep.tuple hl h).dem hE
  | func hl h _ => exact (ARep.func hl h).dem hE
  | mp h1 h2 h3 h4 h5 h6 => exact (ARep.mp h1 h2 h3 h4 h5 h6).dem hE
  | mpr h1 h2 h3 h4 h5 h6 _ => exact (ARep.mpr h1 h2 h3 h4 h5 h6).dem hE
  | sem h1 h => exact (ARep.sem h1 h).dem hE
  | it h1 h2 h3 => exact (ARep.it h1 h2 h3).dem hE
  | vecp h1 h2 h3 h4 h5 h6 h7 h8 => exact (ARep.vecp h1 h2 h3 h4 h5 h6 h7 h8).dem hE
  | elp h1 h2 h3 h4 => exact (ARep.elp h1 h2 h3 h4).dem hE
def stlC (tok : Nat) : List AV → Option (List AV)
  | [] => some []
  | x :: r => (match frc (x.stl tok) with
    | some y => (match stlC tok r with | some l => some (y :: l) | none => none)
    | none => none)
theorem stlC_ok {tok : Nat} : ∀ {l l' : List AV}, stlC tok l = some l' → l' = l.map (AV.stl tok)
  | [], l', h => by cases h; rfl
  | x :: r, l', h => by
    unfold stlC at h
    split at h
    · rename_i y hy
      split at h
      · rename_i m hm; cases h; rw [frc_ok hy, stlC_ok hm]; rfl
      · cases h
    · cases h
def stlS (tok : Nat) : List (Nat × AV) → Option (List (Nat × AV))
  | [] => some []
  | (i, x) :: r => (match frc (x.stl tok) with
    | some y => (match stlS tok r with | some l => some ((i, y) :: l) | none => none)
    | none => none)
theorem stlS_ok {tok : Nat} : ∀ {l l' : List (Nat × AV)}, stlS tok l = some l' → l' = l.map fun p => (p.1, p.2.stl tok)
  | [], l', h => by cases h; rfl
  | (i, x) :: r, l', h => by
    unfold stlS at h
    split at h
    · rename_i y hy
      split at h
      · rename_i m hm; cases h; rw [frc_ok hy, stlS_ok hm]; rfl
      · cases h
    · cases h
def stlO (tok : Nat) : List (Nat × List AV) → Option (List (Nat × List AV))
  | [] => some []
  | (i, cs) :: r => (match Nat.beq i tok with
    | true => stlO tok r
    | false => (match stlC tok cs with
      | some ds => (match stlO tok r with | some l => some ((i, ds) :: l) | none => none)
      | none => none))
theorem stlO_look {tok : Nat} : ∀ {l l' : List (Nat × List AV)}, stlO tok l = some l' → ∀ id cs, look l' id = some cs → id ≠ tok ∧ ∃ ds, look l id = some ds ∧ cs = ds.map (AV.stl tok)
  | [], l', h, id, cs, hc => by cases h; cases hc
  | (i, xs) :: r, l', h, id, cs, hc => by
    unfold stlO at h
    split at h
    · rename_i hb
      obtain ⟨h1, ds, h2, h3⟩ := stlO_look h id cs hc
      have hi := Nat.eq_of_beq_eq_true hb
      refine ⟨h1, ds, ?_, h3⟩
      rw [look_cons, if_neg (fun e' => h1 (by omega))]
      exact h2
    · rename_i hb
      have hi : i ≠ tok := fun e => by subst e; simp at hb
      split at h
      · rename_i ds hds
        split at h
        · rename_i m hm
          cases h
          rw [look_cons] at hc ⊢
          by_cases e1 : i = id
          · subst e1
            rw [if_pos rfl] at hc ⊢
            cases hc
            exact ⟨hi, xs, rfl, stlC_ok hds⟩
          · rw [if_neg e1] at hc ⊢
            exact stlO_look hm id cs hc
        · cases h
      · cases h
/-- A stack is settled wherever it is named, in structs and objects too. -/
theorem ghost_stlG {C : Cx} {sl sl' : List (Nat × AV)} {ob ob' : List (Nat × List AV)} (tok : Nat) (hid : Nat.blt tok M1 = true) (h1 : sl' = sl.map fun p => (p.1, p.2.stl tok)) (h2 : stlO tok ob = some ob') :
    Ghost C ⟨sl, ob⟩ ⟨sl', ob'⟩ := by
  have hid' : tok < M1 := Nat.blt_eq ▸ hid
  intro g a w hs
  obtain ⟨st', hst'⟩ : ∃ st' : Nat → Nat → Prop, ∀ b o, st' b o ↔ g.st b o ∨ (g.ow tok = some b ∧ ∃ c e, w.heap[b]? = some (.cells c e (0, 0)) ∧ o < c.size) := ⟨_, fun _ _ => Iff.rfl⟩
  have k1 : ∀ b o, g.st b o → st' b o := fun b o h => (hst' b o).2 (.inl h)
  have k2 : ∀ i b, i ≠ tok → g.ow i = some b → ∀ o, st' b o → g.st b o := fun i b hne h o h2 => by
    rcases (hst' b o).1 h2 with h3 | ⟨h3, _⟩
    · exact h3
    · exact absurd (hs.inj i tok b h h3) hne
  obtain ⟨g', hg', how'⟩ : ∃ g' : Gh, g'.st = st' ∧ ∀ i, g'.ow i = if i = tok then none else g.ow i := ⟨⟨st', fun i => if i = tok then none else g.ow i⟩, rfl, fun _ => rfl⟩
  have hs' : St C.n C.w0 C.F g' (demS (Nat.beq · tok) ⟨sl, ob⟩) a w := by
    refine hs.evolve (Nat.beq · tok) (beq_lo hid') (fun b o h => ⟨by rw [hg']; exact k1 b o h, rfl⟩) (fun i b hD h => ?_) (fun i j b h1 h2 => ?_) (fun i b h => ?_) (fun b o h => ?_) (fun b h => rfl) rfl rfl rfl (Nat.le_refl _) (fun b hF o => ?_) (fun i hi => ?_)
    · have hne : i ≠ tok := fun e => by subst e; simp at hD
      exact ⟨by rw [how', if_neg hne]; exact h, rfl, by rw [hg']; exact k2 i b hne h⟩
    · rw [how'] at h1 h2
      split at h1
      · cases h1
      · split at h2
        · cases h2
        · exact hs.inj i j b h1 h2
    · rw [how'] at h
      split at h
      · cases h
      · exact hs.own i b h
    · rw [hg'] at h
      rcases (hst' b o).1 h with h | ⟨h, _⟩
      · exact hs.lt b o h
      · exact (hs.own tok b h).1
    · rw [hg']
      refine ⟨fun h => ?_, k1 b o⟩
      rcases (hst' b o).1 h with h | ⟨h, _⟩
      · exact h
      · exact absurd hF (hs.own tok b h).2
    · rw [how', if_neg (by omega)]
  have hE : EvO (Nat.beq · tok) w g w g' := by
    refine ⟨fun b o h => ⟨by rw [hg']; exact k1 b o h, rfl⟩, fun id b hD h => ?_, fun id b c e hD h hb => ⟨c, hb, rfl⟩, fun id b o hD h h3 => ?_, fun id b es k hD h hb => hb, fun i hi => ?_, fun _ _ _ _ _ _ => rfl⟩
    · have hne : id ≠ tok := fun e => by subst e; simp at hD
      rw [how', if_neg hne]; exact h
    · have hne : id ≠ tok := fun e => by subst e; simp at hD
      rw [hg'] at h3
      exact k2 id b hne h o h3
    · cases hq : Nat.beq i tok
      · rfl
      · have := Nat.eq_of_beq_eq_true hq; have := M1_lt hi; omega
  have hall : ∀ b c e, g.ow tok = some b → w.heap[b]? = some (.cells c e (0, 0)) → ∀ o, o < c.size → g'.st b o := fun b c e h h2 o h3 => by
    rw [hg']; exact (hst' b o).2 (.inr ⟨h, c, e, h2, h3⟩)
  refine ⟨g', { hs' with sl := fun i => ?_, ob := fun id cs hc => ?_ }⟩
  · have h := hs.sl i
    rw [h1]
    simp only [AS.get, look_map]
    simp only [AS.get] at h
    cases hl : look sl i with
    | none => simp only [Option.map_none, Option.getD_none]; exact .undef _
    | some x => rw [hl] at h; simpa using h.stl hE hall
  · obtain ⟨hne, ds, m1, rfl⟩ := stlO_look h2 id cs hc
    obtain ⟨b2, c2, e2, n1, n2, n3, n4, n5⟩ := hs.ob id ds m1
    refine ⟨b2, c2, e2, by rw [how', if_neg hne]; exact n1, n2, by simpa using n3, fun o h3 => n4 o (k2 id b2 hne n1 o (by rw [← hg']; exact h3)), fun j y hy => ?_⟩
    simp only [List.getElem?_map, Option.map_eq_some_iff] at hy
    obtain ⟨y0, hy0, rfl⟩ := hy
    obtain ⟨u, hu, hr⟩ := n5 j y0 hy0
    exact ⟨u, hu, hr.stl hE hall⟩

theorem ghost_stl {C : Cx} {sl sl' : List (Nat × AV)} {ob ob' : List (Nat × List AV)} (tok : Nat) (hid : Nat.blt tok M1 = true) (h1 : stlS tok sl = some sl') (h2 : stlO tok ob = some ob') :
    Ghost C ⟨sl, ob⟩ ⟨sl', ob'⟩ := ghost_stlG tok hid (stlS_ok h1) h2
mutual
theorem dem_twice (D : Nat → Bool) (tok : Nat) (h : D tok = true) : ∀ x : AV, (x.dem D).dem (Nat.beq · tok) = x.dem D
  | .undef => by simp only [AV.dem]
  | .p _ => by simp only [AV.dem]
  | .agg cs => by simp only [AV.dem]; rw [demL_twice D tok h cs]
  | .tuple cs => by simp only [AV.dem]; rw [demL_twice D tok h cs]
  | .func f cs => by simp only [AV.dem]; rw [demL_twice D tok h cs]
  | .rptr _ => by simp only [AV.dem]
  | .sem _ => by simp only [AV.dem]
  | .vec t _ _ _ | .arr t _ _ _ | .ptr t _ | .bptr _ _ t | .mp t _ | .mpr t _ _ _ _ | .stk t _ _ | .it t _ _ | .vecp t _ _ _ | .elp t _ => by
    cases hd : D t
    · have : Nat.beq t tok = false := by
        cases hb : Nat.beq t tok
        · rfl
        · rw [Nat.eq_of_beq_eq_true hb, h] at hd; cases hd
      simp only [AV.dem, hd, cond_false, this]
    · simp only [AV.dem, hd, cond_true]
theorem demL_twice (D : Nat → Bool) (tok : Nat) (h : D tok = true) : ∀ l : List AV, demL (Nat.beq · tok) (demL D l) = demL D l
  | [] => by simp only [demL]
  | x :: r => by simp only [demL]; rw [dem_twice D tok h x, demL_twice D tok h r]
end
mutual
theorem stl_dem (D : Nat → Bool) (tok : Nat) (h : D tok = true) : ∀ x : AV, (x.dem D).stl tok = x.dem D
  | .agg cs => by simp only [AV.dem, AV.stl]; rw [stlL_dem D tok h cs]
  | .stk t s es => by
    cases hd : D t
    · have : Nat.beq t tok = false := by
        cases hb : Nat.beq t tok
        · rfl
        · rw [Nat.eq_of_beq_eq_true hb, h] at hd; cases hd
      simp only [AV.dem, hd, cond_false, AV.stl, this]
    · simp only [AV.dem, hd, cond_true, AV.stl]
  | .undef => by simp only [AV.dem, AV.stl]
  | .p x => by simp only [AV.dem, AV.stl]
  | .tuple cs => by have := dem_twice D tok h (.tuple cs); simp only [AV.dem] at this; simp only [AV.dem, AV.stl]; exact this
  | .func f cs => by have := dem_twice D tok h (.func f cs); simp only [AV.dem] at this; simp only [AV.dem, AV.stl]; exact this
  | .rptr _ => by simp only [AV.dem, AV.stl]
  | .sem _ => by simp only [AV.dem, AV.stl]
  | .vec t _ _ _ | .arr t _ _ _ | .ptr t _ | .bptr _ _ t | .mp t _ | .mpr t _ _ _ _ | .it t _ _ | .vecp t _ _ _ | .elp t _ => by
    cases hd : D t
    · have : Nat.beq t tok = false := by
        cases hb : Nat.beq t tok
        · rfl
        · rw [Nat.eq_of_beq_eq_true hb, h] at hd; cases hd
      simp only [AV.dem, hd, cond_false, AV.stl, this]
    · simp only [AV.dem, hd, cond_true, AV.stl]
theorem stlL_dem (D : Nat → Bool) (tok : Nat) (h : D tok = true) : ∀ l : List AV, AV.stlL tok (demL D l) = demL D l
  | [] => by simp only [demL, AV.stlL]
  | x :: r => by simp only [demL, AV.stlL]; rw [stl_dem D tok h x, stlL_dem D tok h r]
end

section
variable {C : Cx} {o : Oper} {K : AS → Prop} {sl : List (Nat × AV)} {ob : List (Nat × List AV)} {d : Nat}
/-! ### The rules over plain lists -/
theorem op_appSm {α : Type} (f : α → PV) (l0 l : List α) {t tx e e' : TypeId} {x y : Operand} {k sz : Nat} {Y : AV} {i ie j : TI} {sl' : List (Nat × AV)} {ob' : List (Nat × List AV)} (ho : o.op = .call { callee := .builtin .append, args := #[x, y], argTypes := #[t, tx] }) (hd : o.dst = some d) (hn : Nat.blt d C.n = true)
    (hi : look C.tt t = some i) (hik : i.k = .slice e) (hie : look C.tt e = some ie) (hj : look C.tt tx = some j) (hjk : j.k = .slice e') (hx : evo sl x = some (.stk k sz (l0.map f))) (hk : Nat.blt k M1 = true)
    (hy : evo sl y = some Y) (hY : Y.elems? = some (l.map f)) (hsz : ∀ x, (f x).cells.length = sz) (hys : 0 < l.length) (h1s : ie.size = sz) (h0 : Nat.blt 0 sz = true) (hzl : Nat.beq ie.zero.length ie.size = true) (hby : Nat.blt 0 ie.bytes = true)
    (hlen : (l0.length + l.length) * ie.bytes ≤ 140737488355328) (h1 : dmS (fun i => Nat.beq i k) sl = some sl') (h2 : dmO (fun i => Nat.beq i k) ob = some ob')
    (hK : K ⟨(d, .stk k sz ((l0 ++ l).map f)) :: sl', ob'⟩) : OpOk C o K ⟨sl, ob⟩ := by
  have hby' : 1 ≤ ie.bytes := Nat.succ_le_of_lt (by simpa using hby)
  have h3 : (l0.length + l.length) * 1 ≤ (l0.length + l.length) * ie.bytes := Nat.mul_le_mul_left _ hby'
  refine ok_appendSm ho hd hn hi hik hie hj hjk hx hk hy hY (fun y hy => ?_) (by simpa using hys) h1s h0 hzl (by rw [List.length_map, List.length_map]; exact hlen) (by rw [List.length_map, List.length_map]; omega) ?_
  · obtain ⟨x, _, rfl⟩ := List.mem_map.1 hy
    exact hsz x
  · rw [← List.map_append]
    simp only [demS]
    rw [← dmS_ok h1, ← dmO_ok h2]
    exact hK
theorem op_indexAddrSm {α : Type} (f : α → PV) (l : List α) {t e : TypeId} {x y : Operand} {i ie : TI} {k : IntKind} {n : Int} {id sz : Nat} (ho : o.op = .indexAddr t x y) (hd : o.dst = some d) (hn : Nat.blt d C.n = true)
    (hi : look C.tt t = some i) (hik : i.k = .slice e) (hie : look C.tt e = some ie) (hx : evo sl x = some (.stk id sz (l.map f)))
    (hy : evo sl y = some (.p (.val (.int k n)))) (hsz : ie.size = sz) (hb : 0 ≤ n ∧ n < (l.length : Int)) (hK : K ⟨(d, .ptr id (n.toNat * sz)) :: sl, ob⟩) : OpOk C o K ⟨sl, ob⟩ :=
  ok_indexAddrSm ho hd hn hi hik hie hx hy hsz (by rw [List.length_map]; exact hb) hK
/-- The list behind a store to its element n. -/
def putL {α : Type} (l : List α) (n : Int) (y : α) : List α := l.set n.toNat y
theorem upK_row {α : Type} (f : α → PV) (tok sz : Nat) (l : List α) (n : Int) (y : α) : upK tok sz n.toNat (f y) (.stk tok sz (l.map f)) = .stk tok sz ((putL l n y).map f) := by
  simp [upK, putL, List.map_set]
theorem op_storeSm {α : Type} (f : α → PV) (l : List α) (y : α) (q : Nat) {t : TypeId} {x v : Operand} {i : TI} {tok sz : Nat} {n : Int} {Y : AV} {sl' : List (Nat × AV)} {ob' : List (Nat × List AV)} (ho : o.op = .store t x v) (hd : o.dst = none)
    (hi : look C.tt t = some i) (hiz : i.size = sz) (hx : evo sl x = some (.ptr tok (n.toNat * sz))) (hq : look sl q = some (.stk tok sz (l.map f))) (hb : 0 ≤ n ∧ n < (l.length : Int))
    (hv : evo sl v = some Y) (hY : Y.sub (.p (f y))) (hc : (AV.p (f y)).cellsA = some ((f y).cells.map .p)) (hcl : Nat.beq (f y).cells.length sz = true) (htok : Nat.blt tok M1 = true)
    (h1 : sl' = sl.map fun p => (p.1, upK tok sz n.toNat (f y) p.2)) (h2 : upKO tok sz n.toNat (f y) ob = some ob') (hK : K ⟨sl', ob'⟩) : OpOk C o K ⟨sl, ob⟩ :=
  ok_storeSmG ho hd hi hiz hx rfl (stk_slot hq) (by rw [List.length_map]; omega) hv hY hc hcl htok h1 h2 hK
/-- The same, where a cell of an object names the stack. -/
theorem op_storeSmO {α : Type} (f : α → PV) (l : List α) (y : α) (id j : Nat) {cs : List AV} {t : TypeId} {x v : Operand} {i : TI} {tok sz : Nat} {n : Int} {Y : AV} {sl' : List (Nat × AV)} {ob' : List (Nat × List AV)} (ho : o.op = .store t x v) (hd : o.dst = none)
    (hi : look C.tt t = some i) (hiz : i.size = sz) (hx : evo sl x = some (.ptr tok (n.toNat * sz))) (hq : look ob id = some cs) (hj : cs[j]? = some (.stk tok sz (l.map f))) (hb : 0 ≤ n ∧ n < (l.length : Int))
    (hv : evo sl v = some Y) (hY : Y.sub (.p (f y))) (hc : (AV.p (f y)).cellsA = some ((f y).cells.map .p)) (hcl : Nat.beq (f y).cells.length sz = true) (htok : Nat.blt tok M1 = true)
    (h1 : sl' = sl.map fun p => (p.1, upK tok sz n.toNat (f y) p.2)) (h2 : upKO tok sz n.toNat (f y) ob = some ob') (hK : K ⟨sl', ob'⟩) : OpOk C o K ⟨sl, ob⟩ :=
  ok_storeSmG ho hd hi hiz hx rfl (stk_cell hq hj) (by rw [List.length_map]; omega) hv hY hc hcl htok h1 h2 hK
/-- A step, and what is settled right behind it. -/
theorem op_ghost {s0 s1 s2 : AS} (h : ∀ K' : AS → Prop, K' s1 → OpOk C o K' s0) (hg : Ghost C s1 s2) (hK : K s2) : OpOk C o K s0 := by
  intro g a w hs
  have h1 := h (fun s => s = s1) rfl g a w hs
  unfold Oper.wp at h1 ⊢
  refine upon_mono (fun a' w' hn => ?_) (fun _ _ _ h => h) h1
  obtain ⟨g', s', hs', rfl⟩ := hn
  obtain ⟨g2, hs2⟩ := hg _ _ _ hs'
  exact ⟨g2, _, hs2, hK⟩
/-- A step, and its own stack settled right behind it: no other slot names it. -/
theorem op_ghostD {s s0 : AS} {D : Nat → Bool} {x : AV} {ob1 : List (Nat × List AV)} (tok : Nat) (h : ∀ K' : AS → Prop, K' ⟨(d, x) :: (demS D s).sl, ob1⟩ → OpOk C o K' s0) (hid : Nat.blt tok M1 = true) (hD : D tok = true) (hob : stlO tok ob1 = some ob1)
    (hK : K ⟨(d, x.stl tok) :: (demS D s).sl, ob1⟩) : OpOk C o K s0 := by
  refine op_ghost h (ghost_stlG tok hid ?_ hob) hK
  simp only [demS, List.map_cons, List.map_map]
  congr 1
  refine List.map_congr_left fun p _ => ?_
  simp only [Function.comp, stl_dem D tok hD]
theorem upK_dem (tok sz n : Nat) (z : PV) (x : AV) : upK tok sz n z x = x.dem (Nat.beq · tok) ∨ x.dem (Nat.beq · tok) = .undef := by
  unfold upK
  split
  · rename_i t s es
    cases h : Nat.beq t tok
    · left; simp only [AV.dem, h, cond_false]
    · right; simp only [AV.dem, h, cond_true]
  · exact .inl rfl
/-- A store to an element of a stack; its slots are given up, the objects that name it know of it. -/
theorem op_storeSmD {α : Type} (f : α → PV) (l : List α) (y : α) (id j : Nat) {cs : List AV} {t : TypeId} {x v : Operand} {i : TI} {tok sz : Nat} {n : Int} {Y : AV} {sl' : List (Nat × AV)} {ob1 ob' : List (Nat × List AV)} (ho : o.op = .store t x v) (hd : o.dst = none)
    (hi : look C.tt t = some i) (hiz : i.size = sz) (hx : evo sl x = some (.ptr tok (n.toNat * sz))) (hq : look ob id = some cs) (hj : cs[j]? = some (.stk tok sz (l.map f))) (hb : 0 ≤ n ∧ n < (l.length : Int))
    (hv : evo sl v = some Y) (hY : Y.sub (.p (f y))) (hc : (AV.p (f y)).cellsA = some ((f y).cells.map .p)) (hcl : ∀ x, (f x).cells.length = sz) (htok : Nat.blt tok M1 = true)
    (h1 : sl' = sl.map fun p => (p.1, p.2.dem (Nat.beq · tok))) (h2 : upKO tok sz n.toNat (f y) ob = some ob1) (h3 : ob1 = ob') (hK : K ⟨sl', ob'⟩) : OpOk C o K ⟨sl, ob⟩ := by
  subst h1 h3
  refine op_ghost (s2 := ⟨sl.map fun p => (p.1, p.2.dem (Nat.beq · tok)), ob1⟩) (fun K' hK' => op_storeSmO f l y id j ho hd hi hiz hx hq hj hb hv hY hc (by simp [hcl y]) htok rfl h2 hK') (fun g a w hs => ⟨g, { hs with sl := fun j => ?_ }⟩) hK
  have h := hs.sl j
  simp only [AS.get, look_map] at h ⊢
  cases hl : look sl j with
  | none => simp only [Option.map_none, Option.getD_none]; exact .undef _
  | some x =>
    rw [hl] at h
    simp only [Option.map_some, Option.getD_some] at h ⊢
    rcases upK_dem tok sz n.toNat (f y) x with e | e
    · rw [← e]; exact h
    · rw [e]; exact .undef _
end
end Go.Ab
