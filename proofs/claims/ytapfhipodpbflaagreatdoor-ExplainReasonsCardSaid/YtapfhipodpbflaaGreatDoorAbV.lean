/- A layer of abstract values over the model's worlds, part V: rows of elements of many cells that are written, grow, and are settled. It holds for every program. -/
import Derived.Test.YtapfhipodpbflaaGreatDoorAbU
set_option linter.unusedVariables false
set_option linter.unusedSimpArgs false
set_option linter.unnecessarySimpa false
namespace Go.Ab

def flatC : List PV → List PV
  | [] => []
  | e :: r => e.cells ++ flatC r
theorem flatC_append : ∀ (l q : List PV), flatC (l ++ q) = flatC l ++ flatC q
  | [], q => rfl
  | e :: r, q => by simp [flatC, flatC_append r q]
theorem flatC_len {sz : Nat} : ∀ {es : List PV}, (∀ e ∈ es, e.cells.length = sz) → (flatC es).length = es.length * sz
  | [], _ => by simp [flatC]
  | e :: r, h => by
    have ih := flatC_len (sz := sz) (es := r) (fun x hx => h x (by simp [hx]))
    simp only [flatC, List.length_append, List.length_cons, h e (by simp), ih, Nat.add_mul]; omega
theorem flatC_get {sz : Nat} : ∀ {es : List PV}, (∀ e ∈ es, e.cells.length = sz) → ∀ (i : Nat) e (j : Nat) c, es[i]? = some e → e.cells[j]? = some c → (flatC es)[i * sz + j]? = some c
  | [], _, i, e, j, c, h, _ => by simp at h
  | x :: r, hsz, i, e, j, c, h, hc => by
    have hx := hsz x (by simp)
    cases i with
    | zero =>
      simp only [List.getElem?_cons_zero, Option.some.injEq] at h
      subst h
      have := (List.getElem?_eq_some_iff.1 hc).1
      simp only [flatC, Nat.zero_mul, Nat.zero_add]
      rw [List.getElem?_append_left this]; exact hc
    | succ i =>
      simp only [List.getElem?_cons_succ] at h
      have ih := flatC_get (fun x hx => hsz x (by simp [hx])) i e j c h hc
      simp only [flatC]
      rw [List.getElem?_append_right (by rw [hx, Nat.add_mul]; omega), hx]
      rw [show (i + 1) * sz + j - sz = i * sz + j by rw [Nat.add_mul]; omega]
      exact ih
theorem flatC_inv {sz : Nat} (h0 : 0 < sz) {es : List PV} (hsz : ∀ e ∈ es, e.cells.length = sz) {k : Nat} {c : PV} (h : (flatC es)[k]? = some c) :
    ∃ e, es[k / sz]? = some e ∧ e.cells[k % sz]? = some c ∧ k / sz * sz + k % sz = k := by
  have hk : k < es.length * sz := by rw [← flatC_len hsz]; exact (List.getElem?_eq_some_iff.1 h).1
  have h1 : k / sz < es.length := (Nat.div_lt_iff_lt_mul h0).2 hk
  have h2 : k % sz < sz := Nat.mod_lt _ h0
  have h3 : k / sz * sz + k % sz = k := by rw [Nat.mul_comm]; exact Nat.div_add_mod k sz
  have h4 := hsz es[k / sz] (List.getElem_mem h1)
  have h5 := flatC_get hsz (k / sz) es[k / sz] (k % sz) ((es[k / sz]).cells[k % sz]'(by omega)) (List.getElem?_eq_getElem h1) (List.getElem?_eq_getElem (by omega))
  rw [h3, h] at h5
  exact ⟨_, List.getElem?_eq_getElem h1, by rw [Option.some.inj h5]; exact List.getElem?_eq_getElem (by omega), h3⟩

/-- The cells of a row as an object's. -/
def rowC {α : Type} (f : α → PV) (l : List α) : List AV := (flatC (l.map f)).map .p

section
variable {C : Cx} {o : Oper} {K : AS → Prop} {sl : List (Nat × AV)} {ob : List (Nat × List AV)} {d : Nat}

theorem news_flat {w : World} {st : Nat → Nat → Prop} {sz : Nat} (h0 : 0 < sz) {ys : List PV} {news : List Value} (hsz : ∀ y ∈ ys, y.cells.length = sz)
    (hnews : ∀ (i : Nat) y (j : Nat) c, ys[i]? = some y → y.cells[j]? = some c → c.one = true ∧ ∃ u, news[i * sz + j]? = some u ∧ PRep w st c u) :
    ∀ (k : Nat) c, (flatC ys)[k]? = some c → ∃ u, news[k]? = some u ∧ PRep w st c u := by
  intro k c h
  obtain ⟨e, h1, h2, h3⟩ := flatC_inv h0 hsz h
  obtain ⟨_, u, hu, hr⟩ := hnews _ e _ c h1 h2
  rw [h3] at hu
  exact ⟨u, hu, hr⟩

theorem appM_grow {es ys : List PV} {t tx e e' : TypeId} {i ie j : TI} {y : Operand} {Y : AV} (D : Nat → Bool) (hDl : ∀ i, D i = true → i < M1) (hDd : D d = true)
    (hi : look C.tt t = some i) (hik : i.k = .slice e) (hie : look C.tt e = some ie) (hj : look C.tt tx = some j) (hjk : j.k = .slice e')
    (hy : evo sl y = some Y) (hY : Y.elems? = some ys) (hsz : ∀ y ∈ ys, y.cells.length = ie.size) (hse : ∀ y ∈ es, y.cells.length = ie.size) (h0 : 0 < ie.size) (hzl : ie.zero.length = ie.size)
    (hlen : (es.length + ys.length) * ie.bytes ≤ 140737488355328) (hlen' : es.length + ys.length ≤ 9223372036854775807)
    {g : Gh} {a : Act} {w : World} (hs : St C.n C.w0 C.F g ⟨sl, ob⟩ a w) (base : Option Addr) (cap : Nat) (olds : List Value)
    (hold : (Builtin.firstCells ie.size es.length (.slice base es.length cap)).run C.P w.drew = .ok olds.toArray w.drew) (hol : olds.length = es.length * ie.size)
    (hoc : ∀ (i : Nat) x, (flatC es)[i]? = some x → ∃ u, olds[i]? = some u ∧ PRep w g.st x u)
    (hg : cap < es.length + ys.length) (ty : TypeId) (hn : Nat.blt d C.n = true) :
    ∃ v w' g', (Builtin.append_ #[t, tx] ty #[.slice base es.length cap, a.eval y]).run C.P w = .ok v w' ∧
      St C.n C.w0 C.F g' ⟨(d, .arr d ie.size 0 (es.length + ys.length)) :: (demS D ⟨sl, ob⟩).sl, (d, (flatC (es ++ ys)).map .p) :: (demS D ⟨sl, ob⟩).ob⟩ (a.put (some d) v) w' := by
  obtain ⟨u, h1, h2⟩ := und_of C.good hi
  have h3 := kind_slice (h2.trans hik)
  subst h3
  obtain ⟨u', h1', h2'⟩ := und_of C.good hj
  have h3' := kind_slice (h2'.trans hjk)
  subst h3'
  obtain ⟨info, hf1, hf2, hf3, z, hf4, hf5⟩ := info_of C.good hie
  have hyv := elems_view hY (evo_rep hs hy)
  obtain ⟨news, hsrc, hnews⟩ := src_of (P := C.P) (sz := ie.size) h1' hyv hsz h0
  have hnf := news_flat h0 hsz hnews
  have hfit := growslice_fits (bytes := ie.bytes) hg hlen
  have hrun := run_append_grow_src w t tx ty e info z h1 hf1 hf4 base es.length cap olds (by rw [hf2]; exact hold) (a.eval y) ys.length news (by rw [hf2]; exact hsrc) hg (by omega) (by rw [hf3]; exact hfit)
  obtain ⟨q, hq⟩ : ∃ q, q = grownCap w (es.length + ys.length) cap e := ⟨_, rfl⟩
  rw [← hq] at hrun
  have hqn : es.length + ys.length ≤ q := by
    rw [hq]; unfold grownCap; simp only [Question.cut]; omega
  have hzs : z.cells.size = ie.size := by rw [← hzl, ← hf5, Array.length_toList]
  have hnl : news.length = ys.length * ie.size := hsrc.newsLen
  obtain ⟨c, hc⟩ : ∃ c, c = (olds ++ news).toArray ++ Builtin.zeroCells z.cells (q - (es.length + ys.length)) := ⟨_, rfl⟩
  rw [← hc] at hrun
  have hcs : c.size = q * ie.size := by
    rw [hc]
    simp only [Array.size_append, List.size_toArray, List.length_append, hol, hsrc.newsLen, size_zeroCells, hzs]
    rw [← Nat.add_mul, ← Nat.add_mul]; congr 1; omega
  have hfl : (flatC (es ++ ys)).length = (es.length + ys.length) * ie.size := by
    rw [flatC_len (sz := ie.size), List.length_append]
    intro e he
    rcases List.mem_append.1 he with h | h
    · exact hse e h
    · exact hsz e h
  have hqm : (es.length + ys.length) * ie.size ≤ q * ie.size := Nat.mul_le_mul_right _ hqn
  have hf := hs.drew.fresh D hDl d hDd (fun _ => False) c e
  have hp := hf.put (d := some d) (fun t ht => by cases ht; exact Nat.blt_eq ▸ hn) (x := .arr d ie.size 0 (es.length + ys.length)) (v := .slice (some ⟨w.drew.heap.size, 0, none⟩) (es.length + ys.length) q)
    (.arr (by simp) heap_alloc_at (by omega) hqn)
  have hev := Ev_alloc (w := w.drew) (T := fun _ => False) (ob := .cells c e) hs.drew.lt
  have hob := hp.addOb (d := d) (cs := (flatC (es ++ ys)).map .p) (by
    refine ⟨w.drew.heap.size, c, e, by simp, heap_alloc_at, by simp only [List.length_map]; omega, fun o ho => ?_, fun i x hx => ?_⟩
    · rcases ho with ho | ⟨_, ho⟩
      · exact absurd (hs.lt _ _ ho) (Nat.lt_irrefl _)
      · exact ho
    · simp only [List.getElem?_map, Option.map_eq_some_iff] at hx
      obtain ⟨y, hy, rfl⟩ := hx
      have hil : i < (flatC (es ++ ys)).length := (List.getElem?_eq_some_iff.1 hy).1
      rw [hfl, Nat.add_mul] at hil
      have hget : c[i]? = if i < es.length * ie.size then olds[i]? else news[i - es.length * ie.size]? := by
        rw [hc, Array.getElem?_append]
        simp only [List.size_toArray, List.length_append, hol, hnl]
        rw [if_pos hil, List.getElem?_toArray, List.getElem?_append, hol]
      rw [flatC_append, List.getElem?_append, flatC_len hse] at hy
      split at hy
      · rename_i hlt
        obtain ⟨u, hu, hr⟩ := hoc i y hy
        exact ⟨u, by rw [hget, if_pos hlt]; exact hu, .p ((PRep.mono (w := w) (w' := w.drew) (st := g.st) (st' := g.st) (fun b o h => ⟨h, rfl⟩) hr).mono hev)⟩
      · rename_i hge
        obtain ⟨u, hu, hr⟩ := hnf (i - es.length * ie.size) y hy
        exact ⟨u, by rw [hget, if_neg hge]; exact hu, .p ((PRep.mono (w := w) (w' := w.drew) (st := g.st) (st' := g.st) (fun b o h => ⟨h, rfl⟩) hr).mono hev)⟩)
  exact ⟨_, _, _, hrun, hob⟩

theorem ok_appendM {t tx e e' : TypeId} {x y : Operand} {k sz : Nat} {es : List PV} {n : Nat} {Y : AV} {ys : List PV} {i ie j : TI} (ho : o.op = .call { callee := .builtin .append, args := #[x, y], argTypes := #[t, tx] }) (hd : o.dst = some d) (hn : Nat.blt d C.n = true)
    (hi : look C.tt t = some i) (hik : i.k = .slice e) (hie : look C.tt e = some ie) (hj : look C.tt tx = some j) (hjk : j.k = .slice e') (hx : evo sl x = some (.arr k sz 0 n)) (hk : Nat.blt k M1 = true) (hob : look ob k = some ((flatC es).map .p)) (hnl : n = es.length)
    (hy : evo sl y = some Y) (hY : Y.elems? = some ys) (hsz : ∀ y ∈ ys, y.cells.length = ie.size) (hse : ∀ y ∈ es, y.cells.length = ie.size) (h1s : ie.size = sz) (h0 : Nat.blt 0 ie.size = true) (hzl : Nat.beq ie.zero.length ie.size = true)
    (hlen : (es.length + ys.length) * ie.bytes ≤ 140737488355328) (hlen' : es.length + ys.length ≤ 9223372036854775807)
    (hK : K ⟨(d, .arr d sz 0 (es.length + ys.length)) :: (demS (fun i => Nat.beq i k || Nat.beq i d) ⟨sl, ob⟩).sl, (d, (flatC (es ++ ys)).map .p) :: (demS (fun i => Nat.beq i k || Nat.beq i d) ⟨sl, ob⟩).ob⟩) : OpOk C o K ⟨sl, ob⟩ := by
  subst hnl h1s
  have h0' : 0 < ie.size := by simpa using h0
  have hzl' := Nat.eq_of_beq_eq_true hzl
  have hk' : k < M1 := Nat.blt_eq ▸ hk
  have hdl : d < M1 := by have h1 := Nat.le_of_ble_eq_true C.nl; have h2 : d < C.n := Nat.blt_eq ▸ hn; omega
  have hDl : ∀ i, (Nat.beq i k || Nat.beq i d) = true → i < M1 := by
    intro i hi
    simp only [Bool.or_eq_true] at hi
    rcases hi with hi | hi <;> (have := Nat.eq_of_beq_eq_true hi; omega)
  have hfl0 : (flatC es).length = es.length * ie.size := flatC_len hse
  have hfl : (flatC (es ++ ys)).length = es.length * ie.size + ys.length * ie.size := by
    rw [flatC_append, List.length_append, flatC_len hse, flatC_len hsz]
  intro g a w hs
  have hxr := evo_rep hs hx
  generalize hxv : a.eval x = xv at hxr
  have hrun0 : ∀ v w', (Builtin.append_ #[t, tx] o.type #[xv, a.eval y]).run C.P w = .ok v w' → (execOp a.eval o).run C.P w = .ok (.value v) w' := by
    intro v w' h
    rw [run_builtin ho]
    simp [builtin, hxv, h]
  cases hxr with
  | arr how hb hcs hn' =>
    rename_i b cap c e0
    obtain ⟨b', c1, e1, k1, k2, k3, k4, k5⟩ := hs.ob k _ hob
    rw [how] at k1; cases k1
    rw [hb] at k2; cases k2
    simp only [Nat.zero_add] at hcs
    have hcell : ∀ (i : Nat) x, (flatC es)[i]? = some x → ∃ u, c[i]? = some u ∧ PRep w g.st x u := by
      intro i x hx
      obtain ⟨u, hu, hr⟩ := k5 i (.p x) (by simp [hx])
      cases hr with | p hr => exact ⟨u, hu, hr⟩
    by_cases hroom : es.length + ys.length ≤ cap
    · obtain ⟨u, h1, h2⟩ := und_of C.good hi
      have h3 := kind_slice (h2.trans hik)
      subst h3
      obtain ⟨u', h1', h2'⟩ := und_of C.good hj
      have h3' := kind_slice (h2'.trans hjk)
      subst h3'
      obtain ⟨info, hf1, hf2, hf3, z, hf4, hf5⟩ := info_of C.good hie
      have hyv := elems_view hY (evo_rep hs hy)
      obtain ⟨news, hsrc, hnews⟩ := src_of (P := C.P) (sz := ie.size) h1' hyv hsz h0'
      have hnf := news_flat h0' hsz hnews
      have hnl : news.length = ys.length * ie.size := hsrc.newsLen
      have hrm : es.length * ie.size + ys.length * ie.size ≤ cap * ie.size := by rw [← Nat.add_mul]; exact Nat.mul_le_mul_right _ hroom
      have hstc := run_storeCells_at C.P b (es.length * ie.size) e0 news 0 c w hb (by simp; omega) hsrc.one
      simp only [Nat.add_zero] at hstc
      obtain ⟨c', hc'⟩ : ∃ c', c' = (c.toList.take (es.length * ie.size) ++ news ++ c.toList.drop (es.length * ie.size + news.length)).toArray := ⟨_, rfl⟩
      rw [← hc'] at hstc
      have hrr := run_append_room' t tx o.type e info h1 hf1 b es.length cap (a.eval y) ys.length news (by rw [hf2]; exact hsrc) hroom (by rw [hf2]; exact hstc)
      have hcell' : ∀ j, c'[j]? = if es.length * ie.size ≤ j ∧ j < es.length * ie.size + news.length then news[j - es.length * ie.size]? else c[j]? := by
        intro j
        rw [hc']
        have := splice_get c.toList news (es.length * ie.size) (by simp; omega) j
        simpa using this
      have hcs' : c'.size = cap * ie.size := by rw [← hcs, hc']; simp; omega
      have hin := hs.inplace (fun i => Nat.beq i k || Nat.beq i d) hDl (k := k) (d := d) how (by simp) (by simp) hb (c' := c') (hcs'.trans hcs.symm) (fun o h => absurd h (k4 o)) (fun _ => False) (fun o h => k4 o h)
      have hp := hin.put (d := some d) (fun t ht => by cases ht; exact Nat.blt_eq ▸ hn) (x := .arr d ie.size 0 (es.length + ys.length)) (v := .slice (some ⟨b, 0, none⟩) (es.length + ys.length) cap)
        (.arr (by simp) (setRow_heap w b c c' e0 (0, 0) hb) (by omega) hroom)
      have hEv : Ev w g.st (w.setRow b c') (fun b' o => (b' = b ∧ False) ∨ (b' ≠ b ∧ g.st b' o)) := by
        intro b' o h
        have hne : b' ≠ b := fun e => k4 o (e ▸ h)
        exact ⟨.inr ⟨hne, h⟩, by simp only [World.cell?, setRow_other w b b' c' hne]⟩
      have hfin := hp.addOb (d := d) (cs := (flatC (es ++ ys)).map .p) (by
        refine ⟨b, c', e0, by simp, setRow_heap w b c c' e0 (0, 0) hb, by simp only [List.length_map]; omega, fun o ho => ?_, fun i x hx => ?_⟩
        · rcases ho with ⟨_, ho⟩ | ⟨ho, _⟩
          · exact ho
          · exact ho rfl
        · simp only [List.getElem?_map, Option.map_eq_some_iff] at hx
          obtain ⟨y, hy, rfl⟩ := hx
          have hil : i < (flatC (es ++ ys)).length := (List.getElem?_eq_some_iff.1 hy).1
          rw [flatC_append, List.getElem?_append, hfl0] at hy
          split at hy
          · rename_i hlt
            obtain ⟨u, hu, hr⟩ := hcell i y hy
            exact ⟨u, by rw [hcell', if_neg (by omega)]; exact hu, .p (hr.mono hEv)⟩
          · rename_i hge
            obtain ⟨u, hu, hr⟩ := hnf (i - es.length * ie.size) y hy
            exact ⟨u, by rw [hcell', if_pos (by omega)]; exact hu, .p (hr.mono hEv)⟩)
      unfold Oper.wp
      rw [hrun0 _ _ hrr]
      simp only [Oper.upon, hd]
      exact ⟨_, _, hfin, hK⟩
    · have hlenT : (c.toList.take (es.length * ie.size)).length = es.length * ie.size := by
        have hr1 : es.length * ie.size ≤ cap * ie.size := Nat.mul_le_mul_right _ hn'
        rw [List.length_take, show c.toList.length = cap * ie.size from Array.length_toList.trans hcs]; omega
      have hold : (Builtin.firstCells ie.size es.length (.slice (some ⟨b, 0, none⟩) es.length cap)).run C.P w.drew = .ok (c.toList.take (es.length * ie.size)).toArray w.drew := by
        refine run_firstCells_some w.drew ie.size es.length ⟨b, 0, none⟩ es.length cap _ hlenT (fun j v hv => ?_)
        rw [List.getElem?_take] at hv
        split at hv
        · rw [add_lit, Nat.zero_add, World.cell?_drew]
          simp only [World.cell?, hb]
          simpa using hv
        · cases hv
      obtain ⟨v, w', g', hr', hst'⟩ := appM_grow (es := es) (fun i => Nat.beq i k || Nat.beq i d) hDl (by simp) hi hik hie hj hjk hy hY hsz hse h0' hzl' hlen hlen' hs (some ⟨b, 0, none⟩) cap (c.toList.take (es.length * ie.size))
        hold hlenT (fun i x hx => by
          obtain ⟨u, hu, hr⟩ := hcell i x hx
          have := (List.getElem?_eq_some_iff.1 hx).1
          exact ⟨u, by rw [List.getElem?_take, if_pos (by omega)]; simpa using hu, hr⟩) (by omega) o.type hn
      unfold Oper.wp
      rw [hrun0 _ _ hr']
      simp only [Oper.upon, hd]
      exact ⟨g', _, hst', hK⟩

/-- append of something to a slice that is nil: a row that is to be written. -/
theorem ok_appendNM {t tx e e' : TypeId} {x y : Operand} {Y : AV} {ys : List PV} {i ie j : TI} (ho : o.op = .call { callee := .builtin .append, args := #[x, y], argTypes := #[t, tx] }) (hd : o.dst = some d) (hn : Nat.blt d C.n = true)
    (hi : look C.tt t = some i) (hik : i.k = .slice e) (hie : look C.tt e = some ie) (hj : look C.tt tx = some j) (hjk : j.k = .slice e') (hx : evo sl x = some (.p (.val (.slice none 0 0))))
    (hy : evo sl y = some Y) (hY : Y.elems? = some ys) (hsz : ∀ y ∈ ys, y.cells.length = ie.size) (hys : 0 < ys.length) (h0 : Nat.blt 0 ie.size = true) (hzl : Nat.beq ie.zero.length ie.size = true)
    (hlen : ys.length * ie.bytes ≤ 140737488355328) (hlen' : ys.length ≤ 9223372036854775807)
    (hK : K ⟨(d, .arr d ie.size 0 ys.length) :: (demS (fun i => Nat.beq i d) ⟨sl, ob⟩).sl, (d, (flatC ys).map .p) :: (demS (fun i => Nat.beq i d) ⟨sl, ob⟩).ob⟩) : OpOk C o K ⟨sl, ob⟩ := by
  have h0' : 0 < ie.size := by simpa using h0
  have hzl' := Nat.eq_of_beq_eq_true hzl
  have hdl : d < M1 := by have h1 := Nat.le_of_ble_eq_true C.nl; have h2 : d < C.n := Nat.blt_eq ▸ hn; omega
  intro g a w hs
  have hx' := evo_val hs hx
  have hrun0 : ∀ v w', (Builtin.append_ #[t, tx] o.type #[.slice none 0 0, a.eval y]).run C.P w = .ok v w' → (execOp a.eval o).run C.P w = .ok (.value v) w' := by
    intro v w' h
    rw [run_builtin ho]
    simp [builtin, hx', h]
  obtain ⟨v, w', g', hr, hst⟩ := appM_grow (es := []) (fun i => Nat.beq i d) (fun i hi => by have := Nat.eq_of_beq_eq_true hi; omega) (by simp) hi hik hie hj hjk hy hY hsz (by simp) h0' hzl' (by simpa using hlen) (by simpa using hlen') hs none 0 []
    (run_firstCells_none w.drew ie.size 0 0 0) (by simp) (by simp [flatC]) (by simpa using hys) o.type hn
  unfold Oper.wp
  rw [hrun0 _ _ hr]
  simp only [Oper.upon, hd]
  simp only [List.length_nil, Nat.zero_add, List.nil_append] at hst
  exact ⟨g', _, hst, hK⟩

end

/-- A row that was written is settled. -/
theorem St.freezeM {n : Nat} {w0 : Base} {w : World} {F : Nat → Prop} {g : Gh} {sl : List (Nat × AV)} {ob : List (Nat × List AV)} {a : Act} (hs : St n w0 F g ⟨sl, ob⟩ a w) {k sz : Nat} {es : List PV} {j : Nat}
    (hk : k < M1) (h0 : 0 < sz) (hob : look ob k = some ((flatC es).map .p)) (hj : look sl j = some (.arr k sz 0 es.length)) (hsz : ∀ x ∈ es, x.cells.length = sz) (hone : ∀ x ∈ es, ∀ c ∈ x.cells, c.one = true) :
    ∃ g', St n w0 F g' ⟨(j, .p (.slice es)) :: (demS (fun i => Nat.beq i k) ⟨sl, ob⟩).sl, (demS (fun i => Nat.beq i k) ⟨sl, ob⟩).ob⟩ a w := by
  obtain ⟨b, c, e, k1, k2, k3, k4, k5⟩ := hs.ob k _ hob
  have hfl : (flatC es).length = es.length * sz := flatC_len hsz
  have hlt : b < w.heap.size := (hs.own k b k1).1
  have keyD : ∀ i b', Nat.beq i k = false → g.ow i = some b' → b' ≠ b := fun i b' hD hi e => by
    subst e
    have := hs.inj i k b' hi k1
    subst this
    simp at hD
  have hev : Ev w g.st w (fun b' o => g.st b' o ∨ (b' = b ∧ o < es.length * sz)) := fun b' o h => ⟨.inl h, rfl⟩
  have hs' := hs.evolve (fun i => Nat.beq i k) (fun i hi => by have := Nat.eq_of_beq_eq_true hi; omega) (g' := ⟨fun b' o => g.st b' o ∨ (b' = b ∧ o < es.length * sz), fun i => if Nat.beq i k then none else g.ow i⟩) hev (fun id b' hD h => ⟨by simp only [hD]; exact h, rfl, fun o ho => ho.resolve_right fun h' => keyD id b' hD h h'.1⟩)
    (fun i j b h1 h2 => by
      dsimp only at h1 h2
      split at h1
      · cases h1
      · split at h2
        · cases h2
        · exact hs.inj i j b h1 h2) (fun i b h => by
      dsimp only at h
      split at h
      · cases h
      · exact hs.own i b h) (fun b' o h => by
      rcases h with h | ⟨rfl, _⟩
      · exact hs.lt b' o h
      · exact hlt) (fun b h => rfl) rfl rfl rfl (Nat.le_refl _) (fun b' hb' o => ⟨fun h => h.resolve_right fun h' => (hs.own k b k1).2 (h'.1 ▸ hb'), .inl⟩) (fun i hi => by
        have hne : Nat.beq i k = false := by
          cases hq : Nat.beq i k
          · rfl
          · have := Nat.eq_of_beq_eq_true hq; omega
        simp only [hne]; rfl)
  refine ⟨_, { hs' with sl := fun i => ?_, ob := hs'.ob }⟩
  simp only [AS.get, look_cons]
  by_cases e1 : j = i
  · subst e1
    simp only [if_true, Option.getD_some]
    have h0' := hs.sl j
    simp only [AS.get, hj, Option.getD_some] at h0'
    generalize a.tmps.getD j Go.undef = v at h0'
    cases h0' with
    | arr how hb hcs hn =>
      rw [k1] at how; cases how
      rw [k2] at hb; cases hb
      refine .p (.slice sz (fun i j => c.getD (i * sz + j) Go.undef) hn hsz hone (fun i x j y hx hy => ?_) (fun i x j y hx hy => ?_))
      · have hg := flatC_get hsz i x j y hx hy
        have hi := (List.getElem?_eq_some_iff.1 hg).1
        have hci : i * sz + j < c.size := by simp only [List.length_map] at k3; omega
        refine ⟨.inr ⟨rfl, by omega⟩, ?_⟩
        simp only [World.cell?, k2, Nat.zero_add]
        simp [Array.getD, hci]
      · have hg := flatC_get hsz i x j y hx hy
        obtain ⟨u, hu, hr⟩ := k5 (i * sz + j) (.p y) (by simp [hg])
        rw [Array.getD_eq_getD_getElem?, hu]
        cases hr with | p hr => exact hr.mono hev
  · rw [if_neg e1]
    exact hs'.sl i

/-- A row that was written is settled, wherever it is named. -/
theorem St.freezeA {n : Nat} {w0 : Base} {w : World} {F : Nat → Prop} {g : Gh} {sl : List (Nat × AV)} {ob : List (Nat × List AV)} {a : Act} (hs : St n w0 F g ⟨sl, ob⟩ a w) {k sz : Nat} {es : List PV}
    (hk : k < M1) (h0 : 0 < sz) (hob : look ob k = some ((flatC es).map .p)) (hsz : ∀ x ∈ es, x.cells.length = sz) (hone : ∀ x ∈ es, ∀ c ∈ x.cells, c.one = true) :
    ∃ g', EvO (fun i => Nat.beq i k) w g w g' ∧ St n w0 F g' (demS (fun i => Nat.beq i k) ⟨sl, ob⟩) a w ∧ ∀ v, ARep w g (.arr k sz 0 es.length) v → ARep w g' (.p (.slice es)) v := by
  obtain ⟨b, c, e, k1, k2, k3, k4, k5⟩ := hs.ob k _ hob
  have hfl : (flatC es).length = es.length * sz := flatC_len hsz
  have hlt : b < w.heap.size := (hs.own k b k1).1
  have keyD : ∀ i b', Nat.beq i k = false → g.ow i = some b' → b' ≠ b := fun i b' hD hi e => by
    subst e
    have := hs.inj i k b' hi k1
    subst this
    simp at hD
  have hev : Ev w g.st w (fun b' o => g.st b' o ∨ (b' = b ∧ o < es.length * sz)) := fun b' o h => ⟨.inl h, rfl⟩
  have hs' := hs.evolve (fun i => Nat.beq i k) (fun i hi => by have := Nat.eq_of_beq_eq_true hi; omega) (g' := ⟨fun b' o => g.st b' o ∨ (b' = b ∧ o < es.length * sz), fun i => if Nat.beq i k then none else g.ow i⟩) hev (fun id b' hD h => ⟨by simp only [hD]; exact h, rfl, fun o ho => ho.resolve_right fun h' => keyD id b' hD h h'.1⟩)
    (fun i j b h1 h2 => by
      dsimp only at h1 h2
      split at h1
      · cases h1
      · split at h2
        · cases h2
        · exact hs.inj i j b h1 h2) (fun i b h => by
      dsimp only at h
      split at h
      · cases h
      · exact hs.own i b h) (fun b' o h => by
      rcases h with h | ⟨rfl, _⟩
      · exact hs.lt b' o h
      · exact hlt) (fun b h => rfl) rfl rfl rfl (Nat.le_refl _) (fun b' hb' o => ⟨fun h => h.resolve_right fun h' => (hs.own k b k1).2 (h'.1 ▸ hb'), .inl⟩) (fun i hi => by
        have hne : Nat.beq i k = false := by
          cases hq : Nat.beq i k
          · rfl
          · have := Nat.eq_of_beq_eq_true hq; omega
        simp only [hne]; rfl)
  refine ⟨⟨fun b' o => g.st b' o ∨ (b' = b ∧ o < es.length * sz), fun i => if Nat.beq i k then none else g.ow i⟩, ⟨hev, fun id b' hD h => by simp only [hD]; exact h, fun id b' c' e' hD h hb' => ⟨c', hb', rfl⟩, fun id b' o hD h ho => ho.resolve_right fun h' => keyD id b' hD h h'.1, fun id b' es' k' hD h hb' => hb', fun i hi => Bool.eq_false_iff.2 fun hq => by have := Nat.eq_of_beq_eq_true hq; have := M1_lt hi; omega, fun id b' o hD h _ => rfl⟩, hs', fun v h0' => ?_⟩
  cases h0' with
  | arr how hb hcs hn =>
    rw [k1] at how; cases how
    rw [k2] at hb; cases hb
    refine .p (.slice sz (fun i j => c.getD (i * sz + j) Go.undef) hn hsz hone (fun i x j y hx hy => ?_) (fun i x j y hx hy => ?_))
    · have hg := flatC_get hsz i x j y hx hy
      have hi := (List.getElem?_eq_some_iff.1 hg).1
      have hci : i * sz + j < c.size := by simp only [List.length_map] at k3; omega
      refine ⟨.inr ⟨rfl, by omega⟩, ?_⟩
      simp only [World.cell?, k2, Nat.zero_add]
      simp [Array.getD, hci]
    · have hg := flatC_get hsz i x j y hx hy
      obtain ⟨u, hu, hr⟩ := k5 (i * sz + j) (.p y) (by simp [hg])
      rw [Array.getD_eq_getD_getElem?, hu]
      cases hr with | p hr => exact hr.mono hev

/-- What becomes of a value when the row k is settled. -/
def frz (k sz : Nat) (es : List PV) (x y : AV) : Prop := y = x.dem (fun i => Nat.beq i k) ∨ (x = .arr k sz 0 es.length ∧ y = .p (.slice es))
def frzL (k sz : Nat) (es : List PV) : List AV → List AV → Prop
  | [], [] => True
  | x :: r, y :: q => frz k sz es x y ∧ frzL k sz es r q
  | _, _ => False
def frzS (k sz : Nat) (es : List PV) (sl : List (Nat × AV)) : List (Nat × AV) → Prop
  | [] => True
  | p :: r => (∃ x, look sl p.1 = some x ∧ frz k sz es x p.2) ∧ frzS k sz es sl r
def frzO (k sz : Nat) (es : List PV) (ob : List (Nat × List AV)) : List (Nat × List AV) → Prop
  | [] => True
  | p :: r => (Nat.beq p.1 k = false ∧ ∃ cs, look ob p.1 = some cs ∧ frzL k sz es cs p.2) ∧ frzO k sz es ob r
theorem frzL_spec {k sz : Nat} {es : List PV} : ∀ {l q : List AV}, frzL k sz es l q → l.length = q.length ∧ ∀ (i : Nat) x y, l[i]? = some x → q[i]? = some y → frz k sz es x y
  | [], [], _ => ⟨rfl, by simp⟩
  | [], _ :: _, h => h.elim
  | _ :: _, [], h => h.elim
  | x :: r, y :: q, h => by
    obtain ⟨h1, h2⟩ := frzL_spec h.2
    refine ⟨by simp [h1], fun i a b ha hb => ?_⟩
    cases i with
    | zero => simp only [List.getElem?_cons_zero, Option.some.injEq] at ha hb; subst ha hb; exact h.1
    | succ i => simp only [List.getElem?_cons_succ] at ha hb; exact h2 i a b ha hb
theorem frzS_spec {k sz : Nat} {es : List PV} {sl : List (Nat × AV)} : ∀ {q : List (Nat × AV)}, frzS k sz es sl q → ∀ i y, look q i = some y → ∃ x, look sl i = some x ∧ frz k sz es x y
  | [], _, i, y, h => by cases h
  | p :: r, hq, i, y, h => by
    obtain ⟨p1, p2⟩ := p
    rw [look_cons] at h
    split at h
    · cases h; subst_vars; exact hq.1
    · exact frzS_spec hq.2 i y h
theorem frzO_spec {k sz : Nat} {es : List PV} {ob : List (Nat × List AV)} : ∀ {q : List (Nat × List AV)}, frzO k sz es ob q → ∀ i y, look q i = some y → Nat.beq i k = false ∧ ∃ x, look ob i = some x ∧ frzL k sz es x y
  | [], _, i, y, h => by cases h
  | p :: r, hq, i, y, h => by
    obtain ⟨p1, p2⟩ := p
    rw [look_cons] at h
    split at h
    · cases h; subst_vars; exact hq.1
    · exact frzO_spec hq.2 i y h

theorem ghost_freezeA {α : Type} {C : Cx} {sl sl' : List (Nat × AV)} {ob ob' : List (Nat × List AV)} (k sz : Nat) (f : α → PV) (l : List α) (hk : Nat.blt k M1 = true) (h0 : Nat.blt 0 sz = true) (hob : look ob k = some (rowC f l))
    (hone : ∀ x, (f x).cells.length = sz ∧ PV.onesB (f x).cells = true) (hS : frzS k sz (l.map f) sl sl') (hO : frzO k sz (l.map f) ob ob') : Ghost C ⟨sl, ob⟩ ⟨sl', ob'⟩ := by
  intro g a w hs
  obtain ⟨g', hE, hs', hfr⟩ := hs.freezeA (es := l.map f) (sz := sz) (Nat.blt_eq ▸ hk) (by simpa using h0) hob (fun x hx => by obtain ⟨y, _, rfl⟩ := List.mem_map.1 hx; exact (hone y).1)
    (fun x hx => by obtain ⟨y, _, rfl⟩ := List.mem_map.1 hx; exact onesB_mem (hone y).2)
  have val : ∀ x y v, frz k sz (l.map f) x y → ARep w g x v → ARep w g' y v := by
    rintro x y v (rfl | ⟨rfl, rfl⟩) h
    · exact h.dem hE
    · exact hfr v h
  refine ⟨g', { hs' with sl := fun i => ?_, ob := fun id cs hc => ?_ }⟩
  · simp only [AS.get]
    cases hl : look sl' i with
    | none => exact .undef _
    | some y =>
      obtain ⟨x, hx, hf⟩ := frzS_spec hS i y hl
      have h1 := hs.sl i
      simp only [AS.get, hx, Option.getD_some] at h1
      exact val x y _ hf h1
  · obtain ⟨hne, ds, hds, hfL⟩ := frzO_spec hO id cs hc
    obtain ⟨b, c, e, k1, k2, k3, k4, k5⟩ := hs.ob id ds hds
    obtain ⟨q1, q2⟩ := frzL_spec hfL
    obtain ⟨b2, c2, e2, m1, m2, m3, m4, m5⟩ := hs'.ob id (demL (fun i => Nat.beq i k) ds) (by
      have hf := look_filter (fun i => Nat.beq i k) ob id
      simp only [demS, look_map]
      rw [hf]
      simp only [hne, Bool.false_eq_true, if_false, hds, Option.map_some])
    have e1 := hE.ow id b hne k1
    rw [e1] at m1; cases m1
    rw [k2] at m2; cases m2
    refine ⟨b, c, e, e1, k2, by omega, m4, fun i y hy => ?_⟩
    have hi : i < ds.length := by have := (List.getElem?_eq_some_iff.1 hy).1; omega
    obtain ⟨v, hv, hr⟩ := k5 i ds[i] (List.getElem?_eq_getElem hi)
    exact ⟨v, hv, val _ y v (q2 i _ y (List.getElem?_eq_getElem hi) hy) hr⟩

theorem ghost_freezeM {α : Type} {C : Cx} {sl : List (Nat × AV)} {ob : List (Nat × List AV)} (j : Nat) {k sz n : Nat} {f : α → PV} {l : List α} (hj : look sl j = some (.arr k sz 0 n)) (hn : n = l.length) (hk : Nat.blt k M1 = true) (h0 : Nat.blt 0 sz = true) (hob : look ob k = some (rowC f l))
    (hone : ∀ x, (f x).cells.length = sz ∧ PV.onesB (f x).cells = true) :
    Ghost C ⟨sl, ob⟩ ⟨(j, .p (eL f l)) :: (demS (fun i => Nat.beq i k) ⟨sl, ob⟩).sl, (demS (fun i => Nat.beq i k) ⟨sl, ob⟩).ob⟩ := by
  subst hn
  intro g a w hs
  exact hs.freezeM (es := l.map f) (sz := sz) (Nat.blt_eq ▸ hk) (by simpa using h0) hob (by rw [List.length_map]; exact hj) (fun x hx => by obtain ⟨y, _, rfl⟩ := List.mem_map.1 hx; exact (hone y).1)
    (fun x hx => by obtain ⟨y, _, rfl⟩ := List.mem_map.1 hx; exact onesB_mem (hone y).2)

/-- The cells of an object that nobody will write any more: a pointer to settled cells. -/
theorem St.settleO {n : Nat} {w0 : Base} {w : World} {F : Nat → Prop} {g : Gh} {sl : List (Nat × AV)} {ob : List (Nat × List AV)} {a : Act} (hs : St n w0 F g ⟨sl, ob⟩ a w) {k : Nat} {cs : List PV} {j : Nat}
    (hk : k < M1) (hob : look ob k = some (cs.map .p)) (hj : look sl j = some (.ptr k 0)) :
    ∃ g', St n w0 F g' ⟨(j, .rptr cs) :: (demS (fun i => Nat.beq i k) ⟨sl, ob⟩).sl, (demS (fun i => Nat.beq i k) ⟨sl, ob⟩).ob⟩ a w := by
  obtain ⟨b, c, e, k1, k2, k3, k4, k5⟩ := hs.ob k _ hob
  have hlt : b < w.heap.size := (hs.own k b k1).1
  have keyD : ∀ i b', Nat.beq i k = false → g.ow i = some b' → b' ≠ b := fun i b' hD hi e => by
    subst e
    have := hs.inj i k b' hi k1
    subst this
    simp at hD
  have hev : Ev w g.st w (fun b' o => g.st b' o ∨ (b' = b ∧ o < cs.length)) := fun b' o h => ⟨.inl h, rfl⟩
  have hs' := hs.evolve (fun i => Nat.beq i k) (fun i hi => by have := Nat.eq_of_beq_eq_true hi; omega) (g' := ⟨fun b' o => g.st b' o ∨ (b' = b ∧ o < cs.length), fun i => if Nat.beq i k then none else g.ow i⟩) hev (fun id b' hD h => ⟨by simp only [hD]; exact h, rfl, fun o ho => ho.resolve_right fun h' => keyD id b' hD h h'.1⟩)
    (fun i j b h1 h2 => by
      dsimp only at h1 h2
      split at h1
      · cases h1
      · split at h2
        · cases h2
        · exact hs.inj i j b h1 h2) (fun i b h => by
      dsimp only at h
      split at h
      · cases h
      · exact hs.own i b h) (fun b' o h => by
      rcases h with h | ⟨rfl, _⟩
      · exact hs.lt b' o h
      · exact hlt) (fun b h => rfl) rfl rfl rfl (Nat.le_refl _) (fun b' hb' o => ⟨fun h => h.resolve_right fun h' => (hs.own k b k1).2 (h'.1 ▸ hb'), .inl⟩) (fun i hi => by
        have hne : Nat.beq i k = false := by
          cases hq : Nat.beq i k
          · rfl
          · have := Nat.eq_of_beq_eq_true hq; omega
        simp only [hne]; rfl)
  refine ⟨_, { hs' with sl := fun i => ?_, ob := hs'.ob }⟩
  simp only [AS.get, look_cons]
  by_cases e1 : j = i
  · subst e1
    simp only [if_true, Option.getD_some]
    have h0' := hs.sl j
    simp only [AS.get, hj, Option.getD_some] at h0'
    generalize a.tmps.getD j Go.undef = v at h0'
    cases h0' with
    | ptr how =>
      rw [k1] at how; cases how
      refine .rptr (fun j => c.getD j Go.undef) (fun j y hy => ?_) (fun j y hy => ?_)
      · have hi := (List.getElem?_eq_some_iff.1 hy).1
        have hci : j < c.size := by simp only [List.length_map] at k3; omega
        refine ⟨.inr ⟨rfl, by omega⟩, ?_⟩
        simp only [World.cell?, k2, Nat.zero_add]
        simp [Array.getD, hci]
      · obtain ⟨u, hu, hr⟩ := k5 j (.p y) (by simp [hy])
        rw [Array.getD_eq_getD_getElem?, hu]
        cases hr with | p hr => exact hr.mono hev
  · rw [if_neg e1]
    exact hs'.sl i

theorem ghost_settleO {C : Cx} {sl : List (Nat × AV)} {ob : List (Nat × List AV)} (j : Nat) {k : Nat} {cs : List PV} (hj : look sl j = some (.ptr k 0)) (hk : Nat.blt k M1 = true) (hob : look ob k = some (cs.map .p)) :
    Ghost C ⟨sl, ob⟩ ⟨(j, .rptr cs) :: (demS (fun i => Nat.beq i k) ⟨sl, ob⟩).sl, (demS (fun i => Nat.beq i k) ⟨sl, ob⟩).ob⟩ :=
  fun _ _ _ hs => hs.settleO (Nat.blt_eq ▸ hk) hob hj

end Go.Ab
