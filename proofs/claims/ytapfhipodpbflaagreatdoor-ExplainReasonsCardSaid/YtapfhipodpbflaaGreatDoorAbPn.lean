/- A layer of abstract values over the model's worlds, part Pn: rows that grow by an element that is stored later. It holds for every program. -/
import Derived.Test.YtapfhipodpbflaaGreatDoorAbDf
set_option linter.unusedVariables false
set_option linter.unusedSimpArgs false
set_option linter.unnecessarySimpa false
namespace Go.Ab

theorem vecp_of {w : World} {g : Gh} {tok sz ty : Nat} {es : List PV} {b off cap : Nat} (h : ARep w g (.vec tok sz ty es) (.slice (some ⟨b, off, none⟩) es.length cap)) (hc : es.length + 1 ≤ cap) :
    ARep w g (.vecp tok sz ty es) (.slice (some ⟨b, off, none⟩) (es.length + 1) cap) := by
  generalize hv : Value.slice (some ⟨b, off, none⟩) es.length cap = v at h
  cases h with
  | vecn => cases hv
  | vece _ _ a => injection hv with _ _ h3; omega
  | vec how hb hcs hsz hst hr hty =>
    injection hv with h1 h2 h3
    injection h1 with h1
    injection h1 with h4 h5
    subst h3 h4 h5
    exact .vecp how hb hcs hc hsz hst hr hty

section
variable {C : Cx} {o : Oper} {K : AS → Prop} {sl : List (Nat × AV)} {ob : List (Nat × List AV)} {d : Nat}

theorem append_growsP (ty0 : Nat) {es ys : List PV} {t tx e : TypeId} {i ie : TI} {y : Operand} (D : Nat → Bool) (hDl : ∀ i, D i = true → i < M1) (hDd : D d = true) (hy1 : ys.length = 1)
    (hi : look C.tt t = some i) (hik : i.k = .slice e) (hie : look C.tt e = some ie)
    (hS : SrcOk C sl ob tx y ie.size ys) (hzl : ie.zero.length = ie.size)
    (hlen : (es.length + ys.length) * ie.bytes ≤ 140737488355328) (hlen' : es.length + ys.length ≤ 9223372036854775807)
    {g : Gh} {a : Act} {w : World} (hs : St C.n C.w0 C.F g ⟨sl, ob⟩ a w) (base : Option Addr) (cap : Nat) (olds : List Value)
    (hold : (Builtin.firstCells ie.size es.length (.slice base es.length cap)).run C.P w.drew = .ok olds.toArray w.drew) (hol : olds.length = es.length * ie.size)
    (hes : ∀ e, e ∈ es → e.cells.length = ie.size)
    (hoc : ∀ (i : Nat) y (j : Nat) x, es[i]? = some y → y.cells[j]? = some x → x.one = true ∧ ∃ u, olds[i * ie.size + j]? = some u ∧ PRep w g.st x u)
    (hg : cap < es.length + ys.length) (ty : TypeId) (hn : Nat.blt d C.n = true) (hty : ty0 = 0 ∨ ty0 = e + 1) :
    ∃ v w' g', (Builtin.append_ #[t, tx] ty #[.slice base es.length cap, a.eval y]).run C.P w = .ok v w' ∧
      St C.n C.w0 C.F g' ⟨(d, .vecp d ie.size ty0 es) :: (demS D ⟨sl, ob⟩).sl, (demS D ⟨sl, ob⟩).ob⟩ (a.put (some d) v) w' := by
  obtain ⟨u, h1, h2⟩ := und_of C.good hi
  have h3 := kind_slice (h2.trans hik)
  subst h3
  obtain ⟨info, hf1, hf2, hf3, z, hf4, hf5⟩ := info_of C.good hie
  obtain ⟨news, hsrc, hnews⟩ := hS g a w hs
  have hfit := growslice_fits (bytes := ie.bytes) hg hlen
  have hrun := run_append_grow_src w t tx ty e info z h1 hf1 hf4 base es.length cap olds (by rw [hf2]; exact hold) (a.eval y) ys.length news (by rw [hf2]; exact hsrc) hg (by omega) (by rw [hf3]; exact hfit)
  obtain ⟨q, hq⟩ : ∃ q, q = grownCap w (es.length + ys.length) cap e := ⟨_, rfl⟩
  rw [← hq] at hrun
  have hqn : es.length + ys.length ≤ q := by
    rw [hq]; unfold grownCap; simp only [Question.cut]; omega
  have hzs : z.cells.size = ie.size := by rw [← hzl, ← hf5, Array.length_toList]
  obtain ⟨c, hc⟩ : ∃ c, c = (olds ++ news).toArray ++ Builtin.zeroCells z.cells (q - (es.length + ys.length)) := ⟨_, rfl⟩
  rw [← hc] at hrun
  have hcs : c.size = q * ie.size := by
    rw [hc]
    simp only [Array.size_append, List.size_toArray, List.length_append, hol, hsrc.newsLen, size_zeroCells, hzs]
    rw [← Nat.add_mul, ← Nat.add_mul]; congr 1; omega
  have hget : ∀ m, m < es.length * ie.size → c[m]? = olds[m]? := by
    intro m hm
    rw [hc, Array.getElem?_append]
    simp only [List.size_toArray, List.length_append, hol, hsrc.newsLen]
    rw [if_pos (by omega), List.getElem?_toArray, List.getElem?_append, hol, if_pos hm]
  have hf := hs.drew.fresh D hDl d hDd (fun o => o < es.length * ie.size) c e
  have hv : ARep (w.drew.alloc (.cells c e)) ⟨fun b o => g.st b o ∨ (b = w.drew.heap.size ∧ o < es.length * ie.size), fun i => if i = d then some w.drew.heap.size else if D i then none else g.ow i⟩
      (.vec d ie.size ty0 es) (.slice (some ⟨w.drew.heap.size, 0, none⟩) es.length q) := by
    refine vec_mk (by simp) heap_alloc_at hcs (by omega) hes (fun o => ⟨fun h => ?_, fun h => .inr ⟨rfl, h⟩⟩) (fun i y j x hy hx => ?_) hty
    · rcases h with h | h
      · exact absurd (hs.lt _ _ h) (Nat.lt_irrefl _)
      · exact h.2
    · have hev := Ev_alloc (w := w.drew) (T := fun o => o < es.length * ie.size) (ob := .cells c e) hs.drew.lt
      have hcl := hes y (List.mem_of_getElem? hy)
      have hjl : j < ie.size := by rw [← hcl]; exact (List.getElem?_eq_some_iff.1 hx).1
      have hil : i < es.length := (List.getElem?_eq_some_iff.1 hy).1
      have hm1 : (i + 1) * ie.size ≤ es.length * ie.size := Nat.mul_le_mul_right _ (by omega)
      rw [Nat.add_mul] at hm1
      obtain ⟨k1, u, hu, hr⟩ := hoc i y j x hy hx
      refine ⟨k1, u, ?_, (PRep.mono (w := w) (w' := w.drew) (st := g.st) (st' := g.st) (fun b o h => ⟨h, rfl⟩) hr).mono hev⟩
      rw [hget _ (by omega)]; exact hu
  have hp := hf.put (d := some d) (fun t ht => by cases ht; exact Nat.blt_eq ▸ hn) (vecp_of hv (by omega))
  rw [hy1] at hrun
  exact ⟨_, _, _, hrun, hp⟩

/-- append of one element whose cells are not known yet. -/
theorem ok_appendVP {t tx e : TypeId} {x y : Operand} {k sz ty : Nat} {es : List PV} {ys : List PV} {i ie : TI} (ho : o.op = .call { callee := .builtin .append, args := #[x, y], argTypes := #[t, tx] }) (hd : o.dst = some d) (hn : Nat.blt d C.n = true)
    (hi : look C.tt t = some i) (hik : i.k = .slice e) (hie : look C.tt e = some ie) (hx : evo sl x = some (.vec k sz ty es)) (hk : Nat.blt k M1 = true) (hiz : ie.size = sz) (hy1 : ys.length = 1)
    (hS : SrcOk C sl ob tx y ie.size ys) (hsz : ∀ y ∈ ys, y.cells.length = ie.size) (h0 : Nat.blt 0 ie.size = true) (hzl : Nat.beq ie.zero.length ie.size = true)
    (hlen : (es.length + 1) * ie.bytes ≤ 140737488355328) (hlen' : es.length + 1 ≤ 9223372036854775807) (hty : (Nat.beq ty 0 || Nat.beq ty (e + 1)) = true)
    (hK : K ⟨(d, .vecp d sz ty es) :: (demS (fun i => Nat.beq i k || Nat.beq i d) ⟨sl, ob⟩).sl, (demS (fun i => Nat.beq i k || Nat.beq i d) ⟨sl, ob⟩).ob⟩) : OpOk C o K ⟨sl, ob⟩ := by
  subst hiz
  rw [← hy1] at hlen hlen'
  have h0' : 0 < ie.size := by simpa using h0
  have hzl' := Nat.eq_of_beq_eq_true hzl
  have hk' : k < M1 := Nat.blt_eq ▸ hk
  have hdl : d < M1 := by have h1 := Nat.le_of_ble_eq_true C.nl; have h2 : d < C.n := Nat.blt_eq ▸ hn; omega
  have hty' := ty_or hty
  have hDl : ∀ i, (Nat.beq i k || Nat.beq i d) = true → i < M1 := by
    intro i hi
    simp only [Bool.or_eq_true] at hi
    rcases hi with hi | hi <;> (have := Nat.eq_of_beq_eq_true hi; omega)
  intro g a w hs
  have hxr := evo_rep hs hx
  generalize hxv : a.eval x = xv at hxr
  have hrun0 : ∀ v w', (Builtin.append_ #[t, tx] o.type #[xv, a.eval y]).run C.P w = .ok v w' → (execOp a.eval o).run C.P w = .ok (.value v) w' := by
    intro v w' h
    rw [run_builtin ho]
    simp [builtin, hxv, h]
  cases hxr with
  | vecn =>
    obtain ⟨v, w', g', hr, hst⟩ := append_growsP ty (es := []) (fun i => Nat.beq i k || Nat.beq i d) hDl (by simp) hy1 hi hik hie hS hzl' (by simpa using hlen) (by simpa using hlen') hs none 0 []
      (run_firstCells_none w.drew ie.size 0 0 0) (by simp) (by simp) (by simp) (by simp [hy1]) o.type hn hty'
    unfold Oper.wp
    rw [hrun0 _ _ hr]
    simp only [Oper.upon, hd]
    exact ⟨g', _, hst, hK⟩
  | vece tok sz a0 =>
    obtain ⟨v, w', g', hr, hst⟩ := append_growsP 0 (es := []) (fun i => Nat.beq i k || Nat.beq i d) hDl (by simp) hy1 hi hik hie hS hzl' (by simpa using hlen) (by simpa using hlen') hs (some a0) 0 []
      (run_firstCells_some w.drew ie.size 0 a0 0 0 [] (by simp) (by simp)) (by simp) (by simp) (by simp) (by simp [hy1]) o.type hn hty'
    unfold Oper.wp
    rw [hrun0 _ _ hr]
    simp only [Oper.upon, hd]
    exact ⟨g', _, hst, hK⟩
  | vec how hb hcs hsz' hst hr hty0 =>
    rename_i b off cap c e0
    have hinv := vec_invO hsz' hb hr
    have hcapE : es.length ≤ cap := by cases hr with | nile _ => exact Nat.le_refl _ | slice _ _ hcap => exact hcap
    by_cases hroom : es.length + ys.length ≤ cap
    · obtain ⟨u, h1, h2⟩ := und_of C.good hi
      have h3 := kind_slice (h2.trans hik)
      subst h3
      obtain ⟨info, hf1, hf2, hf3, z, hf4, hf5⟩ := info_of C.good hie
      obtain ⟨news, hsrc, hnews⟩ := hS g a w hs
      have hfit : (off + es.length * ie.size) + news.length ≤ c.size := by
        rw [hsrc.newsLen, hcs, Nat.add_assoc, ← Nat.add_mul]; exact Nat.add_le_add_left (Nat.mul_le_mul_right _ hroom) _
      have hstc := run_storeCells_at C.P b (off + es.length * ie.size) e0 news 0 c w hb (by simpa using hfit) hsrc.one
      simp only [Nat.add_zero] at hstc
      obtain ⟨c', hc'⟩ : ∃ c', c' = (c.toList.take (off + es.length * ie.size) ++ news ++ c.toList.drop (off + es.length * ie.size + news.length)).toArray := ⟨_, rfl⟩
      rw [← hc'] at hstc
      have hrr := run_append_roomO t tx o.type e info h1 hf1 b off es.length cap (a.eval y) ys.length news (by rw [hf2]; exact hsrc) hroom (by rw [hf2]; exact hstc)
      have hcell : ∀ j, c'[j]? = if off + es.length * ie.size ≤ j ∧ j < off + es.length * ie.size + news.length then news[j - (off + es.length * ie.size)]? else c[j]? := by
        intro j
        rw [hc']
        have := splice_get c.toList news (off + es.length * ie.size) (by simpa using hfit) j
        simpa using this
      have hcs' : c'.size = off + cap * ie.size := by rw [← hcs, hc']; simp; omega
      have hin := hs.inplace (fun i => Nat.beq i k || Nat.beq i d) hDl (k := k) (d := d) how (by simp) (by simp) hb (c' := c') (hcs'.trans hcs.symm) (fun o h => by
        have := (hst o).1 h
        rw [hcell o, if_neg (by omega)]) (fun o => o < off + es.length * ie.size) (fun o h => (hst o).1 h)
      have hEv : Ev w g.st (w.setRow b c') (fun b' o => (b' = b ∧ o < off + es.length * ie.size) ∨ (b' ≠ b ∧ g.st b' o)) := by
        intro b' o h
        by_cases e : b' = b
        · subst e
          have h5 := (hst o).1 h
          refine ⟨.inl ⟨rfl, h5⟩, ?_⟩
          simp only [World.cell?, hb, setRow_heap w b' c c' _ (0, 0) hb]
          have := hcell o
          rw [if_neg (by omega)] at this
          simpa using this
        · exact ⟨.inr ⟨e, h⟩, by simp only [World.cell?, setRow_other w b b' c' e]⟩
      have hv : ARep (w.setRow b c') ⟨fun b' o => (b' = b ∧ o < off + es.length * ie.size) ∨ (b' ≠ b ∧ g.st b' o), fun i => if i = d then some b else if (Nat.beq i k || Nat.beq i d) then none else g.ow i⟩
          (.vec d ie.size ty es) (.slice (some ⟨b, off, none⟩) es.length cap) := by
        refine vec_mkO (by simp) (setRow_heap w b c c' e0 (0, 0) hb) hcs' hcapE hsz' (fun o => ⟨fun h => ?_, fun h => .inl ⟨rfl, h⟩⟩) (fun i y j x hy hx => ?_) hty0
        · rcases h with h | h
          · exact h.2
          · exact absurd rfl h.1
        · have hcl := hsz' y (List.mem_of_getElem? hy)
          have hjl : j < ie.size := by rw [← hcl]; exact (List.getElem?_eq_some_iff.1 hx).1
          have hil : i < es.length := (List.getElem?_eq_some_iff.1 hy).1
          obtain ⟨k1, u, hu, hr⟩ := hinv i y j x hy hx
          have hm2 : (i + 1) * ie.size ≤ es.length * ie.size := Nat.mul_le_mul_right _ (by omega)
          rw [Nat.add_mul] at hm2
          refine ⟨k1, u, ?_, hr.mono hEv⟩
          rw [hcell, if_neg (by omega)]; exact hu
      have hp := hin.put (d := some d) (fun t ht => by cases ht; exact Nat.blt_eq ▸ hn) (vecp_of hv (by omega))
      rw [hy1] at hrr
      unfold Oper.wp
      rw [hrun0 _ _ hrr]
      simp only [Oper.upon, hd]
      exact ⟨_, _, hp, hK⟩
    · obtain ⟨olds, hol, hocell⟩ : ∃ olds : List Value, olds.length = es.length * ie.size ∧ ∀ m, m < es.length * ie.size → olds[m]? = c[off + m]? :=
        ⟨((c.toList.drop off).take (es.length * ie.size)), by
          rw [List.length_take, List.length_drop, show c.toList.length = off + cap * ie.size from Array.length_toList.trans hcs]
          have := Nat.mul_le_mul_right ie.size hcapE; omega, fun m hm => by rw [List.getElem?_take, if_pos hm, List.getElem?_drop, Array.getElem?_toList]⟩
      have hold : (Builtin.firstCells ie.size es.length (.slice (some ⟨b, off, none⟩) es.length cap)).run C.P w.drew = .ok olds.toArray w.drew := by
        refine run_firstCells_some w.drew ie.size es.length ⟨b, off, none⟩ es.length cap olds hol (fun j v hv => ?_)
        have hj : j < es.length * ie.size := by rw [← hol]; exact (List.getElem?_eq_some_iff.1 hv).1
        rw [add_lit, World.cell?_drew]
        simp only [World.cell?, hb]
        rw [← hocell j hj]; simpa using hv
      obtain ⟨v, w', g', hr', hst'⟩ := append_growsP ty (es := es) (fun i => Nat.beq i k || Nat.beq i d) hDl (by simp) hy1 hi hik hie hS hzl' hlen hlen' hs (some ⟨b, off, none⟩) cap olds
        hold hol hsz' (fun i y j x hy hx => by
          obtain ⟨k1, u, hu, hr⟩ := hinv i y j x hy hx
          have hi : i < es.length := (List.getElem?_eq_some_iff.1 hy).1
          have hj : j < ie.size := by rw [← hsz' y (List.mem_of_getElem? hy)]; exact (List.getElem?_eq_some_iff.1 hx).1
          have hm2 : (i + 1) * ie.size ≤ es.length * ie.size := Nat.mul_le_mul_right _ (by omega)
          rw [Nat.add_mul] at hm2
          exact ⟨k1, u, by rw [hocell _ (by omega), ← Nat.add_assoc]; exact hu, hr⟩) (by omega) o.type hn hty'
      unfold Oper.wp
      rw [hrun0 _ _ hr']
      simp only [Oper.upon, hd]
      exact ⟨g', _, hst', hK⟩

/-- append of one element whose cells are stored later; what is known of the row as a list. -/
theorem op_appVP {α : Type} (f : α → PV) (l0 : List α) {z : PV} {t tx e e' : TypeId} {x y : Operand} {k sz ty : Nat} {i ie j : TI} (ho : o.op = .call { callee := .builtin .append, args := #[x, y], argTypes := #[t, tx] }) (hd : o.dst = some d) (hn : Nat.blt d C.n = true)
    (hi : look C.tt t = some i) (hik : i.k = .slice e) (hie : look C.tt e = some ie) (hj : look C.tt tx = some j) (hjk : j.k = .slice e') (hx : evo sl x = some (.vec k sz ty (l0.map f))) (hk : Nat.blt k M1 = true) (hiz : ie.size = sz)
    (hy : evo sl y = some (.p (eL (fun x : PV => x) [z]))) (hsz : Nat.beq z.cells.length ie.size = true) (h0 : Nat.blt 0 ie.size = true) (hzl : Nat.beq ie.zero.length ie.size = true) (hby : Nat.blt 0 ie.bytes = true)
    (hty : (Nat.beq ty 0 || Nat.beq ty (e + 1)) = true) (hlen : (l0.length + 1) * ie.bytes ≤ 140737488355328)
    (hK : K ⟨(d, .vecp d sz ty (l0.map f)) :: (demS (fun i => Nat.beq i k || Nat.beq i d) ⟨sl, ob⟩).sl, (demS (fun i => Nat.beq i k || Nat.beq i d) ⟨sl, ob⟩).ob⟩) : OpOk C o K ⟨sl, ob⟩ := by
  have hby' : 1 ≤ ie.bytes := Nat.succ_le_of_lt (by simpa using hby)
  have h1 : (l0.length + 1) * 1 ≤ (l0.length + 1) * ie.bytes := Nat.mul_le_mul_left _ hby'
  have hs' : ∀ y ∈ [z], y.cells.length = ie.size := fun y hy => by rw [List.mem_singleton.1 hy]; exact Nat.eq_of_beq_eq_true hsz
  exact ok_appendVP (ys := [z]) ho hd hn hi hik hie hx hk hiz rfl (srcOk_slice hj hjk hy rfl hs' (by simpa using h0)) hs' h0 hzl (by rw [List.length_map]; exact hlen) (by rw [List.length_map]; omega) hty hK

/-- The address of the element that is to be stored. -/
theorem op_idxP {t e : TypeId} {x y : Operand} {i ie : TI} {tok sz ty : Nat} {es : List PV} {k : IntKind} {n : Int} (ho : o.op = .indexAddr t x y) (hd : o.dst = some d) (hn : Nat.blt d C.n = true)
    (hi : look C.tt t = some i) (hik : i.k = .slice e) (hie : look C.tt e = some ie) (hiz : ie.size = sz) (hx : evo sl x = some (.vecp tok sz ty es)) (hy : evo sl y = some (.p (.val (.int k n)))) (hnn : n = (es.length : Int))
    (hK : K ⟨(d, .elp tok sz) :: sl, ob⟩) : OpOk C o K ⟨sl, ob⟩ := by
  subst hiz hnn
  obtain ⟨u, h1, h2⟩ := und_of C.good hi
  have h3 := kind_slice (h2.trans hik)
  subst h3
  refine ok_one hd hn (fun g a w hs => ?_) hK
  have h5 := evo_rep hs hx
  generalize hv : a.eval x = v at h5
  cases h5 with
  | vecp how hb hcs hcap hsz hst hr hty =>
    rename_i b off cap c e0
    refine ⟨.pointer (some ⟨b, off + es.length * ie.size, none⟩), ?_, .elp how hb ?_ hst⟩
    · have h6 : (es.length : Int) < ((es.length + 1 : Nat) : Int) := by omega
      simp [execOp, ho, hv, evo_val hs hy, Instr.indexAt, asIntOf, run_underlying h1, h6, run_sizeOf C.good hie, add_lit]
    · rw [hcs]
      have := Nat.mul_le_mul_right ie.size hcap
      rw [Nat.add_mul, Nat.one_mul] at this
      omega

/-- What is known behind the store of the element z. -/
def upP (tok sz : Nat) (z : PV) (x : AV) : AV := match x with
  | .vecp t s ty es => bif Nat.beq t tok && Nat.beq s sz then .vec t s ty (es ++ [z]) else .undef
  | x => x.dem (Nat.beq · tok)
def upPS (tok sz : Nat) (z : PV) : List (Nat × AV) → Option (List (Nat × AV))
  | [] => some []
  | (i, x) :: r => (match frc (upP tok sz z x) with
    | some y => (match upPS tok sz z r with | some l => some ((i, y) :: l) | none => none)
    | none => none)
theorem upPS_ok {tok sz : Nat} {z : PV} : ∀ {l l' : List (Nat × AV)}, upPS tok sz z l = some l' → l' = l.map fun p => (p.1, upP tok sz z p.2)
  | [], l', h => by cases h; rfl
  | (i, x) :: r, l', h => by
    unfold upPS at h
    split at h
    · rename_i y hy
      split at h
      · rename_i m hm; cases h; rw [frc_ok hy, upPS_ok hm]; rfl
      · cases h
    · cases h
def upPC (tok sz : Nat) (z : PV) : List AV → Option (List AV)
  | [] => some []
  | x :: r => (match frc (upP tok sz z x) with
    | some y => (match upPC tok sz z r with | some l => some (y :: l) | none => none)
    | none => none)
theorem upPC_ok {tok sz : Nat} {z : PV} : ∀ {l l' : List AV}, upPC tok sz z l = some l' → l' = l.map (upP tok sz z)
  | [], l', h => by cases h; rfl
  | x :: r, l', h => by
    unfold upPC at h
    split at h
    · rename_i y hy
      split at h
      · rename_i m hm; cases h; rw [frc_ok hy, upPC_ok hm]; rfl
      · cases h
    · cases h
def upPO (tok sz : Nat) (z : PV) : List (Nat × List AV) → Option (List (Nat × List AV))
  | [] => some []
  | (i, cs) :: r => (match Nat.beq i tok with
    | true => upPO tok sz z r
    | false => (match upPC tok sz z cs with
      | some ds => (match upPO tok sz z r with | some l => some ((i, ds) :: l) | none => none)
      | none => none))
theorem upPO_look {tok sz : Nat} {z : PV} : ∀ {l l' : List (Nat × List AV)}, upPO tok sz z l = some l' → ∀ id cs, look l' id = some cs → id ≠ tok ∧ ∃ ds, look l id = some ds ∧ cs = ds.map (upP tok sz z)
  | [], l', h, id, cs, hc => by cases h; cases hc
  | (i, xs) :: r, l', h, id, cs, hc => by
    unfold upPO at h
    split at h
    · rename_i hb
      obtain ⟨h1, ds, h2, h3⟩ := upPO_look h id cs hc
      have hi := Nat.eq_of_beq_eq_true hb
      refine ⟨h1, ds, ?_, h3⟩
      rw [look_cons, if_neg (fun e' => h1 (by omega))]
      exact h2
    · rename_i hb
      have hi : i ≠ tok := fun e => by subst e; simp at hb
      split at h
      · rename_i ds hds
        split at h
        · rename_i m hm
          cases h
          rw [look_cons] at hc ⊢
          by_cases e1 : i = id
          · subst e1
            rw [if_pos rfl] at hc ⊢
            cases hc
            exact ⟨hi, xs, rfl, upPC_ok hds⟩
          · rw [if_neg e1] at hc ⊢
            exact upPO_look hm id cs hc
        · cases h
      · cases h

/-- The element is stored. -/
theorem op_stPv {t : TypeId} {x v : Operand} {i : TI} {tok sz : Nat} {z : PV} {Y : AV} {sl' : List (Nat × AV)} {ob' : List (Nat × List AV)} (ho : o.op = .store t x v) (hd : o.dst = none)
    (hi : look C.tt t = some i) (hiz : i.size = sz) (hx : evo sl x = some (.elp tok sz)) (hv : evo sl v = some Y) (hY : Y.sub (.p z)) (hc : (AV.p z).cellsA = some (z.cells.map .p)) (hcl : Nat.beq z.cells.length sz = true) (htok : Nat.blt tok M1 = true)
    (h1 : sl' = sl.map fun p => (p.1, upP tok sz z p.2)) (h2 : upPO tok sz z ob = some ob') (hK : K ⟨sl', ob'⟩) : OpOk C o K ⟨sl, ob⟩ := by
  subst hiz h1
  have htl : tok < M1 := Nat.blt_eq ▸ htok
  have hcl' := Nat.eq_of_beq_eq_true hcl
  intro g a w hs
  have h5 := evo_rep hs hx
  have h6 : ARep w g (.p z) (a.eval v) := hY _ _ _ (evo_rep hs hv)
  obtain ⟨hs1, hs2⟩ := cellsA_spec hc h6
  rw [List.length_map] at hs1
  generalize hev : a.eval x = u at h5
  cases h5 with
  | elp how k2 hp hst =>
    rename_i b p c e
    have hone : ∀ u ∈ (a.eval v).cells.toList, u.oneCell' = true := by
      intro u hu
      obtain ⟨j, hj, rfl⟩ := List.getElem_of_mem hu
      simp only [Array.length_toList] at hj
      exact (hs2 j ((z.cells.map AV.p)[j]'(by simp; omega)) _ (List.getElem?_eq_getElem (by simp; omega)) (by simp [hj])).2
    have hstc := run_storeCells_at C.P b p e (a.eval v).cells.toList 0 c w k2 (by simp; omega) hone
    simp only [Nat.add_zero, Array.length_toList] at hstc
    obtain ⟨c', hc'⟩ : ∃ c', c' = (c.toList.take p ++ (a.eval v).cells.toList ++ c.toList.drop (p + (a.eval v).cells.size)).toArray := ⟨_, rfl⟩
    rw [← hc'] at hstc
    have hsz' := run_sizeOf C.good hi w
    have hne : (a.eval v).cells.size = i.size := hs1.trans hcl'
    unfold Oper.wp
    have hrun : (execOp a.eval o).run C.P w = .ok .skip (w.setRow b c') := by
      simp [execOp, ho, hev, Instr.storeAt, Instr.sureAddr, storeVar, hsz', hne, hstc]
    rw [hrun]
    simp only [Oper.upon, hd, Act.put]
    have hcell : ∀ j, c'[j]? = if p ≤ j ∧ j < p + i.size then (a.eval v).cells[j - p]? else c[j]? := by
      intro j
      rw [hc']
      have := splice_get c.toList (a.eval v).cells.toList p (by simp; omega) j
      simp only [Array.length_toList, Array.getElem?_toList, hne] at this
      simpa [hne] using this
    have hsize' : c'.size = c.size := by
      rw [hc']; simp; omega
    obtain ⟨g', hg'⟩ : ∃ g' : Gh, g' = ⟨fun b' o => (b' = b ∧ o < p + i.size) ∨ (b' ≠ b ∧ g.st b' o), g.ow⟩ := ⟨_, rfl⟩
    have hst' : ∀ b' o, g'.st b' o ↔ (b' = b ∧ o < p + i.size) ∨ (b' ≠ b ∧ g.st b' o) := fun b' o => by rw [hg']
    have how' : g'.ow = g.ow := by rw [hg']
    have hev' : Ev w g.st (w.setRow b c') g'.st := by
      intro b2 o2 h2
      by_cases e1 : b2 = b
      · subst e1
        have := (hst o2).1 h2
        refine ⟨(hst' _ _).2 (.inl ⟨rfl, by omega⟩), ?_⟩
        simp only [World.cell?, k2, setRow_heap w b2 c c' e (0, 0) k2]
        have h7 := hcell o2
        rw [if_neg (by omega)] at h7
        simpa using h7
      · exact ⟨(hst' _ _).2 (.inr ⟨e1, h2⟩), by simp only [World.cell?, setRow_other w b b2 c' e1]⟩
    have hnb : ∀ id b2, Nat.beq id tok = false → g.ow id = some b2 → b2 ≠ b := fun id b2 hD h e => by
      subst e
      have := hs.inj id tok b2 h how
      subst this
      simp at hD
    have hE : EvO (Nat.beq · tok) w g (w.setRow b c') g' := by
      refine ⟨hev', fun id b2 _ h => by rw [how']; exact h, fun id b2 c2 e2 hD h h2 => ⟨c2, (setRow_other w b b2 c' (hnb id b2 hD h)).trans h2, rfl⟩, fun id b2 o2 hD h h3 => ?_, fun id b2 es2 k2' hD h h2 => (setRow_other w b b2 c' (hnb id b2 hD h)).trans h2, fun i hi => ?_, fun id b2 o2 hD h _ => setRow_other w b b2 c' (hnb id b2 hD h)⟩
      · rcases (hst' _ _).1 h3 with h4 | h4
        · exact absurd h4.1 (hnb id b2 hD h)
        · exact h4.2
      · cases hq : Nat.beq i tok
        · rfl
        · have := Nat.eq_of_beq_eq_true hq; have := M1_lt hi; omega
    have hup : ∀ {y : AV} {u : Value}, ARep w g y u → ARep (w.setRow b c') g' (upP tok i.size z y) u := by
      intro y u h
      unfold upP
      split
      · rename_i t s ty es
        cases hq : (Nat.beq t tok && Nat.beq s i.size)
        · exact .undef _
        · simp only [Bool.and_eq_true] at hq
          have e1 := Nat.eq_of_beq_eq_true hq.1
          have e2 := Nat.eq_of_beq_eq_true hq.2
          subst e1 e2
          rw [cond_true]
          cases h with
          | vecp how2 hb2 hcs2 hcap2 hsz2 hst2 hr2 hty2 =>
            rename_i b2 off cap c2 e2
            rw [how] at how2; cases how2
            rw [k2] at hb2; cases hb2
            have hpo : p = off + es.length * i.size := by
              rcases Nat.lt_trichotomy p (off + es.length * i.size) with h7 | h7 | h7
              · have := (hst p).1 ((hst2 p).2 h7); omega
              · exact h7
              · have := (hst2 (off + es.length * i.size)).1 ((hst _).2 h7); omega
            have hinv := vec_invO hsz2 k2 hr2
            have hlen : (es ++ [z]).length = es.length + 1 := by simp
            have := vec_mkO (w := w.setRow b c') (g := g') (tok := t) (es := es ++ [z]) (cap := cap) (by rw [how']; exact how) (setRow_heap w b c c' e (0, 0) k2) (hsize'.trans hcs2) (by rw [hlen]; exact hcap2) (fun x hx => by
              rcases List.mem_append.1 hx with hx | hx
              · exact hsz2 x hx
              · rw [List.mem_singleton.1 hx]; exact hcl') (fun o => by
              rw [hst', hlen, Nat.add_mul, Nat.one_mul]
              exact ⟨fun h => h.elim (fun h => by omega) (fun h => absurd rfl h.1), fun h => .inl ⟨rfl, by omega⟩⟩) (fun k y j x hy hx => ?_) hty2
            · rw [hlen] at this; exact this
            · have hcl2 : y.cells.length = i.size := by
                rcases List.mem_append.1 (List.mem_of_getElem? hy) with hx | hx
                · exact hsz2 y hx
                · rw [List.mem_singleton.1 hx]; exact hcl'
              have hjl : j < i.size := by rw [← hcl2]; exact (List.getElem?_eq_some_iff.1 hx).1
              rw [List.getElem?_append] at hy
              split at hy
              · rename_i hlt
                obtain ⟨q1, u, hu, hr⟩ := hinv k y j x hy hx
                have hm2 : (k + 1) * i.size ≤ es.length * i.size := Nat.mul_le_mul_right _ (by omega)
                rw [Nat.add_mul] at hm2
                refine ⟨q1, u, ?_, hr.mono hev'⟩
                rw [hcell, if_neg (by omega)]; exact hu
              · rename_i hge
                have hk0 : k - es.length = 0 := by
                  have := (List.getElem?_eq_some_iff.1 hy).1
                  simp at this; omega
                rw [hk0] at hy
                simp only [List.getElem?_cons_zero, Option.some.injEq] at hy
                subst hy
                have hke : k = es.length := by omega
                subst hke
                have hjc : j < (a.eval v).cells.size := by omega
                have h8 := hs2 j (.p x) _ (by simp [hx]) (Array.getElem?_eq_getElem hjc)
                refine ⟨?_, (a.eval v).cells[j], ?_, ?_⟩
                · have h9 : PV.onesB z.cells = true ∨ z.one = true := by
                    cases z with
                    | agg cs =>
                      simp only [AV.cellsA] at hc
                      cases ho : PV.onesB cs
                      · rw [ho] at hc; cases hc
                      · exact .inl ho
                    | val _ =>
                      simp only [AV.cellsA] at hc
                      rename_i v0
                      cases ho : v0.oneCell'
                      · rw [ho] at hc; cases hc
                      · exact .inr ho
                    | slice _ => exact .inr rfl
                    | ifc => exact .inr rfl
                    | aint _ => exact .inr rfl
                  rcases h9 with h9 | h9
                  · exact onesB_mem h9 x (List.mem_of_getElem? hx)
                  · have : z.cells = [z] := by cases z <;> first | rfl | (simp [PV.one] at h9)
                    rw [this] at hx
                    have := (List.getElem?_eq_some_iff.1 hx).1
                    simp at this
                    subst this
                    simp at hx
                    rw [← hx]; exact h9
                · rw [hcell, if_pos ⟨by omega, by omega⟩, hpo]
                  rw [show off + es.length * i.size + j - (off + es.length * i.size) = j by omega]
                  exact Array.getElem?_eq_getElem hjc
                · cases h8.1 with
                  | p hr => exact hr.mono hev'
      · exact h.dem hE
    refine ⟨g', ⟨sl.map fun p => (p.1, upP tok i.size z p.2), ob'⟩, ?_, hK⟩
    refine ⟨hs.nd, hs.sz, fun j => ?_, fun id' cs' h' => ?_, by rw [how']; exact hs.inj, fun j b2 h => ?_, fun b2 o2 h => ?_, hs.fl, fun b2 h => ?_, hs.os, hs.out, hs.tape, ?_, fun b2 h o2 => ?_, by rw [how']; exact hs.owf, hs.shf.next (fun _ b c e _ _ h => (Shapes_setRow k2 hsize').1 b c e h), fun j b2 hj h o2 h3 => ?_, hs.ev0.trans hev'⟩
    · have h := hs.sl j
      simp only [AS.get, look_map]
      simp only [AS.get] at h
      cases hl : look sl j with
      | none => simp only [Option.map_none, Option.getD_none]; exact .undef _
      | some x => rw [hl] at h; simpa using hup h
    · obtain ⟨hne', ds, m1, rfl⟩ := upPO_look h2 id' cs' h'
      obtain ⟨b2, c2, e2, n1, n2, n3, n4, n5⟩ := hs.ob id' ds m1
      have hD : Nat.beq id' tok = false := by
        cases hq : Nat.beq id' tok
        · rfl
        · exact absurd (Nat.eq_of_beq_eq_true hq) hne'
      have hb2 := hnb id' b2 hD n1
      refine ⟨b2, c2, e2, by rw [how']; exact n1, (setRow_other w b b2 c' hb2).trans n2, by simpa using n3, fun o2 h3 => ?_, fun j y hy => ?_⟩
      · rcases (hst' _ _).1 h3 with h4 | h4
        · exact hb2 h4.1
        · exact n4 o2 h4.2
      · simp only [List.getElem?_map, Option.map_eq_some_iff] at hy
        obtain ⟨y0, hy0, rfl⟩ := hy
        obtain ⟨u, hu, hr⟩ := n5 j y0 hy0
        exact ⟨u, hu, hup hr⟩
    · rw [how'] at h
      have := hs.own j b2 h; exact ⟨by simpa using this.1, this.2⟩
    · rcases (hst' _ _).1 h with h4 | h4
      · have := (hs.own tok b how).1; rw [h4.1]; simpa using this
      · have := hs.lt b2 o2 h4.2; simpa using this
    · have hne : b2 ≠ b := fun e => (hs.own tok b how).2 (e ▸ h)
      exact (setRow_other w b b2 c' hne).trans (hs.fr b2 h)
    · have := hs.size; simpa using this
    · have hne : b2 ≠ b := fun e => (hs.own tok b how).2 (e ▸ h)
      exact ⟨fun h3 => by
        rcases (hst' _ _).1 h3 with h4 | h4
        · exact absurd h4.1 hne
        · exact (hs.stf b2 h o2).1 h4.2, fun h3 => (hst' _ _).2 (.inr ⟨hne, (hs.stf b2 h o2).2 h3⟩)⟩
    · rcases (hst' _ _).1 h3 with h4 | h4
      · have h7 : g.ow j = some b2 := (hs.owf j hj (C.w0.lo j b2 h)).trans h
        have := hs.inj j tok b2 h7 (by rw [h4.1]; exact how)
        omega
      · exact hs.nst j b2 hj h o2 h4.2
theorem op_stP {t : TypeId} {x v : Operand} {i : TI} {tok sz : Nat} {z : PV} {sl' : List (Nat × AV)} {ob' : List (Nat × List AV)} (ho : o.op = .store t x v) (hd : o.dst = none)
    (hi : look C.tt t = some i) (hiz : i.size = sz) (hx : evo sl x = some (.elp tok sz)) (hv : evo sl v = some (.p z)) (hc : (AV.p z).cellsA = some (z.cells.map .p)) (hcl : Nat.beq z.cells.length sz = true) (htok : Nat.blt tok M1 = true)
    (h1 : sl' = sl.map fun p => (p.1, upP tok sz z p.2)) (h2 : upPO tok sz z ob = some ob') (hK : K ⟨sl', ob'⟩) : OpOk C o K ⟨sl, ob⟩ := op_stPv ho hd hi hiz hx hv (AV.sub_refl _) hc hcl htok h1 h2 hK
end

/-- The results of two schedules agree up to the stage c. -/
def agreeC (c : Nat) (imp : List Nat) : RevS → RevS → Prop
  | (k, d, v) :: r, (k', d', v') :: r' => (k = k' ∧ d = d' ∧ (imp.any (Nat.beq k) = true ∨ v c = v' c)) ∧ agreeC c imp r r'
  | [], [] => True
  | _, _ => False
theorem agreeC_look {c : Nat} {imp : List Nat} : ∀ {r1 r2 : RevS}, agreeC c imp r1 r2 → ∀ k p, imp.any (Nat.beq k) = false → lookS r2 k = some p → ∃ v, lookS r1 k = some (p.1, v) ∧ v c = p.2 c
  | [], [], _, k, p, _, h => by cases h
  | (k1, d1, v1) :: r, (k2, d2, v2) :: r', ⟨⟨e1, e2, e3⟩, hr⟩, k, p, hk, h => by
    subst e1 e2
    simp only [lookS] at h ⊢
    cases hb : Nat.beq k1 k
    · rw [hb, cond_false] at h
      rw [cond_false]
      exact agreeC_look hr k p hk h
    · rw [hb, cond_true] at h
      cases h
      rw [cond_true]
      have := Nat.eq_of_beq_eq_true hb
      subst this
      exact ⟨v1, rfl, e3.resolve_left (by rw [hk]; exact fun h => by cases h)⟩
  | [], _ :: _, h, _, _, _, _ => h.elim
  | _ :: _, [], h, _, _, _, _ => h.elim
theorem ds_twoC {C : Cx} {ops : Array Oper} {S1 S2 : Sched} {c k : Nat} {r1 r2 : RevS} {imp : List Nat} (h1 : lks (slotsS r2 S2.m ++ S2.bas S2.m) ((slotsS r1 S1.m ++ S1.bas S1.m).map (·.1)) = some ((slotsS r1 S1.m ++ S1.bas S1.m).map (·.2)))
    (h2 : lkE (S1.obj S1.m) (S2.obj S2.m) (S1.obj S1.m)) (h3 : agreeC c imp r1 r2) :
    DS C ops S2 (fun rev2 => (⟨slotsS rev2 S2.m ++ S2.bas S2.m, S2.obj S2.m⟩ : AS).le ⟨slotsS r1 S1.m ++ S1.bas S1.m, S1.obj S1.m⟩ ∧ agreeC c imp r1 rev2) [] k r2 := by
  refine ⟨⟨fun j x h => ?_, fun id cs h => ⟨cs, (lkE_le h2 id cs h).trans h, Nat.le_refl _, fun i c d a b => by rw [a] at b; cases b; exact AV.sub_refl _⟩⟩, h3⟩
  have := lks_le h1 j x h
  unfold AS.get
  rw [this]
  exact AV.sub_refl _

/-- Two changes in either order, behind a first one, and a chain behind them. -/
theorem awp_drawSP {C : Cx} {id : Nat} {ops : Array Oper} {Q : Exit → AS → Prop} {sl : List (Nat × AV)} {ob : List (Nat × List AV)} (S1 S2 : Sched) {k0 k1 k2 : Nat} {r : List Nat} (hm : C.P.follows .mixedOrders = true)
    (hi1 : S1.imp = k0 :: k1 :: k2 :: r) (hi2 : S2.imp = k0 :: k2 :: k1 :: r) (hlen1 : S1.imp.length = S1.m) (hlen2 : S2.imp.length = S2.m) (hob1 : S1.obj 0 = ob) (hob2 : S2.obj 1 = S1.obj 1) (hb : BaseIn sl (S1.bas 0)) (hb2 : S2.bas 1 = S1.bas 1)
    (hbas1 : ∀ j, j < S1.m → BaseIn (trL (S1.D j) (S1.bas j)) (S1.bas (j + 1))) (hbas2 : ∀ j, j < S2.m → BaseIn (trL (S2.D j) (S2.bas j)) (S2.bas (j + 1)))
    (hnd : nodupB (k0 :: k1 :: k2 :: r) = true) (hin : (k0 :: k1 :: k2 :: r).all (fun i => Nat.blt i ops.size) = true) (hch1 : chainB ops (k0 :: k1 :: r) = true) (hch2 : chainB ops (k0 :: k2 :: r) = true)
    (hord : (ops.toList.zipIdx.all fun p => p.1.after.toList.all fun e => !(Region.binds .any e) || Nat.blt e.on p.2) = true)
    (h : DS C ops S1 (fun rev1 => Q .normal ⟨slotsS rev1 S1.m ++ S1.bas S1.m, S1.obj S1.m⟩ ∧ DS C ops S2 (fun rev2 => (⟨slotsS rev2 S2.m ++ S2.bas S2.m, S2.obj S2.m⟩ : AS).le ⟨slotsS rev1 S1.m ++ S1.bas S1.m, S1.obj S1.m⟩ ∧ agreeC 1 (k1 :: k2 :: r) rev1 rev2) ops.toList 0 []) ops.toList 0 []) : awp C (.region id ops true) Q ⟨sl, ob⟩ := by
  intro g a w hs
  have hnd2 : nodupB S2.imp = true := by
    rw [hi2]
    simp only [nodupB, List.any_cons, Bool.not_or, Bool.and_eq_true, Bool.not_eq_true'] at hnd ⊢
    obtain ⟨⟨b1, b2, b3⟩, ⟨a1, a2⟩, a3, a4⟩ := hnd
    refine ⟨⟨b2, b1, b3⟩, ⟨?_, a3⟩, a2, a4⟩
    cases hq : Nat.beq k2 k1
    · rfl
    · rw [Nat.eq_of_beq_eq_true hq] at a1; rw [Nat.beq_refl] at a1; cases a1
  have hin2 : S2.imp.all (fun i => Nat.blt i ops.size) = true := by
    rw [hi2]
    simp only [List.all_cons, Bool.and_eq_true] at hin ⊢
    exact ⟨hin.1, hin.2.2.1, hin.2.1, hin.2.2.2⟩
  obtain ⟨fin1, ⟨hf1, h2⟩, hP1⟩ := Plan.mk' hlen1 hbas1 (by rw [hi1]; exact hnd) (by rw [hi1]; exact hin) hord h
  obtain ⟨fin2, ⟨hf2, hag⟩, hP2⟩ := Plan.mk' hlen2 hbas2 hnd2 hin2 hord h2
  have chain : ∀ (x y : Nat) (S : Sched), S.imp = k0 :: x :: y :: r → chainB ops (k0 :: y :: r) = true → chainB ops (k0 :: x :: r) = true → ∀ (listed : Array Bool) (j i q : Nat), PInv ops S listed j → i ∈ Region.ready .any ops listed → S.imp[q]? = some i → j < q → q = 2 ∧ j = 1 := by
    intro x y S hS hcy hcx listed j i q hI hi hq hjq
    obtain ⟨h1, o, ho, hafter⟩ := mem_ready.1 hi
    have use : ∀ z zi, S.imp[z]? = some zi → bindsT ops 4 o zi = true → z < j := by
      intro z zi hz hb
      exact (hI.2.1 z zi hz).1 (bindsT_listed hI.2.2 4 o zi hb hafter)
    match q, hq, hjq with
    | 0, _, hjq => omega
    | 1, hq, hjq =>
      exfalso
      rw [hS] at hq
      have b1 := chain_at hcx 0 k0 i o rfl (by simpa using hq) ho
      have := use 0 k0 (by rw [hS]; rfl) b1
      omega
    | 2, hq, hjq =>
      rw [hS] at hq
      have b1 := chain_at hcy 0 k0 i o rfl (by simpa using hq) ho
      have := use 0 k0 (by rw [hS]; rfl) b1
      exact ⟨rfl, by omega⟩
    | q + 3, hq, hjq =>
      exfalso
      rw [hS] at hq
      simp only [List.getElem?_cons_succ] at hq
      have hql : q < r.length := (List.getElem?_eq_some_iff.1 hq).1
      cases q with
      | zero =>
        have b1 := chain_at hcy 1 y i o rfl (by simpa using hq) ho
        have := use 2 y (by rw [hS]; rfl) b1
        omega
      | succ q =>
        have b1 := chain_at hcy (q + 2) r[q] i o (by simp [List.getElem?_eq_getElem (show q < r.length by omega)]) (by simpa using hq) ho
        have := use (q + 3) r[q] (by rw [hS]; simp [List.getElem?_eq_getElem (show q < r.length by omega)]) b1
        omega
  have two := draw_plan hP2 hf2 hf1 2 (fun fuel listed g a w sl' j hj hat i q hi hq hjq => by
    have := chain k2 k1 S2 hi2 hch1 hch2 listed j i q hat.inv hi hq hjq; omega)
  refine wp_region_any hm ?_
  refine (draw_plan hP1 (AS.le_refl _) hf1 0 ?_).1 _ _ g a _ sl 0 (Nat.zero_le _) (PAt.start hb (by rw [hob1]; exact hs.drew))
  intro fuel listed g a w sl' j _ hat i q hi hq hjq
  obtain ⟨rfl, rfl⟩ := chain k1 k2 S1 hi1 hch2 hch1 listed j i q hat.inv hi hq hjq
  have hik : i = k2 := by rw [hi1] at hq; simpa using hq.symm
  subst hik
  have hno : ∀ k, (k1 :: i :: r).any (Nat.beq k) = true → listed.getD k false = false := by
    intro k hk
    obtain ⟨x, hx, hkx⟩ := List.any_eq_true.1 hk
    have := Nat.eq_of_beq_eq_true hkx
    subst this
    obtain ⟨z, hz⟩ := List.mem_iff_getElem?.1 hx
    have := hat.inv.2.1 (z + 1) k (by rw [hi1]; simpa using hz)
    cases hl : listed.getD k false with
    | false => rfl
    | true => have := this.1 hl; omega
  have hm2 : 1 ≤ S2.m := by rw [← hlen2, hi2]; simp
  refine two.2 fuel listed g a w sl' 1 i (.inr ⟨Nat.le_refl _, by rw [hi2]; rfl⟩) hi ⟨hat.sz, hat.un, ⟨hm2, fun z k hz => ?_, hat.inv.2.2⟩, ⟨fun z x hx => hat.kn.1 z x (by rw [← hb2]; exact hx), fun k p hk hp => ?_⟩, by rw [hob2]; exact hat.st⟩
  · cases z with
    | zero =>
      have hz0 : k = k0 := by rw [hi2] at hz; simpa using hz.symm
      subst hz0
      have := hat.inv.2.1 0 k (by rw [hi1]; rfl)
      exact this
    | succ z =>
      constructor
      · intro hl
        have hmem : k ∈ (k1 :: i :: r) := by
          have := List.mem_of_getElem? (show (i :: k1 :: r)[z]? = some k by rw [hi2] at hz; simpa using hz)
          simp only [List.mem_cons] at this ⊢
          rcases this with h | h | h
          · exact .inr (.inl h)
          · exact .inl h
          · exact .inr (.inr h)
        rw [hno k (List.any_eq_true.2 ⟨k, hmem, by simp⟩)] at hl
        cases hl
      · intro h; omega
  · have hk' : (k1 :: i :: r).any (Nat.beq k) = false := by
      cases hq : (k1 :: i :: r).any (Nat.beq k) with
      | false => rfl
      | true => rw [hno k hq] at hk; cases hk
    obtain ⟨v, hv1, hv2⟩ := agreeC_look hag k p hk' hp
    have := hat.kn.2 k _ hk hv1
    rw [← hv2]; exact this
theorem mSP {C : Cx} {Q : Exit → AS → Prop} {k : List Fr} {ops : Array Oper} {sl : List (Nat × AV)} {ob : List (Nat × List AV)} (S1 S2 : Sched) {id k0 k1 k2 : Nat} {r : List Nat} (hm : C.P.follows .mixedOrders = true)
    (hi1 : S1.imp = k0 :: k1 :: k2 :: r) (hi2 : S2.imp = k0 :: k2 :: k1 :: r) (hlen1 : S1.imp.length = S1.m) (hlen2 : S2.imp.length = S2.m) (hob1 : S1.obj 0 = ob) (hob2 : S2.obj 1 = S1.obj 1) (hb : BaseIn sl (S1.bas 0)) (hb2 : S2.bas 1 = S1.bas 1)
    (hbas1 : ∀ j, j < S1.m → BaseIn (trL (S1.D j) (S1.bas j)) (S1.bas (j + 1))) (hbas2 : ∀ j, j < S2.m → BaseIn (trL (S2.D j) (S2.bas j)) (S2.bas (j + 1)))
    (hnd : nodupB (k0 :: k1 :: k2 :: r) = true) (hin : (k0 :: k1 :: k2 :: r).all (fun i => Nat.blt i ops.size) = true) (hch1 : chainB ops (k0 :: k1 :: r) = true) (hch2 : chainB ops (k0 :: k2 :: r) = true)
    (hord : (ops.toList.zipIdx.all fun p => p.1.after.toList.all fun e => !(Region.binds .any e) || Nat.blt e.on p.2) = true)
    (h : DS C ops S1 (fun rev1 => M C Q ⟨.ex .normal, k, ⟨slotsS rev1 S1.m ++ S1.bas S1.m, S1.obj S1.m⟩⟩ ∧ DS C ops S2 (fun rev2 => (⟨slotsS rev2 S2.m ++ S2.bas S2.m, S2.obj S2.m⟩ : AS).le ⟨slotsS rev1 S1.m ++ S1.bas S1.m, S1.obj S1.m⟩ ∧ agreeC 1 (k1 :: k2 :: r) rev1 rev2) ops.toList 0 []) ops.toList 0 []) :
    M C Q ⟨.cd (.region id ops true), k, ⟨sl, ob⟩⟩ :=
  awp_drawSP S1 S2 hm hi1 hi2 hlen1 hlen2 hob1 hob2 hb hb2 hbas1 hbas2 hnd hin hch1 hch2 hord h
end Go.Ab
