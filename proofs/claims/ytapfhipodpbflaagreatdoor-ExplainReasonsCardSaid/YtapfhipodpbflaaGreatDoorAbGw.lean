/- A layer of abstract values over the model's worlds, part Gw: rows that are made with room, and nil rows. It holds for every program. -/
import Derived.Lib.AppendZeros
import Derived.Test.YtapfhipodpbflaaGreatDoorAbSk
set_option linter.unusedVariables false
set_option linter.unusedSimpArgs false
set_option linter.unnecessarySimpa false
namespace Go.Ab

section
variable {C : Cx} {o : Oper} {K : AS → Prop} {sl : List (Nat × AV)} {ob : List (Nat × List AV)} {d : Nat}

theorem op_lenNil {t e : TypeId} {x : Operand} {i : TI} (ho : o.op = .call { callee := .builtin .len, args := #[x], argTypes := #[t] }) (hd : o.dst = some d) (hn : Nat.blt d C.n = true)
    (hi : look C.tt t = some i) (hik : i.k = .slice e) (hx : evo sl x = some (.p (.val (.slice none 0 0))))
    (hK : K ⟨(d, .p (.val (.int .i64 0))) :: sl, ob⟩) : OpOk C o K ⟨sl, ob⟩ := by
  obtain ⟨u, h1, h2⟩ := und_of C.good hi
  have h3 := kind_slice (h2.trans hik)
  subst h3
  exact ok_one hd hn (fun g a w hs => ⟨.int .i64 0, by rw [run_builtin ho]; simp [builtin, evo_val hs hx, Builtin.len_, run_underlying h1, goInt], .p (.val _)⟩) hK
theorem op_capNil {t e : TypeId} {x : Operand} {i : TI} (ho : o.op = .call { callee := .builtin .cap, args := #[x], argTypes := #[t] }) (hd : o.dst = some d) (hn : Nat.blt d C.n = true)
    (hi : look C.tt t = some i) (hik : i.k = .slice e) (hx : evo sl x = some (.p (.val (.slice none 0 0))))
    (hK : K ⟨(d, .p (.val (.int .i64 0))) :: sl, ob⟩) : OpOk C o K ⟨sl, ob⟩ := by
  obtain ⟨u, h1, h2⟩ := und_of C.good hi
  have h3 := kind_slice (h2.trans hik)
  subst h3
  exact ok_one hd hn (fun g a w hs => ⟨.int .i64 0, by rw [run_builtin ho]; simp [builtin, evo_val hs hx, Builtin.cap_, run_underlying h1, goInt], .p (.val _)⟩) hK
theorem op_sliceNil {t e : TypeId} {x : Operand} {hi : Option Operand} {h : Int} {i ie : TI} (ho : o.op = .slice t x none hi none) (hd : o.dst = some d) (hn : Nat.blt d C.n = true)
    (hi' : look C.tt t = some i) (hik : i.k = .slice e) (hie : look C.tt e = some ie) (hx : evo sl x = some (.p (.val (.slice none 0 0)))) (hhi : hiI sl 0 hi = some h) (hb : 0 ≤ h ∧ h ≤ 0)
    (hK : K ⟨(d, .p (.val (.slice none 0 0))) :: sl, ob⟩) : OpOk C o K ⟨sl, ob⟩ := by
  obtain ⟨u, h1, h2⟩ := und_of C.good hi'
  have h3 := kind_slice (h2.trans hik)
  subst h3
  refine ok_one hd hn (fun g a w hs => ?_) hK
  have e2 : h = 0 := by omega
  subst e2
  have e := run_bounds (P := C.P) hs true 0 0 none hi (l := 0) rfl hhi (by omega) (Nat.le_refl _)
  refine ⟨.slice none 0 0, ?_, .p (.val _)⟩
  simp at e
  simp [execOp, ho, evo_val hs hx, Instr.sliceAt, Instr.slice, run_underlying h1, e, run_sizeOf C.good hie]

/-- append(nil, make(n)...) -/
theorem op_appendZ {t tx e : TypeId} {x y : Operand} {k k' : IntKind} {n : Int} {i ie j : TI} (ho : o.op = .call { callee := .builtin .append, args := #[x, y], argTypes := #[t, tx] }) (hd : o.dst = some d) (hn : Nat.blt d C.n = true)
    (hi : look C.tt t = some i) (hik : i.k = .slice e) (hie : look C.tt e = some ie) (hj : look C.tt tx = some j) (hjk : j.k = .int k') (hx : evo sl x = some (.p (.val (.slice none 0 0)))) (hy : evo sl y = some (.p (.val (.int k n))))
    (h0 : Nat.blt 0 ie.size = true) (hzl : Nat.beq ie.zero.length ie.size = true) (hby : Nat.blt 0 ie.bytes = true) {sz : Nat} (hsz : ie.size = sz)
    (hb : 0 < n ∧ n * (ie.bytes : Int) ≤ 140737488355328) {sl' : List (Nat × AV)} {ob' : List (Nat × List AV)} (h1' : dmS (fun i => Nat.beq i d) sl = some sl') (h2' : dmO (fun i => Nat.beq i d) ob = some ob')
    (hK : K ⟨(d, .arr d sz 0 n.toNat) :: sl', (d, []) :: ob'⟩) : OpOk C o K ⟨sl, ob⟩ := by
  subst hsz
  obtain ⟨u, h1, h2⟩ := und_of C.good hi
  have h3 := kind_slice (h2.trans hik)
  subst h3
  obtain ⟨u', h1j, h2j⟩ := und_of C.good hj
  have h3' := kind_int (h2j.trans hjk)
  subst h3'
  obtain ⟨info, hf1, hf2, hf3, z, hf4, hf5⟩ := info_of C.good hie
  have h0' : 0 < ie.size := by simpa using h0
  have hby' : 1 ≤ ie.bytes := Nat.succ_le_of_lt (by simpa using hby)
  have hzl' := Nat.eq_of_beq_eq_true hzl
  obtain ⟨m, rfl⟩ : ∃ m : Nat, n = m := ⟨n.toNat, by omega⟩
  have hm0 : 0 < m := by omega
  have hb2 : m * ie.bytes ≤ 140737488355328 := by have := hb.2; rw [← Int.natCast_mul] at this; omega
  have hmm : m * 1 ≤ m * ie.bytes := Nat.mul_le_mul_left _ hby'
  have hdl : d < M1 := by have h1 := Nat.le_of_ble_eq_true C.nl; have h2 : d < C.n := Nat.blt_eq ▸ hn; omega
  intro g a w hs
  have hrun := Go.Lib.run_append_nil_zeros (P := C.P) w t tx o.type e info z k k' h1 h1j hf1 hf4 m hm0 (by rw [hf2]; exact h0') (by omega) (by rw [hf3]; omega)
  obtain ⟨q, hq⟩ : ∃ q, q = grownCap w m 0 e := ⟨_, rfl⟩
  rw [← hq] at hrun
  have hqn : m ≤ q := by rw [hq]; unfold grownCap; simp only [Question.cut]; omega
  have hzs : z.cells.size = ie.size := by rw [← hzl', ← hf5, Array.length_toList]
  obtain ⟨c, hc⟩ : ∃ c, c = Builtin.zeroCells z.cells m ++ Builtin.zeroCells z.cells (q - m) := ⟨_, rfl⟩
  rw [← hc] at hrun
  have hcs : c.size = 0 + q * ie.size := by
    rw [hc, Array.size_append, size_zeroCells, size_zeroCells, hzs, ← Nat.add_mul]
    congr 1
    first | omega | (rw [Nat.zero_add]; congr 1; omega)
  have hf := hs.drew.fresh (fun i => Nat.beq i d) (fun i hi => by have := Nat.eq_of_beq_eq_true hi; omega) d (by simp) (fun _ => False) c e
  have hp := hf.put (d := some d) (fun t ht => by cases ht; exact Nat.blt_eq ▸ hn) (x := .arr d ie.size 0 m) (v := .slice (some ⟨w.drew.heap.size, 0, none⟩) m q) (.arr (by simp) heap_alloc_at hcs hqn)
  have hob := hp.addOb (d := d) (cs := []) (by
    refine ⟨w.drew.heap.size, c, e, by simp, heap_alloc_at, by simp, fun o ho => ?_, fun i x hx => by simp at hx⟩
    rcases ho with ho | ⟨_, ho⟩
    · exact absurd (hs.lt _ _ ho) (Nat.lt_irrefl _)
    · exact ho)
  have hrun' : (execOp a.eval o).run C.P w = .ok (.value (.slice (some ⟨w.heap.size, 0, none⟩) m q)) (w.drew.alloc (.cells c e)) := by
    rw [run_builtin ho]
    simp [builtin, evo_val hs hx, evo_val hs hy, hrun]
  unfold Oper.wp
  rw [hrun']
  simp only [Oper.upon, hd]
  refine ⟨_, _, hob, ?_⟩
  simp only [demS]
  rw [← dmS_ok h1', ← dmO_ok h2']
  exact hK

/-- The first elements of a row that may be written. -/
theorem op_sliceArr {t e : TypeId} {x : Operand} {hi : Option Operand} {id sz n : Nat} {h : Int} {i ie : TI} (ho : o.op = .slice t x none hi none) (hd : o.dst = some d) (hn : Nat.blt d C.n = true)
    (hi' : look C.tt t = some i) (hik : i.k = .slice e) (hie : look C.tt e = some ie) (hx : evo sl x = some (.arr id sz 0 n)) (hhi : hiI sl (n : Int) hi = some h) (hb : 0 ≤ h ∧ h ≤ (n : Int))
    (hK : K ⟨(d, .arr id sz 0 h.toNat) :: sl, ob⟩) : OpOk C o K ⟨sl, ob⟩ := by
  obtain ⟨u, h1, h2⟩ := und_of C.good hi'
  have h3 := kind_slice (h2.trans hik)
  subst h3
  refine ok_one hd hn (fun g a w hs => ?_) hK
  have hv := evo_rep hs hx
  generalize hq : a.eval x = v at hv
  cases hv with
  | arr how hb2 hcs hnc =>
    rename_i b cap c e0
    have e := run_bounds (P := C.P) hs true n cap none hi (l := 0) rfl hhi ⟨by omega, hb.1, by omega⟩ hnc
    refine ⟨.slice (some ⟨b, 0, none⟩) h.toNat cap, ?_, .arr how hb2 hcs (by omega)⟩
    simp at e
    simp [execOp, ho, hq, Instr.sliceAt, Instr.slice, run_underlying h1, e, run_sizeOf C.good hie, add_lit]
    try omega

/-- A slice literal, as a row that may grow. -/
theorem op_bsliceV {α : Type} (f : α → PV) (l : List α) {t e len : Nat} {parts : Array (Nat × Operand)} {i ie : TI} {es : List PV} {sz : Nat} (ho : o.op = .buildSlice t len parts) (hd : o.dst = some d) (hn : Nat.blt d C.n = true)
    (hi : look C.tt t = some i) (hik : i.k = .slice e) (hie : look C.tt e = some ie) (hes : elemsA sl 0 parts.toList = some es) (hlen : Nat.beq es.length len = true) (hpos : Nat.blt 0 len = true)
    (hk : Nat.blt 0 ie.size = true) (hsm : Nat.ble (len * ie.size) 16777216 = true) (hsz : sizesB ie.size es = true) (hzl : Nat.beq ie.zero.length ie.size = true) (he : es = l.map f) (hsz1 : ie.size = sz)
    {sl' : List (Nat × AV)} {ob' : List (Nat × List AV)} (h1' : dmS (fun i => Nat.beq i d) sl = some sl') (h2' : dmO (fun i => Nat.beq i d) ob = some ob')
    (hK : K ⟨(d, .vec d sz 0 (l.map f)) :: sl', ob'⟩) : OpOk C o K ⟨sl, ob⟩ := by
  subst hsz1
  rw [← he] at hK
  clear he
  obtain ⟨u, h1, h2⟩ := und_of C.good hi
  have h3 := kind_slice (h2.trans hik)
  subst h3
  have hlen' : es.length = len := Nat.eq_of_beq_eq_true hlen
  have hpos' : 0 < len := by simpa using hpos
  have hk' : 0 < ie.size := by simpa using hk
  have hsm' := Nat.le_of_ble_eq_true hsm
  have hzl' := Nat.eq_of_beq_eq_true hzl
  have hdl : d < M1 := by have h1 := Nat.le_of_ble_eq_true C.nl; have h2 : d < C.n := Nat.blt_eq ▸ hn; omega
  obtain ⟨j, hj, hj1, hj2, z, hz1, hz2⟩ := info_of C.good hie
  intro g a w hs
  obtain ⟨q1, q2, q3⟩ := elemsA_spec hs _ 0 es hes
  obtain ⟨vs, hvs⟩ : ∃ vs, vs = parts.toList.map fun p => a.eval p.2 := ⟨_, rfl⟩
  rw [← hvs] at q1 q3
  have hvl : es.length = vs.length := by rw [hvs, List.length_map]; exact q2
  have hzs : z.cells.size = ie.size := by rw [← hzl', ← hz2, Array.length_toList]
  have hvsz : ∀ v ∈ vs, v.cells.size = ie.size := by
    intro v hv
    obtain ⟨m, hm, rfl⟩ := List.getElem_of_mem hv
    have hp := q3 m (es[m]'(by omega)) _ (List.getElem?_eq_getElem (by omega)) (List.getElem?_eq_getElem hm)
    obtain ⟨m1, m2⟩ := sizesB_mem hsz (es[m]'(by omega)) (List.getElem_mem _)
    rw [(prep_cells hp m2).1, m1]
  obtain ⟨r, f1, f2, f3⟩ := Great.fill_dense hk' vs 0 ((Array.range (len * ie.size)).map (z.cells[· % z.cells.size]!)) hvsz (by simp; rw [← hvl, hlen']; exact Nat.le_refl _)
  have f1' : Instr.fill (fun i => some (i * ie.size, ie.size)) ((Array.range (len * ie.size)).map (z.cells[· % z.cells.size]!)) (parts.map fun (i, x) => (i, a.eval x)).toList = some r := by
    rw [Array.toList_map]; rw [← f1]; congr 1
  have hrun := run_buildSlice (P := C.P) w t e len (parts.map fun (i, x) => (i, a.eval x)) r j z h1 hj hz1 (by rw [hj1]; omega) (by rw [hj1]; have := Nat.mul_pos hpos' hk'; omega) (by rw [hj1]; exact f1')
  unfold Oper.wp
  have hrun' : (execOp a.eval o).run C.P w = .ok (.value (.slice (some ⟨w.heap.size, 0, none⟩) len len)) (w.alloc (.cells r e)) := by
    simp only [execOp, ho, Sem.run_bind, hrun, Result.andThen_ok, Sem.run_pure]
  rw [hrun']
  have hrs : r.size = len * ie.size := by rw [f2]; simp
  have hprep := row_prep (e := e) hk' hvl hs.lt q3 hsz (r := r) (by rw [f2]; simp; rw [hlen']) (fun m hm => by rw [f3 m, if_pos (by simp; rw [← hvl]; exact hm)]; simp) len (by omega)
  have hf := hs.fresh (fun i => Nat.beq i d) (fun i hi => by have := Nat.eq_of_beq_eq_true hi; omega) d (by simp) (fun o => o < es.length * ie.size) r e
  have hv : ARep (w.alloc (.cells r e)) ⟨fun b o => g.st b o ∨ (b = w.heap.size ∧ o < es.length * ie.size), fun i => if i = d then some w.heap.size else if Nat.beq i d then none else g.ow i⟩ (.vec d ie.size 0 es) (.slice (some ⟨w.heap.size, 0, none⟩) es.length len) := by
    refine .vec (by simp) heap_alloc_at (by rw [hrs, Nat.zero_add]) (fun x hx => (sizesB_mem hsz x hx).1) (fun o => ?_) hprep (.inl rfl)
    rw [Nat.zero_add]
    constructor
    · rintro (h | ⟨_, h⟩)
      · exact absurd (hs.lt _ _ h) (Nat.lt_irrefl _)
      · exact h
    · intro h; exact .inr ⟨rfl, h⟩
  have hst := hf.put (d := o.dst) (fun t ht => by rw [hd] at ht; cases ht; exact Nat.blt_eq ▸ hn) hv
  rw [hlen'] at hst
  simp only [Oper.upon]
  rw [hd] at hst ⊢
  refine ⟨_, _, hst, ?_⟩
  simp only [AS.put, demS]
  rw [← dmS_ok h1', ← dmO_ok h2']
  exact hK

/-- What is left of a row that grows, behind its first elements. -/
theorem op_sliceVec {α : Type} (f : α → PV) (l : List α) {t e : TypeId} {x : Operand} {lo : Option Operand} {id sz : Nat} {h : Int} {i ie : TI} (ho : o.op = .slice t x lo none none) (hd : o.dst = some d) (hn : Nat.blt d C.n = true)
    (hi' : look C.tt t = some i) (hik : i.k = .slice e) (hie : look C.tt e = some ie) (hx : evo sl x = some (.vec id sz 0 (l.map f))) (hlo : loI sl lo = some h) (hb : 0 ≤ h ∧ h ≤ (l.length : Int)) (hsz1 : ie.size = sz)
    (hK : K ⟨(d, .vec id sz 0 ((l.drop h.toNat).map f)) :: sl, ob⟩) : OpOk C o K ⟨sl, ob⟩ := by
  subst hsz1
  obtain ⟨u, h1, h2⟩ := und_of C.good hi'
  have h3 := kind_slice (h2.trans hik)
  subst h3
  refine ok_one hd hn (fun g a w hs => ?_) hK
  have hv := evo_rep hs hx
  obtain ⟨m, rfl⟩ : ∃ m : Nat, h = m := ⟨h.toNat, by omega⟩
  rw [Int.toNat_natCast, List.map_drop]
  have hbl : m ≤ (l.map f).length := by rw [List.length_map]; omega
  clear hb hx hK
  generalize l.map f = es at hv hbl ⊢
  generalize hq : a.eval x = v at hv
  cases hv with
  | vecn =>
    have e1 : m = 0 := by simpa using hbl
    subst e1
    have e := run_bounds (P := C.P) hs true 0 0 lo none (h := 0) hlo rfl (by omega) (Nat.le_refl _)
    refine ⟨.slice none 0 0, ?_, by simpa using ARep.vecn _ _ _⟩
    simp at e
    simp [execOp, ho, hq, Instr.sliceAt, Instr.slice, run_underlying h1, e, run_sizeOf C.good hie]
  | vece =>
    rename_i a0
    have e1 : m = 0 := by simpa using hbl
    subst e1
    have e := run_bounds (P := C.P) hs true 0 0 lo none (h := 0) hlo rfl (by omega) (Nat.le_refl _)
    refine ⟨.slice (some a0) 0 0, ?_, by simpa using ARep.vece _ _ _⟩
    simp at e
    simp [execOp, ho, hq, Instr.sliceAt, Instr.slice, run_underlying h1, e, run_sizeOf C.good hie]
  | vec how hb2 hcs hsz hst hr hty =>
    rename_i b off cap c e0
    have hcap : es.length ≤ cap := by cases hr with | nile _ => exact Nat.le_refl _ | slice _ _ hcap => exact hcap
    have e := run_bounds (P := C.P) hs true es.length cap lo none (h := (es.length : Int)) hlo rfl ⟨by omega, by omega, by omega⟩ hcap
    have hdl : (es.drop m).length = es.length - m := List.length_drop
    have hrun : (execOp a.eval o).run C.P w = .ok (.value (.slice (if cap = m then some ⟨b, off, none⟩ else some ⟨b, off + m * ie.size, none⟩) (es.length - m) (cap - m))) w := by
      simp at e
      simp [execOp, ho, hq, Instr.sliceAt, Instr.slice, run_underlying h1, e, run_sizeOf C.good hie, add_lit]
    refine ⟨_, hrun, ?_⟩
    by_cases hc : cap = m
    · rw [if_pos hc]
      have e3 : es.drop m = [] := List.drop_eq_nil_of_le (by omega)
      rw [e3, show es.length - m = 0 by omega, show cap - m = 0 by omega]
      exact .vece _ _ _
    · rw [if_neg hc, ← hdl]
      refine .vec how hb2 ?_ (fun x hx => hsz x (List.mem_of_mem_drop hx)) (fun o => (hst o).trans ?_) ?_ (.inl rfl)
      · rw [hcs, Nat.sub_mul, Nat.add_assoc]
        have := Nat.mul_le_mul_right ie.size (show m ≤ cap by omega)
        omega
      · rw [hdl, Nat.sub_mul, Nat.add_assoc]
        have := Nat.mul_le_mul_right ie.size hbl
        rw [show off + (m * ie.size + (es.length * ie.size - m * ie.size)) = off + es.length * ie.size by omega]
      · cases hr with
        | nile _ => exact absurd (by simp at hbl; omega) hc
        | slice sz' cf hcap' hsz' hone hcc hrr =>
          by_cases hne : es.drop m = []
          · rw [hne]
            exact .slice sz' cf (Nat.zero_le _) (fun e he => by cases he) (fun e he => by cases he) (fun i e j c h => by simp at h) (fun i e j c h => by simp at h)
          · obtain ⟨y, hy⟩ := List.exists_mem_of_ne_nil _ hne
            have e1 : sz' = ie.size := (hsz' y (List.mem_of_mem_drop hy)).symm.trans (hsz y (List.mem_of_mem_drop hy))
            subst e1
            refine .slice ie.size (fun i j => cf (m + i) j) (by omega) (fun x hx => hsz x (List.mem_of_mem_drop hx)) (fun x hx => hone x (List.mem_of_mem_drop hx)) (fun i e j c h1 h2 => ?_) (fun i e j c h1 h2 => ?_)
            · rw [List.getElem?_drop] at h1
              have := hcc (m + i) e j c h1 h2
              rw [Nat.add_mul, show off + (m * ie.size + i * ie.size) + j = off + m * ie.size + i * ie.size + j by omega] at this
              exact this
            · rw [List.getElem?_drop] at h1
              exact hrr (m + i) e j c h1 h2

/-- A row of which nothing is shown is from here on one that grows. -/
theorem ghost_arrVec {j k sz n : Nat} {cs : List AV} (hj : look sl j = some (.arr k sz 0 n)) (hn : n = 0) (hob : look ob k = some cs) : Ghost C ⟨sl, ob⟩ ⟨(j, .vec k sz 0 []) :: sl, ob⟩ := by
  subst hn
  intro g a w hs
  refine ⟨g, { hs with sl := fun i => ?_ }⟩
  simp only [AS.get, look_cons]
  by_cases e : j = i
  · subst e
    rw [if_pos rfl]
    have h6 := hs.sl j
    simp only [AS.get, hj, Option.getD_some] at h6
    generalize a.tmps.getD j Go.undef = vq at h6 ⊢
    simp only [Option.getD_some]
    cases h6 with
    | arr how hb hcs hnc =>
      rename_i b cap c e0
      obtain ⟨b', c', e', h1, h2, h3, h4, h5⟩ := hs.ob k cs hob
      rw [how] at h1; cases h1
      exact .vec (es := []) (off := 0) how hb (by omega) (fun e he => by cases he) (fun o => ⟨fun h => absurd h (h4 o), fun h => by simp at h⟩) (.slice sz (fun _ _ => Go.undef) (Nat.zero_le _) (fun e he => by cases he) (fun e he => by cases he) (fun i e j c h => by simp at h) (fun i e j c h => by simp at h)) (.inl rfl)
  · rw [if_neg e]; exact hs.sl i

/-- An empty literal, as a stack. -/
theorem op_emptyS {t e : TypeId} {i ie : TI} (ho : o.op = .buildSlice t 0 #[]) (hd : o.dst = some d) (hn : Nat.blt d C.n = true)
    (hi : look C.tt t = some i) (hik : i.k = .slice e) (hie : look C.tt e = some ie) (tok sz : Nat)
    (hK : K ⟨(d, .stk tok sz []) :: sl, ob⟩) : OpOk C o K ⟨sl, ob⟩ := by
  obtain ⟨u, h1, h2⟩ := und_of C.good hi
  have h3 := kind_slice (h2.trans hik)
  subst h3
  obtain ⟨j, hj, hj1, hj2, z, hz1, hz2⟩ := info_of C.good hie
  intro g a w hs
  have hrun : (execOp a.eval o).run C.P w = .ok (.value (.slice (some ⟨w.heap.size, 0, none⟩) 0 0)) (w.alloc (.cells #[] e)) := by
    simp [execOp, ho, Instr.buildSlice, run_underlying h1, sizeOf, typeInfo, hj, Instr.fill, newRow]
    congr 2
    apply Array.ext <;> simp
  unfold Oper.wp
  rw [hrun]
  have hst := (hs.settled (fun _ => False) #[] e).put (d := some d) (fun t ht => by cases ht; exact Nat.blt_eq ▸ hn) (.stke tok sz ⟨w.heap.size, 0, none⟩)
  simp only [Oper.upon, hd]
  exact ⟨_, _, hst, hK⟩

/-- append of nothing to a stack. -/
theorem op_appSk0 {t tx e e' : TypeId} {x y : Operand} {k : Nat} {es : List PV} {Y : AV} {i ie j : TI} (ho : o.op = .call { callee := .builtin .append, args := #[x, y], argTypes := #[t, tx] }) (hd : o.dst = some d) (hn : Nat.blt d C.n = true)
    (hi : look C.tt t = some i) (hik : i.k = .slice e) (hie : look C.tt e = some ie) (hj : look C.tt tx = some j) (hjk : j.k = .slice e') (hx : evo sl x = some (.stk k 1 es))
    (hy : evo sl y = some Y) (hY : Y.elems? = some []) (h1s : ie.size = 1)
    (hK : K ⟨(d, .stk k 1 es) :: sl, ob⟩) : OpOk C o K ⟨sl, ob⟩ := by
  refine ok_one hd hn (fun g a w hs => ?_) hK
  obtain ⟨u, h1, h2⟩ := und_of C.good hi
  have h3 := kind_slice (h2.trans hik)
  subst h3
  obtain ⟨u', h1', h2'⟩ := und_of C.good hj
  have h3' := kind_slice (h2'.trans hjk)
  subst h3'
  obtain ⟨info, hf1, hf2, hf3, z, hf4, hf5⟩ := info_of C.good hie
  have hyv := elems_view hY (evo_rep hs hy)
  obtain ⟨news, hsrc, hnews⟩ := src_of (P := C.P) (sz := ie.size) h1' hyv (fun y hy => by cases hy) (by omega)
  have hnl : news = [] := by have := hsrc.newsLen; simpa using this
  subst hnl
  have hxr := evo_rep hs hx
  generalize hxv : a.eval x = xv at hxr
  have hrun0 : ∀ v w', (Builtin.append_ #[t, tx] o.type #[xv, a.eval y]).run C.P w = .ok v w' → (execOp a.eval o).run C.P w = .ok (.value v) w' := by
    intro v w' h
    rw [run_builtin ho]
    simp [builtin, hxv, h]
  cases hxr with
  | stkn => exact ⟨_, hrun0 _ _ (run_append_nothing w t tx o.type e info h1 hf1 none 0 0 (Nat.le_refl _) (a.eval y) (by rw [hf2]; exact hsrc)), .stkn _ _⟩
  | stke => exact ⟨_, hrun0 _ _ (run_append_nothing w t tx o.type e info h1 hf1 _ 0 0 (Nat.le_refl _) (a.eval y) (by rw [hf2]; exact hsrc)), .stke _ _ _⟩
  | stk how hb hcs hlenc hszc hone hst hr =>
    exact ⟨_, hrun0 _ _ (run_append_nothing w t tx o.type e info h1 hf1 _ _ _ hlenc (a.eval y) (by rw [hf2]; exact hsrc)), .stk how hb hcs hlenc hszc hone hst hr⟩

/-! ### In regions that draw -/
theorem demS_ob {D : Nat → Bool} {ob ob' : List (Nat × List AV)} (h : dmO D ob = some ob') : (demS D ⟨sl, ob⟩).ob = ob' := (dmO_ok h).symm
/-- make, whatever rows there are. -/
theorem op_makeO {α : Type} (f : α → PV) (b0 : α) {t e : Nat} {x y : Operand} {i ie : TI} {k k' : IntKind} {n : Int} {z : Value} {ob' : List (Nat × List AV)} (ho : o.op = .makeSlice t x y) (hd : o.dst = some d) (hn : Nat.blt d C.n = true)
    (hi : look C.tt t = some i) (hik : i.k = .slice e) (hie : look C.tt e = some ie) (hs1 : ie.size = 1) (hz : ie.zero = [z]) (hf : f b0 = .val z) (hx : evo sl x = some (.p (.val (.int k n)))) (hy : evo sl y = some (.p (.val (.int k' n))))
    (hb : 0 ≤ n ∧ n ≤ 9223372036854775807 ∧ (ie.bytes : Int) * n ≤ 281474976710656) (h2 : dmO (fun i => Nat.beq i d) ob = some ob')
    (hK : K ⟨(d, .arr d 1 0 (List.replicate n.toNat b0).length) :: sl.map fun p => (p.1, p.2.dem fun i => Nat.beq i d), (d, ((List.replicate n.toNat b0).map f).map .p) :: ob'⟩) : OpOk C o K ⟨sl, ob⟩ := by
  refine ok_make ho hd hn hi hik hie hs1 hz hx hy hb ?_
  rw [demS_ob h2]
  rw [List.map_replicate, hf, List.length_replicate] at hK
  exact hK
/-- A new object, whatever rows there are. -/
theorem ok_boxO {t : TypeId} {v : Operand} {x : AV} {cs ds : List AV} {ob' : List (Nat × List AV)} (ho : o.op = .box t v) (hd : o.dst = some d) (hn : Nat.blt d C.n = true) (hx : evo sl v = some x) (hc : x.cellsA = some cs)
    (hds : demL (fun i => Nat.beq i d) cs = ds) (h2 : dmO (fun i => Nat.beq i d) ob = some ob')
    (hK : K ⟨(d, .ptr d 0) :: sl.map fun p => (p.1, p.2.dem fun i => Nat.beq i d), (d, ds) :: ob'⟩) : OpOk C o K ⟨sl, ob⟩ := by
  refine ok_box ho hd hn hx hc ?_
  subst hds
  rw [demS_ob h2]
  exact hK
/-- What lies at an address in a stack that an object holds. -/
theorem op_loadSkO {α : Type} [Inhabited α] (f : α → PV) (hf : ∀ x, (f x).cells = [f x] ∧ (f x).one = true) (l : List α) (q j : Nat) {cs : List AV} {t : TypeId} {x : Operand} {i : TI} {id : Nat} {n : Int} (ho : o.op = .load t x) (hd : o.dst = some d) (hn : Nat.blt d C.n = true)
    (hi : look C.tt t = some i) (hia : i.k.isAgg = false) (hx : evo sl x = some (.ptr id n.toNat)) (hq : look ob q = some cs) (hj : cs[j]? = some (.stk id 1 (l.map f))) (hb : 0 ≤ n ∧ n < (l.length : Int))
    (hK : K ⟨(d, .p (f (lat l n))) :: sl, ob⟩) : OpOk C o K ⟨sl, ob⟩ := by
  obtain ⟨m, rfl⟩ : ∃ m : Nat, n = m := ⟨n.toNat, by omega⟩
  have hm : m < l.length := by omega
  refine ok_one hd hn (fun g a w hs => ?_) hK
  have h5 := evo_rep hs hx
  generalize hv : a.eval x = v at h5
  cases h5 with
  | ptr how =>
    rename_i b
    obtain ⟨_, c0, _, _, _, _, _, hcs⟩ := hs.ob q cs hq
    obtain ⟨u0, _, h6⟩ := hcs j _ hj
    have hy : (l.map f)[m]? = some (f (lat l (m : Int))) := by rw [List.getElem?_map, List.getElem?_eq_getElem hm, lat_get l m hm]; rfl
    generalize l.map f = es at h6 hy
    cases h6 with
    | stkn => simp at hy
    | stke => simp at hy
    | stk how2 hb hcs hlen hsz hone hst hr =>
      rw [how] at how2; cases how2
      obtain ⟨u, hu, hr2⟩ := hr m _ 0 _ hy (by rw [(hf _).1]; rfl)
      rw [Nat.mul_one, Nat.add_zero] at hu
      have hc := (find_block hs hb m).trans hu
      exact ⟨u, by simp [execOp, ho, hv, Instr.loadAt, Instr.sureAddr, run_loadOne C.good hi hia hc], .p hr2⟩

/-! ### Maps of settled rows -/
theorem rowAV_none (tok sz ty i : Nat) (kv : Bytes × List PV) : rowAV tok sz ty none i kv = .vec (tok + MZ * (i + 1)) sz ty kv.2 := by simp [rowAV]
theorem sub_mprmp (tok sz ty : Nat) {α : Type} (f : α → PV) (L : List (Bytes × List α)) : (AV.mpr tok sz ty none (L.map fun p => (p.1, p.2.map f))).sub (.mp tok (L.map fun p => (p.1, eL f p.2))) := by
  intro w g v h
  cases h with
  | mpr how hb hn hd hk hv =>
    refine .mp how hb (by simpa using hn) ?_ (fun i e kv h1 h2 => ?_) (fun i e kv h1 h2 => ?_)
    · rw [List.map_map] at hd ⊢; exact hd
    · rw [List.getElem?_map, Option.map_eq_some_iff] at h2
      obtain ⟨p, hp, rfl⟩ := h2
      exact hk i e (p.1, p.2.map f) h1 (by rw [List.getElem?_map, hp]; rfl)
    · rw [List.getElem?_map, Option.map_eq_some_iff] at h2
      obtain ⟨p, hp, rfl⟩ := h2
      have := hv i e (p.1, p.2.map f) h1 (by rw [List.getElem?_map, hp]; rfl)
      rw [rowAV_none] at this
      have h3 := AV.sub_vec _ _ _ _ w g _ this
      cases h3 with
      | p h => exact h
theorem op_lookMs {α : Type} (f : α → PV) (L : List (Bytes × List α)) {t kt et : TypeId} {x y : Operand} {i j : TI} {tok : Nat} {k : Bytes} (ho : o.op = .lookup t x y false) (hd : o.dst = some d) (hn : Nat.blt d C.n = true)
    (hi : look C.tt t = some i) (hik : i.k = .map kt et) (hj : look C.tt kt = some j) (hjk : j.k = .string) (hz : (C.P.info? et).map (·.zero) = some (some (.slice none 0 0)))
    (hx : evo sl x = some (.mp tok (L.map fun p => (p.1, eL f p.2)))) (hy : evo sl y = some (.p (eS k))) (hK : K ⟨(d, .p (eL f ((lookM L k).getD []))) :: sl, ob⟩) : OpOk C o K ⟨sl, ob⟩ := by
  refine ok_lookMw ho hd hn hi hik hj hjk hz hx hy (fun w st v h => ?_) hK
  rw [lookM_map (fun l : List α => eL f l) L k] at h
  cases hk : lookM L k with
  | none => rw [hk] at h; cases h; exact .nils
  | some l => rw [hk] at h; exact h
/-- Rows are taken out of a map and put back, in a region that draws. -/
theorem tkS_all (tok e : Nat) (y : AV) : ∀ (l : List (Nat × AV)), tkS tok e y l = some (l.map fun p => (p.1, tkA tok e y p.2))
  | [] => rfl
  | (i, x) :: r => by
    have h : ∀ z : AV, frc z = some z := fun z => by cases z <;> rfl
    simp only [tkS, h, tkS_all tok e y r, List.map_cons]
theorem op_takeMrS {α : Type} (f : α → PV) (L : List (Bytes × List α)) {t kt et : TypeId} {x y : Operand} {i j : TI} {tok sz ty : Nat} {k : Bytes} {ob' : List (Nat × List AV)} (ho : o.op = .lookup t x y false) (hd : o.dst = some d) (hn : Nat.blt d C.n = true)
    (hi : look C.tt t = some i) (hik : i.k = .map kt et) (hj : look C.tt kt = some j) (hjk : j.k = .string) (hz : (C.P.info? et).map (·.zero) = some (some (.slice none 0 0)))
    (hx : evo sl x = some (.mpr tok sz ty none (L.map fun p => (p.1, p.2.map f)))) (hy : evo sl y = some (.p (eS k))) (htok : Nat.blt tok M1 = true) (hdt : Nat.beq d tok = false)
    (h2 : tkO d tok ob = some ob') (hK : K ⟨(d, .vec d sz ty (((lookM L k).getD []).map f)) :: trL (.fn (tkA tok d (.mpr tok sz ty (some k) (L.map fun p => (p.1, p.2.map f))))) sl, ob'⟩) : OpOk C o K ⟨sl, ob⟩ :=
  op_takeMr f L ho hd hn hi hik hj hjk hz hx hy htok hdt (tkS_all _ _ _ _) h2 hK
theorem op_putMrS {α : Type} (f : α → PV) (L : List (Bytes × List α)) (u : List α) {t kt et : TypeId} {x y v : Operand} {i j : TI} {tok sz ty e : Nat} {k : Bytes} {ob' : List (Nat × List AV)} (ho : o.op = .mapUpdate t x y v) (hd : o.dst = none)
    (hi : look C.tt t = some i) (hik : i.k = .map kt et) (hj : look C.tt kt = some j) (hjk : j.k = .string)
    (hx : evo sl x = some (.mpr tok sz ty (some k) (L.map fun p => (p.1, p.2.map f)))) (hy : evo sl y = some (.p (eS k))) (hv : evo sl v = some (.vec e sz ty (u.map f))) (htok : Nat.blt tok M1 = true) (hel : Nat.blt e M1 = true) (het : Nat.beq e tok = false)
    (h2 : tkO e tok ob = some ob') (hK : K ⟨trL (.fn (tkA tok e (.mpr tok sz ty none ((putM L k u).map fun p => (p.1, p.2.map f))))) sl, ob'⟩) : OpOk C o K ⟨sl, ob⟩ :=
  op_putMr f L u ho hd hi hik hj hjk hx hy hv htok hel het (tkS_all _ _ _ _) h2 hK
end
end Go.Ab
