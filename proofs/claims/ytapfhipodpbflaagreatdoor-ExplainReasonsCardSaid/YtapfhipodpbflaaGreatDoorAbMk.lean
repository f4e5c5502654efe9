/- A layer of abstract values: rows that are made empty, with a capacity of their own. -/
import Derived.Test.YtapfhipodpbflaaGreatDoorAbO
import Derived.Test.YtapfhipodpbflaaGreatDoorAbMc
set_option linter.unusedVariables false
set_option linter.unusedSimpArgs false
set_option linter.unnecessarySimpa false
namespace Go.Ab
section
variable {C : Cx} {o : Oper} {K : AS → Prop} {sl : List (Nat × AV)} {ob : List (Nat × List AV)} {d : Nat}

theorem run_make0 {P : Program} {tt : List (Nat × TI)} (good : TyGood P tt) {t e : Nat} {i ie : TI} (hi : look tt t = some i) (hik : i.k = .slice e) (hie : look tt e = some ie) (k k' : IntKind) {m : Int} (hb : 0 ≤ m ∧ m ≤ 9223372036854775807 ∧ (ie.bytes : Int) * m ≤ 281474976710656) (w : World) :
    ∃ c : Array Value, c.size = m.toNat * ie.size ∧ (Instr.makeSlice t (.int k 0) (.int k' m)).run P w = .ok (.slice (some ⟨w.heap.size, 0, none⟩) 0 m.toNat) (w.alloc (.cells c e)) := by
  obtain ⟨u, h1, h2⟩ := und_of good hi
  have h3 := kind_slice (h2.trans hik)
  subst h3
  obtain ⟨j, hj, hj1, hj2, zz, hz1, hz2⟩ := info_of good hie
  have hrun := run_make (P := P) w t e j zz h1 hj hz1 k k' 0 m (Int.le_refl _) hb.1 (by rw [hj2]; exact hb.2.2) hb.2.1
  exact ⟨_, by rw [size_madeCells, hj1], hrun⟩

/-- make([]T, 0, m), a row that may grow. -/
theorem op_makeV {t e : Nat} {x y : Operand} {i ie : TI} {k k' : IntKind} {m : Int} (ho : o.op = .makeSlice t x y) (hd : o.dst = some d) (hn : Nat.blt d C.n = true)
    (hi : look C.tt t = some i) (hik : i.k = .slice e) (hie : look C.tt e = some ie) (hx : evo sl x = some (.p (.val (.int k 0)))) (hy : evo sl y = some (.p (.val (.int k' m))))
    (hb : 0 ≤ m ∧ m ≤ 9223372036854775807 ∧ (ie.bytes : Int) * m ≤ 281474976710656) {sz : Nat} (hsz : ie.size = sz) {ob' : List (Nat × List AV)} (hob : dmO (fun i => Nat.beq i d) ob = some ob')
    (hK : K ⟨(d, .vec d sz 0 []) :: (demS (fun i => Nat.beq i d) ⟨sl, ob⟩).sl, ob'⟩) : OpOk C o K ⟨sl, ob⟩ := by
  subst hsz
  have e1 := (dmO_ok hob).symm
  have hdl : d < M1 := by have h1 := Nat.le_of_ble_eq_true C.nl; have h2 : d < C.n := Nat.blt_eq ▸ hn; omega
  intro g a w hs
  obtain ⟨c, hc, hrun⟩ := run_make0 C.good hi hik hie k k' hb w
  have hf := hs.fresh (fun i => Nat.beq i d) (fun i hi => by have := Nat.eq_of_beq_eq_true hi; omega) d (by simp) (fun _ => False) c e
  have hp := hf.put (d := some d) (fun t ht => by cases ht; exact Nat.blt_eq ▸ hn) (x := .vec d ie.size 0 []) (v := .slice (some ⟨w.heap.size, 0, none⟩) 0 m.toNat)
    (.vec (off := 0) (cap := m.toNat) (by simp) heap_alloc_at (by simpa using hc) (by simp) (fun o => by simp only [List.length_nil, Nat.zero_mul, Nat.add_zero, Nat.not_lt_zero, iff_false]; rintro (q | ⟨_, q⟩); exact absurd (hs.lt _ _ q) (by omega); exact q)
      (PRep.slice (es := []) 0 (fun _ _ => Go.undef) (Nat.zero_le _) (by simp) (by simp) (fun i e j c h => by simp at h) (fun i e j c h => by simp at h)) (.inl rfl))
  unfold Oper.wp
  have hrun' : (execOp a.eval o).run C.P w = .ok (.value (.slice (some ⟨w.heap.size, 0, none⟩) 0 m.toNat)) (w.alloc (.cells c e)) := by
    simp only [execOp, ho, evo_val hs hx, evo_val hs hy, Sem.run_bind, hrun, Result.andThen_ok, Sem.run_pure]
  rw [hrun']
  simp only [Oper.upon, hd]
  rw [← show (demS (fun i => Nat.beq i d) ⟨sl, ob⟩).ob = ob' from e1] at hK
  exact ⟨_, _, hp, hK⟩
/-- make([]T, 0, m), a row that may be written. -/
theorem op_makeA {t e : Nat} {x y : Operand} {i ie : TI} {k k' : IntKind} {m : Int} (ho : o.op = .makeSlice t x y) (hd : o.dst = some d) (hn : Nat.blt d C.n = true)
    (hi : look C.tt t = some i) (hik : i.k = .slice e) (hie : look C.tt e = some ie) (hx : evo sl x = some (.p (.val (.int k 0)))) (hy : evo sl y = some (.p (.val (.int k' m))))
    (hb : 0 ≤ m ∧ m ≤ 9223372036854775807 ∧ (ie.bytes : Int) * m ≤ 281474976710656) {sz : Nat} (hsz : ie.size = sz) {ob' : List (Nat × List AV)} (hob : dmO (fun i => Nat.beq i d) ob = some ob')
    (hK : K ⟨(d, .arr d sz 0 0) :: (demS (fun i => Nat.beq i d) ⟨sl, ob⟩).sl, (d, []) :: ob'⟩) : OpOk C o K ⟨sl, ob⟩ := by
  subst hsz
  have e1 := (dmO_ok hob).symm
  have hdl : d < M1 := by have h1 := Nat.le_of_ble_eq_true C.nl; have h2 : d < C.n := Nat.blt_eq ▸ hn; omega
  intro g a w hs
  obtain ⟨c, hc, hrun⟩ := run_make0 C.good hi hik hie k k' hb w
  have hf := hs.fresh (fun i => Nat.beq i d) (fun i hi => by have := Nat.eq_of_beq_eq_true hi; omega) d (by simp) (fun _ => False) c e
  have hp := hf.put (d := some d) (fun t ht => by cases ht; exact Nat.blt_eq ▸ hn) (x := .arr d ie.size 0 0) (v := .slice (some ⟨w.heap.size, 0, none⟩) 0 m.toNat)
    (.arr (cap := m.toNat) (by simp) heap_alloc_at (by simpa using hc) (Nat.zero_le _))
  have hob := hp.addOb (d := d) (cs := []) (by
    refine ⟨w.heap.size, c, e, by simp, heap_alloc_at, by simp, fun o ho => ?_, fun i x hx => by simp at hx⟩
    rcases ho with ho | ⟨_, ho⟩
    · exact absurd (hs.lt _ _ ho) (Nat.lt_irrefl _)
    · exact ho)
  unfold Oper.wp
  have hrun' : (execOp a.eval o).run C.P w = .ok (.value (.slice (some ⟨w.heap.size, 0, none⟩) 0 m.toNat)) (w.alloc (.cells c e)) := by
    simp only [execOp, ho, evo_val hs hx, evo_val hs hy, Sem.run_bind, hrun, Result.andThen_ok, Sem.run_pure]
  rw [hrun']
  simp only [Oper.upon, hd]
  rw [← show (demS (fun i => Nat.beq i d) ⟨sl, ob⟩).ob = ob' from e1] at hK
  exact ⟨_, _, hob, hK⟩
end
end Go.Ab
