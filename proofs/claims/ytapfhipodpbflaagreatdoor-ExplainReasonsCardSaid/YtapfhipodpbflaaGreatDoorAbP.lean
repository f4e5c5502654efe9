/- A layer of abstract values over the model's worlds, part N: regions whose operations run in an order that is drawn. It holds for every program. A layer of abstract values over the model's worlds, part P: what the printed walks use: functions that may have no answer, cuts, loops with fuel. It holds for every program. A layer of abstract values over the model's worlds, part Q: regions whose operations run in an order that is drawn, with what each operation must know written out. It holds for every program. -/
import Derived.Test.YtapfhipodpbflaaGreatDoorAbK
import Derived.Orders
set_option linter.unusedVariables false
set_option linter.unusedSimpArgs false
set_option linter.unnecessarySimpa false
namespace Go.Ab

/-- One operation of a region, with its guard. -/
def One (C : Cx) (ops : Array Oper) (o : Oper) (K : AS → Prop) (s : AS) : Prop := ∀ i, ops[i]? = some o → rwp C ops [i] K s

section
variable {C : Cx} {ops : Array Oper} {K : AS → Prop} {sl : List (Nat × AV)} {ob : List (Nat × List AV)} {o : Oper} {j t d : Nat}
theorem one_op {s : AS} (hg : o.guard = none) (h : OpOk C o K s) : One C ops o K s :=
  fun i ho => rwp_op ho hg (h.mono fun _ h => rwp_nil h)
theorem one_guard {want b : Bool} (hg : o.guard = some (j, want)) (hj : (ops.toList[j]?).bind (·.dst) = some t) (hv : look sl t = some (.p (.val (.bool b))))
    (hd : o.dst = some d) (hn : Nat.blt d C.n = true) (h1 : b = want → OpOk C o K ⟨sl, ob⟩) (h2 : b = !want → K ⟨(d, .p (.val Go.undef)) :: sl, ob⟩) : One C ops o K ⟨sl, ob⟩ := by
  intro i ho
  refine rwp_guard ho hg (t := t) (by simpa using hj) (by simp [AS.get, hv]) (fun t ht => by rw [hd] at ht; cases ht; exact Nat.blt_eq ▸ hn) (fun e => (h1 e).mono fun _ h => rwp_nil h) (fun e => rwp_nil ?_)
  rw [hd]; exact h2 e
theorem one_yes {want b : Bool} (h1 : OpOk C o K ⟨sl, ob⟩) (hg : o.guard = some (j, want)) (hj : (ops.toList[j]?).bind (·.dst) = some t) (hv : look sl t = some (.p (.val (.bool b)))) (hb : b = want) : One C ops o K ⟨sl, ob⟩ := by
  intro i ho
  exact rwp_guard_yes ho hg (t := t) (by simpa using hj) (by simp [AS.get, hv]) hb (h1.mono fun _ h => rwp_nil h)
theorem one_no {want b : Bool} (hg : o.guard = some (j, want)) (hj : (ops.toList[j]?).bind (·.dst) = some t) (hv : look sl t = some (.p (.val (.bool b)))) (hb : b = !want)
    (hd : o.dst = some d) (hn : Nat.blt d C.n = true) (h2 : K ⟨(d, .p (.val Go.undef)) :: sl, ob⟩) : One C ops o K ⟨sl, ob⟩ := by
  intro i ho
  refine rwp_guard_no ho hg (t := t) (by simpa using hj) (by simp [AS.get, hv]) hb (fun t ht => by rw [hd] at ht; cases ht; exact Nat.blt_eq ▸ hn) (rwp_nil ?_)
  rw [hd]; exact h2
theorem one_none {want : Bool} (hg : o.guard = some (j, want)) (hj : (ops.toList[j]?).bind (·.dst) = some t) (hv : look sl t = some (.p (.val Go.undef)))
    (hd : o.dst = some d) (hn : Nat.blt d C.n = true) (h2 : K ⟨(d, .p (.val Go.undef)) :: sl, ob⟩) : One C ops o K ⟨sl, ob⟩ := by
  intro i ho
  refine rwp_guard_none ho hg (t := t) (by simpa using hj) (by simp [AS.get, hv]) (fun t ht => by rw [hd] at ht; cases ht; exact Nat.blt_eq ▸ hn) (rwp_nil ?_)
  rw [hd]; exact h2
end

/-- What is known when an operation runs: what the operations gave that must run ahead of it, and what none of them writes. -/
def knownAt (base : List (Nat × AV)) (o : Oper) (rs : List (Nat × AV)) : List (Nat × AV) :=
  (o.after.toList.filterMap fun e => if Region.binds .any e then rs[e.on]? else none) ++ base

def Step (C : Cx) (ops : Array Oper) (base : List (Nat × AV)) (ob : List (Nat × List AV)) (o : Oper) (rs : List (Nat × AV)) (d : Nat) (r : AV) : Prop :=
  ∀ sl, (∀ i x, look (knownAt base o rs) i = some x → look sl i = some x) → ∀ K : AS → Prop, K ⟨(d, r) :: sl, ob⟩ → One C ops o K ⟨sl, ob⟩

/-- A drawing region, in the order of its text; rs: what the operations so far give. -/
def DR (C : Cx) (ops : Array Oper) (base : List (Nat × AV)) (ob : List (Nat × List AV)) (K : AS → Prop) : List Oper → List (Nat × AV) → Prop
  | [], rs => K ⟨rs.reverse ++ base, ob⟩
  | o :: rest, rs => ∃ d r, o.dst = some d ∧ look (rs.reverse ++ base) d = none ∧ Step C ops base ob o rs d r ∧ DR C ops base ob K rest (rs ++ [(d, r)])

theorem dr_cons {C : Cx} {ops : Array Oper} {base : List (Nat × AV)} {ob : List (Nat × List AV)} {K : AS → Prop} {o : Oper} {rest : List Oper} {rs : List (Nat × AV)} {d : Nat} (r : AV)
    (hs : Step C ops base ob o rs d r) (hd : o.dst = some d) (hf : look (rs.reverse ++ base) d = none) (h : DR C ops base ob K rest (rs ++ [(d, r)])) : DR C ops base ob K (o :: rest) rs :=
  ⟨d, r, hd, hf, hs, h⟩

def BaseIn (sl : List (Nat × AV)) : List (Nat × AV) → Prop
  | [] => True
  | (i, x) :: r => look sl i = some x ∧ BaseIn sl r

theorem baseIn_look {sl : List (Nat × AV)} : ∀ {base : List (Nat × AV)}, BaseIn sl base → ∀ i x, look base i = some x → look sl i = some x
  | [], _, i, x, h => by simp [look] at h
  | (j, y) :: r, hb, i, x, h => by
    rw [look_cons] at h
    by_cases e : j = i
    · rw [if_pos e] at h; cases h; subst e; exact hb.1
    · rw [if_neg e] at h; exact baseIn_look hb.2 i x h

theorem look_none {l : List (Nat × AV)} {i : Nat} (h : look l i = none) : ∀ p ∈ l, p.1 ≠ i := by
  induction l with
  | nil => simp
  | cons q l ih =>
    obtain ⟨j, x⟩ := q
    rw [look_cons] at h
    by_cases e : j = i
    · rw [if_pos e] at h; cases h
    · rw [if_neg e] at h
      intro p hp
      rcases List.mem_cons.1 hp with rfl | hp
      · exact e
      · exact ih h p hp

/-- All results; each of its own slot. -/
theorem dr_spec {C : Cx} {ops : Array Oper} {base : List (Nat × AV)} {ob : List (Nat × List AV)} {K : AS → Prop} : ∀ {l : List Oper} {pre : List (Nat × AV)}, DR C ops base ob K l pre →
    ∃ tail : List (Nat × AV), tail.length = l.length ∧ K ⟨(pre ++ tail).reverse ++ base, ob⟩ ∧
      ∀ (i : Nat) o, l[i]? = some o → ∃ d r, tail[i]? = some (d, r) ∧ o.dst = some d ∧ Step C ops base ob o (pre ++ tail.take i) d r ∧
        (∀ p ∈ pre ++ tail.take i, p.1 ≠ d) ∧ (∀ p ∈ base, p.1 ≠ d)
  | [], pre, h => ⟨[], rfl, by rw [List.append_nil]; exact h, fun i o h => by simp at h⟩
  | o :: rest, pre, ⟨d, r, hd, hf, hs, h⟩ => by
    obtain ⟨tail, h1, h2, h3⟩ := dr_spec h
    have hne := look_none hf
    refine ⟨(d, r) :: tail, by simp [h1], by simpa using h2, fun i o' ho => ?_⟩
    cases i with
    | zero =>
      simp only [List.getElem?_cons_zero, Option.some.injEq] at ho
      subst ho
      refine ⟨d, r, rfl, hd, by simpa using hs, fun p hp => hne p ?_, fun p hp => hne p (List.mem_append.2 (.inr hp))⟩
      simp only [List.take_zero, List.append_nil] at hp
      exact List.mem_append.2 (.inl (List.mem_reverse.2 hp))
    | succ i =>
      simp only [List.getElem?_cons_succ] at ho
      obtain ⟨d', r', h4, h5, h6, h7, h8⟩ := h3 i o' ho
      exact ⟨d', r', by simpa using h4, h5, by simpa using h6, by simpa using h7, h8⟩

theorem upon_mono2 {P : Program} {o : Oper} {a : Act} {next next' : Act → World → Prop} {Q Q' : Exit → Act → World → Prop} {r : Result Next}
    (hn : ∀ a w, next a w → next' a w) (hq : ∀ e a w, e ≠ .normal → Q e a w → Q' e a w) (h : o.upon P a next Q r) : o.upon P a next' Q' r := by
  cases r with
  | halt x w =>
    cases x <;> simp only [Oper.upon] at h ⊢
    exact hq _ _ _ (by simp) h
  | ok x w =>
    cases x <;> simp only [Oper.upon] at h ⊢
    case value v => exact hn _ _ h
    case skip => exact hn _ _ h
    case defer d => exact hn _ _ h
    case enter f args =>
      refine h.mono fun e w' h => ?_
      cases e with
      | returned v => exact hn _ _ h
      | panicked c => exact hq _ _ _ (by simp) h
      | outgrown => obtain ⟨a0, w1, h⟩ := h; exact ⟨a0, w1, hq _ _ _ (by simp) h⟩
    case row r args => exact h.mono fun v w' h => hn _ _ h

theorem wpOp_of {P : Program} {ops : Array Oper} {i : Nat} {R : Act → World → Prop} {K : Act → World → Prop} {Q : Exit → Act → World → Prop} {a : Act} {w : World}
    (h : wpOps P ops (fun e a' w' => e = .normal ∧ R a' w') [i] a w) (hk : ∀ a' w', R a' w' → K a' w') : wpOp P ops Q i K a w := by
  rw [wpOps_cons] at h
  unfold wpOp at h ⊢
  cases ho : ops[i]? with
  | none => simp only [ho, wpOps] at h; exact hk _ _ h.2
  | some o =>
    simp only [ho] at h ⊢
    split
    · rename_i hw
      rw [if_pos hw] at h
      rcases h with h | ⟨_, a0, w1, hq, _⟩
      · exact .inl (upon_mono2 (fun a w h => hk _ _ (by simpa [wpOps] using h)) (fun e a w hne h => absurd h.1 hne) h)
      · cases hq
    · rename_i hw
      rw [if_neg hw] at h
      exact hk _ _ (by simpa [wpOps] using h)

def unl (n : Nat) (listed : Array Bool) : Nat := ((List.range n).filter fun j => !listed.getD j false).length

theorem unl_set {n i : Nat} {listed : Array Bool} (hs : listed.size = n) (hi : i < n) (h : listed.getD i true = false) : unl n (listed.setIfInBounds i true) + 1 = unl n listed := by
  unfold unl
  have hf : listed.getD i false = false := by
    have : listed[i]? = some listed[i] := Array.getElem?_eq_getElem (by omega)
    simp only [Array.getD_eq_getD_getElem?, this, Option.getD_some] at h ⊢
    exact h
  have key : ∀ l : List Nat, l.Nodup → i ∈ l → ((l.filter fun j => !(listed.setIfInBounds i true).getD j false).length + 1 = (l.filter fun j => !listed.getD j false).length) := by
    intro l
    induction l with
    | nil => intro _ h; cases h
    | cons k l ih =>
      intro hn hm
      obtain ⟨hk, hn'⟩ := List.nodup_cons.1 hn
      by_cases e : k = i
      · subst e
        have h1 : (listed.setIfInBounds k true).getD k false = true := by
          have : k < listed.size := by omega
          simp [this]
        have h2 : (l.filter fun j => !(listed.setIfInBounds k true).getD j false) = l.filter fun j => !listed.getD j false := by
          refine List.filter_congr fun j hj => ?_
          rw [getD_set_ne false (fun e => hk (by rw [e]; exact hj))]
        rw [List.filter_cons_of_neg (by rw [h1]; simp), List.filter_cons_of_pos (by rw [hf]; rfl), h2]
        rfl
      · have hm' : i ∈ l := (List.mem_cons.1 hm).resolve_left (fun h => e h.symm)
        have := ih hn' hm'
        have h1 : (listed.setIfInBounds i true).getD k false = listed.getD k false := getD_set_ne false (fun h => e h.symm)
        cases hv : listed.getD k false
        · rw [List.filter_cons_of_pos (by rw [h1, hv]; rfl), List.filter_cons_of_pos (by rw [hv]; rfl), List.length_cons, List.length_cons, ← this]
        · rw [List.filter_cons_of_neg (by rw [h1, hv]; simp), List.filter_cons_of_neg (by rw [hv]; simp)]
          exact this
  exact key _ List.nodup_range (List.mem_range.2 hi)

theorem unl_zero {n : Nat} {listed : Array Bool} (h : unl n listed = 0) : ∀ j, j < n → listed.getD j false = true := by
  intro j hj
  have h1 := List.length_eq_zero_iff.1 h
  have h2 := List.filter_eq_nil_iff.1 h1 j (List.mem_range.2 hj)
  simpa using h2

/-- Of what is not listed the first is ready. -/
theorem ready_some {ops : Array Oper} {listed : Array Bool} (hs : listed.size = ops.size) (hord : ∀ (j : Nat) o, ops[j]? = some o → ∀ e ∈ o.after, Region.binds .any e = true → e.on < j) (h : Region.ready .any ops listed = []) :
    ∀ j, j < ops.size → listed.getD j false = true := by
  intro j
  induction j using Nat.strongRecOn with
  | ind j ih =>
    intro hj
    cases hv : listed.getD j false with
    | true => rfl
    | false =>
      have hjl : j < listed.size := by omega
      have : j ∈ Region.ready .any ops listed := by
        rw [mem_ready]
        refine ⟨?_, ops[j], Array.getElem?_eq_getElem hj, fun e he hb => ?_⟩
        · simp only [Array.getD_eq_getD_getElem?, Array.getElem?_eq_getElem hjl, Option.getD_some] at hv ⊢
          exact hv
        · have hlt := hord j _ (Array.getElem?_eq_getElem hj) e he hb
          exact ih e.on hlt (by omega)
      rw [h] at this
      cases this

theorem key_le {sl sl' : List (Nat × AV)} {ob : List (Nat × List AV)} (key : ∀ i x, look sl i = some x → look sl' i = some x) : (⟨sl', ob⟩ : AS).le ⟨sl, ob⟩ := by
  refine ⟨fun j x hx => ?_, fun id cs hc => ?_⟩
  · have := key j x hx
    simp only [AS.get, this, Option.getD_some]; exact AV.sub_refl _
  · exact ⟨cs, hc, (subL_spec (subL_refl cs)).1, (subL_spec (subL_refl cs)).2⟩

theorem awp_draw {C : Cx} {id : Nat} {ops : Array Oper} {Q : Exit → AS → Prop} {sl : List (Nat × AV)} {ob : List (Nat × List AV)} (base : List (Nat × AV)) (hm : C.P.follows .mixedOrders = true) (hb : BaseIn sl base)
    (hord : (ops.toList.zipIdx.all fun p => p.1.after.toList.all fun e => !(Region.binds .any e) || Nat.blt e.on p.2) = true) (h : DR C ops base ob (Q .normal) ops.toList []) : awp C (.region id ops true) Q ⟨sl, ob⟩ := by
  intro g a w hs
  obtain ⟨rs, hlen, hfin, hstep⟩ := dr_spec h
  simp only [List.nil_append, Array.length_toList] at hlen hfin hstep
  have hord' : ∀ (j : Nat) o, ops[j]? = some o → ∀ e ∈ o.after, Region.binds .any e = true → e.on < j := by
    intro j o ho e he hbe
    have h1 := List.all_eq_true.1 hord (o, j) (by
      rw [List.mem_iff_getElem?]
      exact ⟨j, by rw [List.getElem?_zipIdx, Array.getElem?_toList, ho]; simp⟩)
    have h2 := List.all_eq_true.1 h1 e (Array.mem_toList_iff.2 he)
    simp only [hbe, Bool.not_true, Bool.false_or] at h2
    exact Nat.blt_eq ▸ h2
  -- slots are apart
  have hap : ∀ (i j : Nat) p q, rs[i]? = some p → rs[j]? = some q → i < j → p.1 ≠ q.1 := by
    intro i j p q h1 h2 hij
    have hj : j < ops.size := by have := (List.getElem?_eq_some_iff.1 h2).1; omega
    obtain ⟨d, r, h3, _, _, h4, _⟩ := hstep j ops[j] (by rw [Array.getElem?_toList, Array.getElem?_eq_getElem hj])
    rw [h2] at h3; cases h3
    refine h4 p ?_
    rw [List.mem_iff_getElem?]
    exact ⟨i, by rw [List.getElem?_take_of_lt hij]; exact h1⟩
  have main : ∀ (fuel : Nat) (listed : Array Bool) (g : Gh) (a : Act) (w : World) (sl' : List (Nat × AV)), listed.size = ops.size → unl ops.size listed = fuel → St C.n C.w0 C.F g ⟨sl', ob⟩ a w →
      (∀ i x, look base i = some x → look sl' i = some x) → (∀ (j : Nat) p, listed.getD j false = true → rs[j]? = some p → look sl' p.1 = some p.2) →
      wpAny C.P .any ops (fun e a' w' => ∃ g' s', St C.n C.w0 C.F g' s' a' w' ∧ Q e s') fuel listed a w := by
    have fin : ∀ (listed : Array Bool) (g : Gh) (a : Act) (w : World) (sl' : List (Nat × AV)), (∀ j, j < ops.size → listed.getD j false = true) → St C.n C.w0 C.F g ⟨sl', ob⟩ a w →
        (∀ i x, look base i = some x → look sl' i = some x) → (∀ (j : Nat) p, listed.getD j false = true → rs[j]? = some p → look sl' p.1 = some p.2) →
        ∃ g' s', St C.n C.w0 C.F g' s' a w ∧ Q .normal s' := by
      intro listed g a w sl' hall hs hbase hres
      refine ⟨g, _, hs.weaken ?_, hfin⟩
      have key : ∀ i x, look (rs.reverse ++ base) i = some x → look sl' i = some x := by
        intro i x hx
        rcases List.mem_append.1 (look_mem hx) with hx' | hx'
        · obtain ⟨j, hj⟩ := List.mem_iff_getElem?.1 (List.mem_reverse.1 hx')
          have hjl : j < ops.size := by have := (List.getElem?_eq_some_iff.1 hj).1; omega
          exact hres j (i, x) (hall j hjl) hj
        · have : look rs.reverse i = none := by
            cases hr : look rs.reverse i with
            | none => rfl
            | some y =>
              obtain ⟨j, hj⟩ := List.mem_iff_getElem?.1 (List.mem_reverse.1 (look_mem hr))
              have hjl : j < ops.size := by have := (List.getElem?_eq_some_iff.1 hj).1; omega
              obtain ⟨d, r, h3, _, _, _, h4⟩ := hstep j ops[j] (by rw [Array.getElem?_toList, Array.getElem?_eq_getElem hjl])
              rw [hj] at h3; cases h3
              exact absurd rfl (h4 _ hx')
          rw [look_append, this] at hx
          exact hbase i x (by simpa using hx)
      exact key_le key
    intro fuel
    induction fuel with
    | zero =>
      intro listed g a w sl' hsz hu hs hbase hres
      have hall := unl_zero hu
      refine ⟨?_, fin listed g a w sl' hall hs hbase hres⟩
      rw [List.eq_nil_iff_forall_not_mem]
      intro i hi
      obtain ⟨h1, o, ho, _⟩ := mem_ready.1 hi
      have hil : i < ops.size := (Array.getElem?_eq_some_iff.1 ho).1
      have h2 := hall i hil
      have hil2 : i < listed.size := by omega
      simp only [Array.getD_eq_getD_getElem?, Array.getElem?_eq_getElem hil2, Option.getD_some] at h1 h2
      rw [h1] at h2; cases h2
    | succ fuel ih =>
      intro listed g a w sl' hsz hu hs hbase hres
      refine ⟨fun hr => fin listed g a w sl' (ready_some hsz hord' hr) hs hbase hres, fun i hi => ?_⟩
      obtain ⟨h1, o, ho, hafter⟩ := mem_ready.1 hi
      have hil : i < ops.size := (Array.getElem?_eq_some_iff.1 ho).1
      obtain ⟨d, r, h3, h4, h5, h6, h7⟩ := hstep i o (by rw [Array.getElem?_toList]; exact ho)
      have hkn : ∀ k x, look (knownAt base o (rs.take i)) k = some x → look sl' k = some x := by
        intro k x hx
        unfold knownAt at hx
        rw [look_append] at hx
        cases hq : look (o.after.toList.filterMap fun e => if Region.binds .any e then (rs.take i)[e.on]? else none) k with
        | none => rw [hq] at hx; exact hbase k x (by simpa using hx)
        | some y =>
          rw [hq] at hx
          simp only [Option.some_or, Option.some.injEq] at hx
          subst hx
          obtain ⟨e, he, hex⟩ := List.mem_filterMap.1 (look_mem hq)
          by_cases hbn : Region.binds .any e = true
          · rw [if_pos hbn] at hex
            have he' := Array.mem_toList_iff.1 he
            have hlt := hord' i o ho e he' hbn
            rw [List.getElem?_take_of_lt hlt] at hex
            exact hres e.on (k, y) (hafter e he' hbn) hex
          · rw [if_neg hbn] at hex; cases hex
      have hone := h5 sl' hkn (fun s => s = ⟨(d, r) :: sl', ob⟩) rfl i ho
      refine wpOp_of (hone g a w hs) ?_
      rintro a' w' ⟨g', s', hs', rfl⟩
      refine ih _ g' a' w' ((d, r) :: sl') (by simpa using hsz) ?_ hs' (fun k x hx => ?_) (fun j p hj hp => ?_)
      · have := unl_set hsz hil h1; omega
      · rw [look_cons, if_neg]
        · exact hbase k x hx
        · intro e; subst e
          exact h7 _ (look_mem hx) rfl
      · rw [look_cons]
        by_cases e : j = i
        · subst e
          rw [h3] at hp; cases hp
          rw [if_pos rfl]
        · have hjl : j < ops.size := by have := (List.getElem?_eq_some_iff.1 hp).1; omega
          rw [if_neg]
          · refine hres j p ?_ hp
            rw [getD_set_ne false (fun h => e h.symm)] at hj
            exact hj
          · intro he
            rcases Nat.lt_or_gt_of_ne e with hlt | hlt
            · exact hap j i _ _ hp h3 hlt he.symm
            · exact hap i j _ _ h3 hp hlt he
  refine wp_region_any hm ?_
  refine main ops.size _ g a _ sl (by simp) ?_ hs.drew (fun i x hx => baseIn_look hb i x hx) (fun j p hj _ => ?_)
  · unfold unl
    rw [List.filter_eq_self.2, List.length_range]
    intro j hj
    have := List.mem_range.1 hj
    simp [this]
  · exfalso
    rw [Array.getD_eq_getD_getElem?, Array.getElem?_replicate] at hj
    split at hj <;> simp at hj

theorem dr_nil {C : Cx} {ops : Array Oper} {base : List (Nat × AV)} {ob : List (Nat × List AV)} {K : AS → Prop} {rs : List (Nat × AV)} (h : K ⟨rs.reverse ++ base, ob⟩) : DR C ops base ob K [] rs := h

theorem args_nil {sl : List (Nat × AV)} : argsA sl [] = some [] := rfl
theorem args_cons {sl : List (Nat × AV)} {x : Operand} {r : List Operand} {a : AV} {q : List AV} (h1 : evo sl x = some a) (h2 : argsA sl r = some q) : argsA sl (x :: r) = some (a :: q) := by
  simp only [argsA, h1, h2]
theorem lo_some {sl : List (Nat × AV)} {x : Operand} {k : IntKind} {n : Int} (h : evo sl x = some (.p (.val (.int k n)))) : loI sl (some x) = some n := by
  simp only [loI, h]

end Go.Ab

namespace Go.Ab

/-! ### Values -/
abbrev Bytes := List UInt8
def eI (n : Int) : PV := .val (.int .i64 n)
def eK (k : IntKind) (n : Int) : PV := .val (.int k n)
def eS (l : Bytes) : PV := .val (.string (str l))
def eB (b : Bool) : PV := .val (.bool b)
def eL {α : Type} (f : α → PV) (l : List α) : PV := .slice (l.map f)

/-- A byte of a text, an element of a list, a part. -/
def byt (l : Bytes) (i : Int) : Int := ((l.getD i.toNat 0).toNat : Int)
def lat {α : Type} [Inhabited α] (l : List α) (i : Int) : α := l.getD i.toNat default
def sub {α : Type} (l : List α) (i j : Int) : List α := (l.take j.toNat).drop i.toNat

/-! ### Functions that may have no answer -/
def ck {α : Type} (p : Prop) [Decidable p] (k : Option α) : Option α := if p then k else none
def inR (c : Int) : Prop := -9223372036854775808 ≤ c ∧ c ≤ 9223372036854775807
instance (c : Int) : Decidable (inR c) := inferInstanceAs (Decidable (_ ∧ _))
def jn {α β : Type} (o : Option (α ⊕ β)) (k : α → Option β) : Option β := match o with
  | none => none
  | some (.inl v) => k v
  | some (.inr x) => some x

theorem ck_pos {α : Type} {p : Prop} [Decidable p] {k : Option α} (h : p) : ck p k = k := if_pos h
theorem ck_cut {α : Type} {p : Prop} [Decidable p] {k : Option α} {r : α} (h : ck p k = some r) : p ∧ k = some r := by
  unfold ck at h
  split at h
  · rename_i hp; exact ⟨hp, h⟩
  · cases h
theorem bd_cut {α β : Type} {o : Option α} {f : α → Option β} {r : β} (h : o.bind f = some r) : ∃ x, o = some x ∧ f x = some r := by
  cases o with
  | none => cases h
  | some x => exact ⟨x, rfl, h⟩
theorem jn_cut {α β : Type} {o : Option (α ⊕ β)} {k : α → Option β} {r : β} (h : jn o k = some r) : ∃ v, o = some v ∧ (∀ x, v = .inl x → k x = some r) ∧ (∀ x, v = .inr x → x = r) := by
  cases o with
  | none => cases h
  | some v =>
    refine ⟨v, rfl, fun x e => ?_, fun x e => ?_⟩
    · subst e; exact h
    · subst e; exact Option.some.inj h
theorem if_t {α : Type} {c : Prop} [Decidable c] {a b : Option α} {r : α} (hc : c) (h : (if c then a else b) = some r) : a = some r := by rwa [if_pos hc] at h
theorem if_f {α : Type} {c : Prop} [Decidable c] {a b : Option α} {r : α} (hc : ¬c) (h : (if c then a else b) = some r) : b = some r := by rwa [if_neg hc] at h
theorem if_bf {α : Type} {c : Bool} {a b : Option α} {r : α} (hc : c = false) (h : (if c = true then a else b) = some r) : b = some r := by subst hc; exact h

/-! ### Cuts -/
def exQ (id : Nat) (P : AS → Prop) (Q : Exit → AS → Prop) : Exit → AS → Prop
  | .exit id', s => if id' = id then P s else Q (.exit id') s
  | e, s => Q e s

theorem awp_cutN {C : Cx} {x : Code} {Q : Exit → AS → Prop} {s : AS} (P : AS → Prop) (hP : ∀ s', P s' → Q .normal s') (h : awp C x (thenQ P Q) s) : awp C x Q s :=
  awp_mono (fun e s' h => by cases e <;> first | exact hP _ h | exact h) h
theorem awp_cutE {C : Cx} {x : Code} {Q : Exit → AS → Prop} {s : AS} (id : Nat) (P : AS → Prop) (hP : ∀ s', P s' → Q (.exit id) s') (h : awp C x (exQ id P Q) s) : awp C x Q s :=
  awp_mono (fun e s' k => by
    cases e with
    | exit id' =>
      simp only [exQ] at k
      split at k
      · rename_i e; rw [e]; exact hP _ k
      · exact k
    | normal => exact k
    | goto l => exact k
    | ret => exact k
    | panic ch => exact k
    | outgrown => exact k) h
theorem exQ_hit {id : Nat} {P : AS → Prop} {Q : Exit → AS → Prop} {s : AS} (h : P s) : exQ id P Q (.exit id) s := by simp only [exQ]; exact h
theorem exQ_other {id id' : Nat} {P : AS → Prop} {Q : Exit → AS → Prop} {s : AS} (hne : Nat.beq id' id = false) (h : Q (.exit id') s) : exQ id P Q (.exit id') s := by
  simp only [exQ, if_neg (show ¬ id' = id from fun e => by subst e; simp at hne)]; exact h
theorem exQ_ret {id : Nat} {P : AS → Prop} {Q : Exit → AS → Prop} {s : AS} (h : Q .ret s) : exQ id P Q .ret s := h
theorem exQ_normal {id : Nat} {P : AS → Prop} {Q : Exit → AS → Prop} {s : AS} (h : Q .normal s) : exQ id P Q .normal s := h

/-- A loop, by its rounds as a function with fuel. -/
theorem awp_loopF {C : Cx} {c : Code} {Q : Exit → AS → Prop} {s : AS} {σ O : Type} (mk : σ → AS) (lp : Nat → σ → Option O) (hz : ∀ q, lp 0 q = none) {o : O} {n : Nat} (q0 : σ) (h0 : lp n q0 = some o) (hle : s.le (mk q0))
    (round : ∀ m q, lp (m + 1) q = some o → awp C c (thenQ (fun s' => ∃ q', lp m q' = some o ∧ s'.le (mk q')) Q) (mk q)) : awp C (.loop c) Q s := by
  refine awp_loop (σ := Nat × σ) (fun q => mk q.2) (fun q => lp q.1 q.2 = some o) (fun q => q.1) (n, q0) h0 hle ?_
  rintro ⟨m, q⟩ hI
  dsimp only at hI ⊢
  cases m with
  | zero => rw [hz] at hI; cases hI
  | succ m =>
    refine awp_mono (fun e s' h => ?_) (round m q hI)
    cases e <;> first
      | exact h
      | (obtain ⟨q', h1, h2⟩ := h
         exact ⟨(m, q'), h1, Nat.lt_succ_self m, h2⟩)

/-! ### Steps that nothing but the ghost takes -/
def Ghost (C : Cx) (s t : AS) : Prop := ∀ g a w, St C.n C.w0 C.F g s a w → ∃ g', St C.n C.w0 C.F g' t a w
theorem awp_ghost {C : Cx} {c : Code} {Q : Exit → AS → Prop} {s t : AS} (hg : Ghost C s t) (h : awp C c Q t) : awp C c Q s := fun g a w hs => by
  obtain ⟨g', hs'⟩ := hg g a w hs
  exact h g' a w hs'
theorem OpOk_ghost {C : Cx} {o : Oper} {K : AS → Prop} {s t : AS} (hg : Ghost C s t) (h : OpOk C o K t) : OpOk C o K s := fun g a w hs => by
  obtain ⟨g', hs'⟩ := hg g a w hs
  exact h g' a w hs'
theorem rwpL_ghost {C : Cx} {ops : Array Oper} {r : List Oper} {K : AS → Prop} {s t : AS} (hg : Ghost C s t) (h : rwpL C ops r K t) : rwpL C ops r K s := fun k hk g a w hs => by
  obtain ⟨g', hs'⟩ := hg g a w hs
  exact h k hk g' a w hs'
theorem ghost_le {C : Cx} {s t : AS} (h : s.le t) : Ghost C s t := fun g _ _ hs => ⟨g, hs.weaken h⟩
theorem ghost_freeze {C : Cx} {sl : List (Nat × AV)} {ob : List (Nat × List AV)} (j : Nat) {k n : Nat} {es : List PV} (hj : look sl j = some (.arr k 1 0 n)) (hk : Nat.blt k M1 = true) (hob : look ob k = some (es.map .p)) (hn : n = es.length)
    (hone : ∀ x ∈ es, x.cells = [x]) (hone' : ∀ x ∈ es, x.one = true) :
    Ghost C ⟨sl, ob⟩ ⟨(j, .p (.slice es)) :: (demS (fun i => Nat.beq i k) ⟨sl, ob⟩).sl, (demS (fun i => Nat.beq i k) ⟨sl, ob⟩).ob⟩ := by
  subst hn
  intro g a w hs
  exact hs.freeze (Nat.blt_eq ▸ hk) hob hj hone hone'

/-! ### Less is said -/
theorem sub_tuple : ∀ {l q : List AV}, subsA l q → (AV.tuple l).sub (.tuple q) := by
  intro l q hs w g v h
  obtain ⟨h1, h2⟩ := subsA_spec hs
  cases h with
  | tuple hl h =>
    refine .tuple (hl.trans h1) fun i c v hc hv => ?_
    have hi : i < l.length := by have := (List.getElem?_eq_some_iff.1 hc).1; omega
    exact h2 i l[i] c (List.getElem?_eq_getElem hi) hc _ _ _ (h i _ v (List.getElem?_eq_getElem hi) hv)
theorem sub_toPV {x : AV} {y : PV} (h : x.toPV = some y) : x.sub (.p y) := fun _ _ _ hr => .p (toPV_rep h hr)
theorem sub_nilL {α : Type} (f : α → PV) : (AV.p (.val (.slice none 0 0))).sub (.p (eL f [])) := AV.sub_nilv
theorem AS.le_trans {s t u : AS} (h : s.le t) (k : t.le u) : s.le u := by
  refine ⟨fun j x hx w g v hv => ?_, fun id cs hc => ?_⟩
  · have h2 := k.sl j x hx
    cases ht : look t.sl j with
    | none =>
      have : t.get j = .undef := by simp [AS.get, ht]
      rw [this] at h2
      exact h2 w g v (.undef _)
    | some y =>
      have e : t.get j = y := by simp [AS.get, ht]
      rw [e] at h2
      exact h2 w g v (h.sl j y ht w g v hv)
  · obtain ⟨ds, h1, h2, h3⟩ := k.ob id cs hc
    obtain ⟨es, h4, h5, h6⟩ := h.ob id ds h1
    refine ⟨es, h4, by omega, fun i c d hc hd w g v hv => ?_⟩
    have hi : i < ds.length := by have := (List.getElem?_eq_some_iff.1 hc).1; omega
    exact h3 i c ds[i] hc (List.getElem?_eq_getElem hi) w g v (h6 i ds[i] d (List.getElem?_eq_getElem hi) hd w g v hv)

/-! ### Operations, in the printed form -/
section
variable {C : Cx} {o : Oper} {K : AS → Prop} {sl : List (Nat × AV)} {ob : List (Nat × List AV)} {d : Nat}
theorem op_indexS {t : TypeId} {x y : Operand} {a : Bytes} {k : IntKind} {j : Int} {i : TI} (ho : o.op = .index t x y) (hd : o.dst = some d) (hn : Nat.blt d C.n = true)
    (hi : look C.tt t = some i) (hik : i.k = .string) (hx : evo sl x = some (.p (.val (.string (str a))))) (hy : evo sl y = some (.p (.val (.int k j))))
    (hj : 0 ≤ j ∧ j < (a.length : Int)) (hK : K ⟨(d, .p (eK .u8 (byt a j))) :: sl, ob⟩) : OpOk C o K ⟨sl, ob⟩ := ok_indexS ho hd hn hi hik hx hy hj hK
theorem op_sliceS {t : TypeId} {x : Operand} {lo hi : Option Operand} {a : Bytes} {l h : Int} {i : TI} (ho : o.op = .slice t x lo hi none) (hd : o.dst = some d) (hn : Nat.blt d C.n = true)
    (hi' : look C.tt t = some i) (hik : i.k = .string) (hx : evo sl x = some (.p (.val (.string (str a))))) (hlo : loI sl lo = some l) (hhi : hiI sl (a.length : Int) hi = some h)
    (hb : 0 ≤ l ∧ l ≤ h ∧ h ≤ (a.length : Int)) (hK : K ⟨(d, .p (eS (sub a l h))) :: sl, ob⟩) : OpOk C o K ⟨sl, ob⟩ := ok_sliceS ho hd hn hi' hik hx hlo hhi hb hK
theorem op_lenL {α : Type} {t e : TypeId} {x : Operand} {y : AV} {f : α → PV} {l : List α} {i : TI} (ho : o.op = .call { callee := .builtin .len, args := #[x], argTypes := #[t] }) (hd : o.dst = some d) (hn : Nat.blt d C.n = true)
    (hi : look C.tt t = some i) (hik : i.k = .slice e) (hx : evo sl x = some y) (hy : y.elems? = some (l.map f)) (hK : K ⟨(d, .p (eI (l.length : Int))) :: sl, ob⟩) : OpOk C o K ⟨sl, ob⟩ :=
  ok_lenM ho hd hn hi hik hx hy hK
theorem op_at {α : Type} [Inhabited α] {t e : TypeId} {x y : Operand} {z : AV} {f : α → PV} {l : List α} {i ie : TI} {k : IntKind} {n : Int} (cs : α → List PV) (ho : o.op = .indexAddr t x y) (hd : o.dst = some d) (hn : Nat.blt d C.n = true)
    (hi : look C.tt t = some i) (hik : i.k = .slice e) (hie : look C.tt e = some ie) (hx : evo sl x = some z) (hz : z.elems? = some (l.map f))
    (hy : evo sl y = some (.p (.val (.int k n)))) (hb : 0 ≤ n ∧ n < (l.length : Int)) (hcs : ∀ x, (f x).cells = cs x) (hsz : ∀ x, (cs x).length = ie.size)
    (hK : K ⟨(d, .rptr (cs (lat l n))) :: sl, ob⟩) : OpOk C o K ⟨sl, ob⟩ := by
  refine ok_indexAddrV (el := f (lat l n)) ho hd hn hi hik hie hx hz hy hb.1 ?_ (by rw [hcs]; exact hsz _) (by rw [hcs]; exact hK)
  have : n.toNat < l.length := by omega
  simp [lat, List.getD_eq_getElem?_getD, List.getElem?_eq_getElem this]
theorem op_len_arr {t e : TypeId} {x : Operand} {i : TI} {id sz off m : Nat} (ho : o.op = .call { callee := .builtin .len, args := #[x], argTypes := #[t] }) (hd : o.dst = some d) (hn : Nat.blt d C.n = true)
    (hi : look C.tt t = some i) (hik : i.k = .slice e) (hx : evo sl x = some (.arr id sz off m))
    (hK : K ⟨(d, .p (eI (m : Int))) :: sl, ob⟩) : OpOk C o K ⟨sl, ob⟩ := ok_lenA ho hd hn hi hik hx hK
theorem ok_assign_any {x : Operand} (ho : o.op = .assign x) (hd : o.dst = some d) (hn : Nat.blt d C.n = true)
    (hK : K ⟨(d, .undef) :: sl, ob⟩) : OpOk C o K ⟨sl, ob⟩ :=
  ok_one hd hn (fun g a w hs => ⟨a.eval x, by simp [execOp, ho], .undef _⟩) hK
theorem op_make {α : Type} (f : α → PV) (b0 : α) {t e : Nat} {x y : Operand} {i ie : TI} {k k' : IntKind} {n : Int} {z : Value} (ho : o.op = .makeSlice t x y) (hd : o.dst = some d) (hn : Nat.blt d C.n = true)
    (hi : look C.tt t = some i) (hik : i.k = .slice e) (hie : look C.tt e = some ie) (hs1 : ie.size = 1) (hz : ie.zero = [z]) (hf : f b0 = .val z) (hx : evo sl x = some (.p (.val (.int k n)))) (hy : evo sl y = some (.p (.val (.int k' n))))
    (hb : 0 ≤ n ∧ n ≤ 9223372036854775807 ∧ (ie.bytes : Int) * n ≤ 281474976710656)
    (hK : K ⟨(d, .arr d 1 0 (List.replicate n.toNat b0).length) :: (demS (fun i => Nat.beq i d) ⟨sl, ob⟩).sl, (d, ((List.replicate n.toNat b0).map f).map .p) :: (demS (fun i => Nat.beq i d) ⟨sl, ob⟩).ob⟩) : OpOk C o K ⟨sl, ob⟩ :=
  ok_make ho hd hn hi hik hie hs1 hz hx hy hb (by rw [List.length_replicate, List.map_replicate, hf] at hK; exact hK)
theorem op_sliceL {α : Type} {t e : TypeId} {x : Operand} {lo hi : Option Operand} {z : AV} {f : α → PV} {l : List α} {a h : Int} {i ie : TI} (ho : o.op = .slice t x lo hi none) (hd : o.dst = some d) (hn : Nat.blt d C.n = true)
    (hi' : look C.tt t = some i) (hik : i.k = .slice e) (hie : look C.tt e = some ie) (hx : evo sl x = some z) (hz : z.elems? = some (l.map f)) (hlo : loI sl lo = some a) (hhi : hiI sl (l.length : Int) hi = some h)
    (hb : 0 ≤ a ∧ a ≤ h ∧ h ≤ (l.length : Int)) (hsz : ∀ x, (f x).cells.length = ie.size)
    (hK : K ⟨(d, .p (eL f (sub l a h))) :: sl, ob⟩) : OpOk C o K ⟨sl, ob⟩ := by
  refine ok_sliceV ho hd hn hi' hik hie hx hz hlo (by rw [List.length_map]; exact hhi) (by rw [List.length_map]; exact hb) (fun y hy => ?_) ?_
  · obtain ⟨x, _, rfl⟩ := List.mem_map.1 hy; exact hsz x
  · rw [← List.map_take, ← List.map_drop]; exact hK
end

theorem awp_byD {C : Cx} {c : Code} {Q : Exit → AS → Prop} {s : AS} {p : Prop} [Decidable p] (h1 : p → awp C c Q s) (h2 : ¬p → awp C c Q s) : awp C c Q s := by
  by_cases h : p
  · exact h1 h
  · exact h2 h
theorem awp_byB {C : Cx} {c : Code} {Q : Exit → AS → Prop} {s : AS} {b : Bool} (h1 : b = true → awp C c Q s) (h2 : b = false → awp C c Q s) : awp C c Q s := by
  cases b
  · exact h2 rfl
  · exact h1 rfl
theorem exLe {s t : AS} {σ : Type} {A : σ → Prop} {mk : σ → AS} (h : s.le t) (k : ∃ v, A v ∧ t.le (mk v)) : ∃ v, A v ∧ s.le (mk v) := by
  obtain ⟨v, h1, h2⟩ := k
  exact ⟨v, h1, AS.le_trans h h2⟩
theorem hi_some {sl : List (Nat × AV)} {x : Operand} {k : IntKind} {n m : Int} (h : evo sl x = some (.p (.val (.int k n)))) : hiI sl m (some x) = some n := by
  simp only [hiI, h]

/-! ### A row is settled, in all the slots that hold it -/
theorem arr_eq {w : World} {g : Gh} {k off n m : Nat} {v u : Value} (h1 : ARep w g (.arr k 1 off n) v) (h2 : ARep w g (.arr k 1 off m) u) (e : n = m) : v = u := by
  cases h1 with
  | arr how hb hcs hn =>
    cases h2 with
    | arr how' hb' hcs' hn' =>
      rw [how] at how'; cases how'
      rw [hb] at hb'; cases hb'
      subst e
      have : ∀ {a b : Nat}, off + a * 1 = off + b * 1 → a = b := fun h => by omega
      rw [this (hcs.symm.trans hcs')]

def frzs (js : List Nat) (x : AV) (sl : List (Nat × AV)) : List (Nat × AV) := js.map (fun j => (j, x)) ++ sl
theorem look_frzs {x : AV} {sl : List (Nat × AV)} {i : Nat} : ∀ {js : List Nat}, look (frzs js x sl) i = if i ∈ js then some x else look sl i
  | [] => by simp [frzs]
  | j :: r => by
    have ih := look_frzs (x := x) (sl := sl) (i := i) (js := r)
    simp only [frzs] at ih
    simp only [frzs, List.map_cons, List.cons_append, look_cons, ih]
    by_cases e : j = i
    · subst e; simp
    · rw [if_neg e]
      by_cases h : i ∈ r
      · simp [h]
      · have : ¬ i ∈ j :: r := by simp [h]; omega
        rw [if_neg h, if_neg this]
def ArrAt (sl : List (Nat × AV)) (k n : Nat) : List Nat → Prop
  | [] => True
  | j :: r => (∃ m, look sl j = some (.arr k 1 0 m) ∧ m = n) ∧ ArrAt sl k n r
theorem ArrAt.at {sl : List (Nat × AV)} {k n : Nat} : ∀ {js : List Nat}, ArrAt sl k n js → ∀ j ∈ js, look sl j = some (.arr k 1 0 n)
  | [], _, j, hj => by simp at hj
  | i :: r, h, j, hj => by
    obtain ⟨m, h1, rfl⟩ := h.1
    rcases List.mem_cons.1 hj with rfl | hj
    · exact h1
    · exact ArrAt.at h.2 j hj

theorem ghost_freezes {α : Type} {C : Cx} {sl : List (Nat × AV)} {ob : List (Nat × List AV)} (js : List Nat) {k : Nat} {f : α → PV} {l : List α} (hne : js.isEmpty = false) (hk : Nat.blt k M1 = true) (hob : look ob k = some ((l.map f).map .p))
    (hjs : ArrAt sl k l.length js) (hone : ∀ x, (f x).cells = [f x] ∧ (f x).one = true) :
    Ghost C ⟨sl, ob⟩ ⟨frzs js (.p (eL f l)) (demS (fun i => Nat.beq i k) ⟨sl, ob⟩).sl, (demS (fun i => Nat.beq i k) ⟨sl, ob⟩).ob⟩ := by
  intro g a w hs
  have ho1 : ∀ x ∈ l.map f, x.cells = [x] := fun x hx => by obtain ⟨y, _, rfl⟩ := List.mem_map.1 hx; exact (hone y).1
  have ho2 : ∀ x ∈ l.map f, x.one = true := fun x hx => by obtain ⟨y, _, rfl⟩ := List.mem_map.1 hx; exact (hone y).2
  have hat := hjs.at
  cases js with
  | nil => cases hne
  | cons j0 r =>
    obtain ⟨g', hg'⟩ := hs.freeze (j := j0) (k := k) (es := l.map f) (Nat.blt_eq ▸ hk) hob (by rw [List.length_map]; exact hat j0 (by simp)) ho1 ho2
    refine ⟨g', { hg' with sl := fun i => ?_, ob := hg'.ob }⟩
    have hi := hg'.sl i
    simp only [AS.get, look_cons] at hi
    simp only [AS.get, look_frzs]
    by_cases h : i ∈ j0 :: r
    · rw [if_pos h]
      have h0 := hg'.sl j0
      simp only [AS.get, look_cons, if_true, Option.getD_some] at h0 ⊢
      have a1 := hs.sl j0
      have a2 := hs.sl i
      simp only [AS.get, hat j0 (by simp), hat i h, Option.getD_some] at a1 a2
      rw [← arr_eq a1 a2 rfl]
      exact h0
    · rw [if_neg h]
      have hne : ¬ j0 = i := fun e => h (by simp [e])
      rw [if_neg hne] at hi
      exact hi

end Go.Ab

namespace Go.Ab

/-- The results so far, the latest first: the operation's number, its slot, its value. -/
abbrev Rev := List (Nat × Nat × AV)
def lookR : Rev → Nat → Option (Nat × AV)
  | [], _ => none
  | (j, p) :: r, k => bif Nat.beq j k then some p else lookR r k
def revSl : Rev → List (Nat × AV)
  | [] => []
  | (_, p) :: r => p :: revSl r

def KnOk (base : List (Nat × AV)) (o : Oper) (rev : Rev) : List (Nat × AV) → Prop
  | [] => True
  | (i, x) :: r => (look base i = some x ∨ ∃ k, (o.after.toList.any fun e => Nat.beq e.on k && Region.binds .any e) = true ∧ lookR rev k = some (i, x)) ∧ KnOk base o rev r

def StepK (C : Cx) (ops : Array Oper) (ob : List (Nat × List AV)) (o : Oper) (kn : List (Nat × AV)) (d : Nat) (r : AV) : Prop :=
  ∀ sl, (∀ i x, look kn i = some x → look sl i = some x) → ∀ K : AS → Prop, K ⟨(d, r) :: sl, ob⟩ → One C ops o K ⟨sl, ob⟩

def DQ (C : Cx) (ops : Array Oper) (base : List (Nat × AV)) (ob : List (Nat × List AV)) (K : AS → Prop) : List Oper → Nat → Rev → Prop
  | [], _, rev => K ⟨revSl rev ++ base, ob⟩
  | o :: rest, k, rev => ∃ d r kn, o.dst = some d ∧ (rev.all fun p => !(Nat.beq p.2.1 d)) = true ∧ look base d = none ∧ KnOk base o rev kn ∧ StepK C ops ob o kn d r ∧ DQ C ops base ob K rest (k + 1) ((k, d, r) :: rev)

theorem dq_nil {C : Cx} {ops : Array Oper} {base : List (Nat × AV)} {ob : List (Nat × List AV)} {K : AS → Prop} {k : Nat} {rev : Rev} (h : K ⟨revSl rev ++ base, ob⟩) : DQ C ops base ob K [] k rev := h
theorem dq_cons {C : Cx} {ops : Array Oper} {base : List (Nat × AV)} {ob : List (Nat × List AV)} {K : AS → Prop} {o : Oper} {rest : List Oper} {k : Nat} {rev : Rev} {d : Nat} (r : AV) (kn : List (Nat × AV)) (hkn : KnOk base o rev kn)
    (hs : StepK C ops ob o kn d r) (hd : o.dst = some d) (hf : (rev.all fun p => !(Nat.beq p.2.1 d)) = true) (hb : look base d = none) (h : DQ C ops base ob K rest (k + 1) ((k, d, r) :: rev)) : DQ C ops base ob K (o :: rest) k rev :=
  ⟨d, r, kn, hd, hf, hb, hkn, hs, h⟩

/-- 'rev' is 'rs' from its end on. -/
def RevOf (rev : Rev) (rs : List (Nat × AV)) : Prop := revSl rev = rs.reverse ∧ ∀ k p, lookR rev k = some p → rs[k]? = some p

theorem revSl_mem {rev : Rev} {i : Nat} {x : AV} : (i, x) ∈ revSl rev → ∃ j, (j, i, x) ∈ rev := by
  induction rev with
  | nil => intro h; simp [revSl] at h
  | cons q r ih =>
    obtain ⟨j, p⟩ := q
    intro h
    simp only [revSl] at h
    rcases List.mem_cons.1 h with rfl | h
    · exact ⟨j, by simp⟩
    · obtain ⟨j', h'⟩ := ih h
      exact ⟨j', by simp [h']⟩

theorem look_none_of {l : List (Nat × AV)} {i : Nat} (h : ∀ p ∈ l, p.1 ≠ i) : look l i = none := by
  cases hl : look l i with
  | none => rfl
  | some x => exact absurd rfl (h _ (look_mem hl))

theorem knOk_look {base : List (Nat × AV)} {o : Oper} {rev : Rev} {rs sl : List (Nat × AV)} (hr : RevOf rev rs)
    (hap : ∀ (i j : Nat) p q, rs[i]? = some p → rs[j]? = some q → p.1 = q.1 → i = j) (hbs : ∀ p ∈ rs, look base p.1 = none)
    (h : ∀ i x, look (knownAt base o rs) i = some x → look sl i = some x) : ∀ {kn : List (Nat × AV)}, KnOk base o rev kn → ∀ i x, look kn i = some x → look sl i = some x
  | [], _, i, x, hx => by simp [look] at hx
  | (j, y) :: r, hk, i, x, hx => by
    rw [look_cons] at hx
    by_cases e : j = i
    · rw [if_pos e] at hx
      cases hx; subst e
      refine h j y ?_
      unfold knownAt
      rw [look_append]
      rcases hk.1 with hb | ⟨k, hk1, hk2⟩
      · have : look (o.after.toList.filterMap fun e => if Region.binds .any e then rs[e.on]? else none) j = none := by
          refine look_none_of fun p hp => ?_
          obtain ⟨e, _, hex⟩ := List.mem_filterMap.1 hp
          by_cases hbn : Region.binds .any e = true
          · rw [if_pos hbn] at hex
            have := hbs p (List.mem_of_getElem? hex)
            intro e2; rw [e2, hb] at this; cases this
          · rw [if_neg hbn] at hex; cases hex
        rw [this]; exact hb
      · have hrk := hr.2 k _ hk2
        obtain ⟨e, he, hbe⟩ := List.any_eq_true.1 hk1
        simp only [Bool.and_eq_true] at hbe
        have hek := Nat.eq_of_beq_eq_true hbe.1
        have hmem : (j, y) ∈ o.after.toList.filterMap fun e => if Region.binds .any e then rs[e.on]? else none :=
          List.mem_filterMap.2 ⟨e, he, by rw [if_pos hbe.2, hek]; exact hrk⟩
        cases hq : look (o.after.toList.filterMap fun e => if Region.binds .any e then rs[e.on]? else none) j with
        | none => exact absurd rfl (look_none hq _ hmem)
        | some z =>
          obtain ⟨e', _, hex⟩ := List.mem_filterMap.1 (look_mem hq)
          by_cases hbn : Region.binds .any e' = true
          · rw [if_pos hbn] at hex
            have h2 := hap _ _ _ _ hex hrk rfl
            rw [h2, hrk] at hex
            cases hex; rfl
          · rw [if_neg hbn] at hex; cases hex
    · rw [if_neg e] at hx
      exact knOk_look hr hap hbs h hk.2 i x hx

theorem dr_of {C : Cx} {ops : Array Oper} {base : List (Nat × AV)} {ob : List (Nat × List AV)} {K : AS → Prop} : ∀ {l : List Oper} {k : Nat} {rev : Rev} {rs : List (Nat × AV)}, DQ C ops base ob K l k rev → rs.length = k → RevOf rev rs →
    (∀ (i j : Nat) p q, rs[i]? = some p → rs[j]? = some q → p.1 = q.1 → i = j) → (∀ p ∈ rs, look base p.1 = none) → DR C ops base ob K l rs
  | [], k, rev, rs, h, _, hr, _, _ => by
    have h' : K ⟨revSl rev ++ base, ob⟩ := h
    rw [hr.1] at h'
    exact h'
  | o :: rest, k, rev, rs, ⟨d, r, kn, hd, hf, hb, hkn, hs, h⟩, hk, hr, hap, hbs => by
    have hfr : ∀ p ∈ rs, p.1 ≠ d := by
      intro p hp e
      have h1 : (p.1, p.2) ∈ revSl rev := by rw [hr.1]; exact List.mem_reverse.2 hp
      obtain ⟨j, hj⟩ := revSl_mem h1
      have h2 := List.all_eq_true.1 hf _ hj
      simp [e] at h2
    refine ⟨d, r, hd, ?_, fun sl hsl K hK => hs sl (knOk_look hr hap hbs hsl hkn) K hK, dr_of h (by simp [hk]) ⟨?_, ?_⟩ ?_ ?_⟩
    · rw [look_append, look_none_of (fun p hp => hfr p (List.mem_reverse.1 hp))]
      exact hb
    · simp [revSl, hr.1]
    · intro k' p h'
      simp only [lookR] at h'
      cases hkk : Nat.beq k k'
      · rw [hkk] at h'
        have h2 := hr.2 k' p h'
        have hlt := (List.getElem?_eq_some_iff.1 h2).1
        rw [List.getElem?_append_left hlt]; exact h2
      · rw [hkk] at h'
        have := Nat.eq_of_beq_eq_true hkk
        subst this
        simp only [cond_true, Option.some.injEq] at h'
        subst h'
        rw [← hk]; simp
    · intro i j p q hi hj e
      have hli : i < rs.length + 1 := by have := (List.getElem?_eq_some_iff.1 hi).1; simpa using this
      have hlj : j < rs.length + 1 := by have := (List.getElem?_eq_some_iff.1 hj).1; simpa using this
      rcases Nat.lt_or_ge i rs.length with h1 | h1
      · rw [List.getElem?_append_left h1] at hi
        rcases Nat.lt_or_ge j rs.length with h2 | h2
        · rw [List.getElem?_append_left h2] at hj
          exact hap i j p q hi hj e
        · have e2 : j = rs.length := by omega
          subst e2
          rw [List.getElem?_append_right (Nat.le_refl _)] at hj
          simp at hj; subst hj
          exact absurd e (hfr p (List.mem_of_getElem? hi))
      · have e1 : i = rs.length := by omega
        subst e1
        rw [List.getElem?_append_right (Nat.le_refl _)] at hi
        simp at hi; subst hi
        rcases Nat.lt_or_ge j rs.length with h2 | h2
        · rw [List.getElem?_append_left h2] at hj
          exact absurd e.symm (hfr q (List.mem_of_getElem? hj))
        · omega
    · intro p hp
      rcases List.mem_append.1 hp with hp | hp
      · exact hbs p hp
      · simp at hp; subst hp; exact hb

theorem awp_drawQ {C : Cx} {id : Nat} {ops : Array Oper} {Q : Exit → AS → Prop} {sl : List (Nat × AV)} {ob : List (Nat × List AV)} (base : List (Nat × AV)) (hm : C.P.follows .mixedOrders = true) (hb : BaseIn sl base)
    (hord : (ops.toList.zipIdx.all fun p => p.1.after.toList.all fun e => !(Region.binds .any e) || Nat.blt e.on p.2) = true) (h : DQ C ops base ob (Q .normal) ops.toList 0 []) : awp C (.region id ops true) Q ⟨sl, ob⟩ :=
  awp_draw base hm hb hord (dr_of h rfl ⟨rfl, fun k p h => by simp [lookR] at h⟩ (fun i j p q h => by simp at h) (fun p h => by simp at h))

end Go.Ab
