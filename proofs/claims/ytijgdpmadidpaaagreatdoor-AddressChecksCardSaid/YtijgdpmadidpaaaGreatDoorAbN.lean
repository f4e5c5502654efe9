/- A layer of abstract values over the model's worlds, part N: regions whose operations run in an order that is drawn. It holds for every program. -/
import Derived.Test.YtijgdpmadidpaaaGreatDoorAbK
import Derived.Orders
set_option linter.unusedVariables false
set_option linter.unusedSimpArgs false
set_option linter.unnecessarySimpa false
namespace Go.Ab

/-- One operation of a region, with its guard. -/
def One (C : Cx) (ops : Array Oper) (o : Oper) (K : AS → Prop) (s : AS) : Prop := ∀ i, ops[i]? = some o → rwp C ops [i] K s

section
variable {C : Cx} {ops : Array Oper} {K : AS → Prop} {sl : List (Nat × AV)} {ob : List (Nat × List AV)} {o : Oper} {j t d : Nat}
theorem one_op {s : AS} (hg : o.guard = none) (h : OpOk C o K s) : One C ops o K s :=
  fun i ho => rwp_op ho hg (h.mono fun _ h => rwp_nil h)
theorem one_guard {want b : Bool} (hg : o.guard = some (j, want)) (hj : (ops.toList[j]?).bind (·.dst) = some t) (hv : look sl t = some (.p (.val (.bool b))))
    (hd : o.dst = some d) (hn : Nat.blt d C.n = true) (h1 : b = want → OpOk C o K ⟨sl, ob⟩) (h2 : b = !want → K ⟨(d, .p (.val Go.undef)) :: sl, ob⟩) : One C ops o K ⟨sl, ob⟩ := by
  intro i ho
  refine rwp_guard ho hg (t := t) (by simpa using hj) (by simp [AS.get, hv]) (fun t ht => by rw [hd] at ht; cases ht; exact Nat.blt_eq ▸ hn) (fun e => (h1 e).mono fun _ h => rwp_nil h) (fun e => rwp_nil ?_)
  rw [hd]; exact h2 e
theorem one_yes {want b : Bool} (h1 : OpOk C o K ⟨sl, ob⟩) (hg : o.guard = some (j, want)) (hj : (ops.toList[j]?).bind (·.dst) = some t) (hv : look sl t = some (.p (.val (.bool b)))) (hb : b = want) : One C ops o K ⟨sl, ob⟩ := by
  intro i ho
  exact rwp_guard_yes ho hg (t := t) (by simpa using hj) (by simp [AS.get, hv]) hb (h1.mono fun _ h => rwp_nil h)
theorem one_no {want b : Bool} (hg : o.guard = some (j, want)) (hj : (ops.toList[j]?).bind (·.dst) = some t) (hv : look sl t = some (.p (.val (.bool b)))) (hb : b = !want)
    (hd : o.dst = some d) (hn : Nat.blt d C.n = true) (h2 : K ⟨(d, .p (.val Go.undef)) :: sl, ob⟩) : One C ops o K ⟨sl, ob⟩ := by
  intro i ho
  refine rwp_guard_no ho hg (t := t) (by simpa using hj) (by simp [AS.get, hv]) hb (fun t ht => by rw [hd] at ht; cases ht; exact Nat.blt_eq ▸ hn) (rwp_nil ?_)
  rw [hd]; exact h2
theorem one_none {want : Bool} (hg : o.guard = some (j, want)) (hj : (ops.toList[j]?).bind (·.dst) = some t) (hv : look sl t = some (.p (.val Go.undef)))
    (hd : o.dst = some d) (hn : Nat.blt d C.n = true) (h2 : K ⟨(d, .p (.val Go.undef)) :: sl, ob⟩) : One C ops o K ⟨sl, ob⟩ := by
  intro i ho
  refine rwp_guard_none ho hg (t := t) (by simpa using hj) (by simp [AS.get, hv]) (fun t ht => by rw [hd] at ht; cases ht; exact Nat.blt_eq ▸ hn) (rwp_nil ?_)
  rw [hd]; exact h2
end

/-- What is known when an operation runs: what the operations gave that must run ahead of it, and what none of them writes. -/
def knownAt (base : List (Nat × AV)) (o : Oper) (rs : List (Nat × AV)) : List (Nat × AV) :=
  (o.after.toList.filterMap fun e => if Region.binds .any e then rs[e.on]? else none) ++ base

def Step (C : Cx) (ops : Array Oper) (base : List (Nat × AV)) (ob : List (Nat × List AV)) (o : Oper) (rs : List (Nat × AV)) (d : Nat) (r : AV) : Prop :=
  ∀ sl, (∀ i x, look (knownAt base o rs) i = some x → look sl i = some x) → ∀ K : AS → Prop, K ⟨(d, r) :: sl, ob⟩ → One C ops o K ⟨sl, ob⟩

/-- A drawing region, in the order of its text; rs: what the operations so far give. -/
def DR (C : Cx) (ops : Array Oper) (base : List (Nat × AV)) (ob : List (Nat × List AV)) (K : AS → Prop) : List Oper → List (Nat × AV) → Prop
  | [], rs => K ⟨rs.reverse ++ base, ob⟩
  | o :: rest, rs => ∃ d r, o.dst = some d ∧ look (rs.reverse ++ base) d = none ∧ Step C ops base ob o rs d r ∧ DR C ops base ob K rest (rs ++ [(d, r)])

theorem dr_cons {C : Cx} {ops : Array Oper} {base : List (Nat × AV)} {ob : List (Nat × List AV)} {K : AS → Prop} {o : Oper} {rest : List Oper} {rs : List (Nat × AV)} {d : Nat} (r : AV)
    (hs : Step C ops base ob o rs d r) (hd : o.dst = some d) (hf : look (rs.reverse ++ base) d = none) (h : DR C ops base ob K rest (rs ++ [(d, r)])) : DR C ops base ob K (o :: rest) rs :=
  ⟨d, r, hd, hf, hs, h⟩

def BaseIn (sl : List (Nat × AV)) : List (Nat × AV) → Prop
  | [] => True
  | (i, x) :: r => look sl i = some x ∧ BaseIn sl r

theorem baseIn_look {sl : List (Nat × AV)} : ∀ {base : List (Nat × AV)}, BaseIn sl base → ∀ i x, look base i = some x → look sl i = some x
  | [], _, i, x, h => by simp [look] at h
  | (j, y) :: r, hb, i, x, h => by
    rw [look_cons] at h
    by_cases e : j = i
    · rw [if_pos e] at h; cases h; subst e; exact hb.1
    · rw [if_neg e] at h; exact baseIn_look hb.2 i x h

theorem look_none {l : List (Nat × AV)} {i : Nat} (h : look l i = none) : ∀ p ∈ l, p.1 ≠ i := by
  induction l with
  | nil => simp
  | cons q l ih =>
    obtain ⟨j, x⟩ := q
    rw [look_cons] at h
    by_cases e : j = i
    · rw [if_pos e] at h; cases h
    · rw [if_neg e] at h
      intro p hp
      rcases List.mem_cons.1 hp with rfl | hp
      · exact e
      · exact ih h p hp

/-- All results; each of its own slot. -/
theorem dr_spec {C : Cx} {ops : Array Oper} {base : List (Nat × AV)} {ob : List (Nat × List AV)} {K : AS → Prop} : ∀ {l : List Oper} {pre : List (Nat × AV)}, DR C ops base ob K l pre →
    ∃ tail : List (Nat × AV), tail.length = l.length ∧ K ⟨(pre ++ tail).reverse ++ base, ob⟩ ∧
      ∀ (i : Nat) o, l[i]? = some o → ∃ d r, tail[i]? = some (d, r) ∧ o.dst = some d ∧ Step C ops base ob o (pre ++ tail.take i) d r ∧
        (∀ p ∈ pre ++ tail.take i, p.1 ≠ d) ∧ (∀ p ∈ base, p.1 ≠ d)
  | [], pre, h => ⟨[], rfl, by rw [List.append_nil]; exact h, fun i o h => by simp at h⟩
  | o :: rest, pre, ⟨d, r, hd, hf, hs, h⟩ => by
    obtain ⟨tail, h1, h2, h3⟩ := dr_spec h
    have hne := look_none hf
    refine ⟨(d, r) :: tail, by simp [h1], by simpa using h2, fun i o' ho => ?_⟩
    cases i with
    | zero =>
      simp only [List.getElem?_cons_zero, Option.some.injEq] at ho
      subst ho
      refine ⟨d, r, rfl, hd, by simpa using hs, fun p hp => hne p ?_, fun p hp => hne p (List.mem_append.2 (.inr hp))⟩
      simp only [List.take_zero, List.append_nil] at hp
      exact List.mem_append.2 (.inl (List.mem_reverse.2 hp))
    | succ i =>
      simp only [List.getElem?_cons_succ] at ho
      obtain ⟨d', r', h4, h5, h6, h7, h8⟩ := h3 i o' ho
      exact ⟨d', r', by simpa using h4, h5, by simpa using h6, by simpa using h7, h8⟩

theorem upon_mono2 {P : Program} {o : Oper} {a : Act} {next next' : Act → World → Prop} {Q Q' : Exit → Act → World → Prop} {r : Result Next}
    (hn : ∀ a w, next a w → next' a w) (hq : ∀ e a w, e ≠ .normal → Q e a w → Q' e a w) (h : o.upon P a next Q r) : o.upon P a next' Q' r := by
  cases r with
  | halt x w =>
    cases x <;> simp only [Oper.upon] at h ⊢
    exact hq _ _ _ (by simp) h
  | ok x w =>
    cases x <;> simp only [Oper.upon] at h ⊢
    case value v => exact hn _ _ h
    case skip => exact hn _ _ h
    case defer d => exact hn _ _ h
    case enter f args =>
      refine h.mono fun e w' h => ?_
      cases e with
      | returned v => exact hn _ _ h
      | panicked c => exact hq _ _ _ (by simp) h
      | outgrown => obtain ⟨a0, w1, h⟩ := h; exact ⟨a0, w1, hq _ _ _ (by simp) h⟩
    case row r args => exact h.mono fun v w' h => hn _ _ h

theorem wpOp_of {P : Program} {ops : Array Oper} {i : Nat} {R : Act → World → Prop} {K : Act → World → Prop} {Q : Exit → Act → World → Prop} {a : Act} {w : World}
    (h : wpOps P ops (fun e a' w' => e = .normal ∧ R a' w') [i] a w) (hk : ∀ a' w', R a' w' → K a' w') : wpOp P ops Q i K a w := by
  rw [wpOps_cons] at h
  unfold wpOp at h ⊢
  cases ho : ops[i]? with
  | none => simp only [ho, wpOps] at h; exact hk _ _ h.2
  | some o =>
    simp only [ho] at h ⊢
    split
    · rename_i hw
      rw [if_pos hw] at h
      rcases h with h | ⟨_, a0, w1, hq, _⟩
      · exact .inl (upon_mono2 (fun a w h => hk _ _ (by simpa [wpOps] using h)) (fun e a w hne h => absurd h.1 hne) h)
      · cases hq
    · rename_i hw
      rw [if_neg hw] at h
      exact hk _ _ (by simpa [wpOps] using h)

def unl (n : Nat) (listed : Array Bool) : Nat := ((List.range n).filter fun j => !listed.getD j false).length

theorem unl_set {n i : Nat} {listed : Array Bool} (hs : listed.size = n) (hi : i < n) (h : listed.getD i true = false) : unl n (listed.setIfInBounds i true) + 1 = unl n listed := by
  unfold unl
  have hf : listed.getD i false = false := by
    have : listed[i]? = some listed[i] := Array.getElem?_eq_getElem (by omega)
    simp only [Array.getD_eq_getD_getElem?, this, Option.getD_some] at h ⊢
    exact h
  have key : ∀ l : List Nat, l.Nodup → i ∈ l → ((l.filter fun j => !(listed.setIfInBounds i true).getD j false).length + 1 = (l.filter fun j => !listed.getD j false).length) := by
    intro l
    induction l with
    | nil => intro _ h; cases h
    | cons k l ih =>
      intro hn hm
      obtain ⟨hk, hn'⟩ := List.nodup_cons.1 hn
      by_cases e : k = i
      · subst e
        have h1 : (listed.setIfInBounds k true).getD k false = true := by
          have : k < listed.size := by omega
          simp [this]
        have h2 : (l.filter fun j => !(listed.setIfInBounds k true).getD j false) = l.filter fun j => !listed.getD j false := by
          refine List.filter_congr fun j hj => ?_
          rw [getD_set_ne false (fun e => hk (by rw [e]; exact hj))]
        rw [List.filter_cons_of_neg (by rw [h1]; simp), List.filter_cons_of_pos (by rw [hf]; rfl), h2]
        rfl
      · have hm' : i ∈ l := (List.mem_cons.1 hm).resolve_left (fun h => e h.symm)
        have := ih hn' hm'
        have h1 : (listed.setIfInBounds i true).getD k false = listed.getD k false := getD_set_ne false (fun h => e h.symm)
        cases hv : listed.getD k false
        · rw [List.filter_cons_of_pos (by rw [h1, hv]; rfl), List.filter_cons_of_pos (by rw [hv]; rfl), List.length_cons, List.length_cons, ← this]
        · rw [List.filter_cons_of_neg (by rw [h1, hv]; simp), List.filter_cons_of_neg (by rw [hv]; simp)]
          exact this
  exact key _ List.nodup_range (List.mem_range.2 hi)

theorem unl_zero {n : Nat} {listed : Array Bool} (h : unl n listed = 0) : ∀ j, j < n → listed.getD j false = true := by
  intro j hj
  have h1 := List.length_eq_zero_iff.1 h
  have h2 := List.filter_eq_nil_iff.1 h1 j (List.mem_range.2 hj)
  simpa using h2

/-- Of what is not listed the first is ready. -/
theorem ready_some {ops : Array Oper} {listed : Array Bool} (hs : listed.size = ops.size) (hord : ∀ (j : Nat) o, ops[j]? = some o → ∀ e ∈ o.after, e.on < j) (h : Region.ready .any ops listed = []) :
    ∀ j, j < ops.size → listed.getD j false = true := by
  intro j
  induction j using Nat.strongRecOn with
  | ind j ih =>
    intro hj
    cases hv : listed.getD j false with
    | true => rfl
    | false =>
      have hjl : j < listed.size := by omega
      have : j ∈ Region.ready .any ops listed := by
        rw [mem_ready]
        refine ⟨?_, ops[j], Array.getElem?_eq_getElem hj, fun e he _ => ?_⟩
        · simp only [Array.getD_eq_getD_getElem?, Array.getElem?_eq_getElem hjl, Option.getD_some] at hv ⊢
          exact hv
        · have hlt := hord j _ (Array.getElem?_eq_getElem hj) e he
          exact ih e.on hlt (by omega)
      rw [h] at this
      cases this

theorem key_le {sl sl' : List (Nat × AV)} {ob : List (Nat × List AV)} (key : ∀ i x, look sl i = some x → look sl' i = some x) : (⟨sl', ob⟩ : AS).le ⟨sl, ob⟩ := by
  refine ⟨fun j x hx => ?_, fun id cs hc => ?_⟩
  · have := key j x hx
    simp only [AS.get, this, Option.getD_some]; exact AV.sub_refl _
  · exact ⟨cs, hc, (subL_spec (subL_refl cs)).1, (subL_spec (subL_refl cs)).2⟩

theorem awp_draw {C : Cx} {id : Nat} {ops : Array Oper} {Q : Exit → AS → Prop} {sl : List (Nat × AV)} {ob : List (Nat × List AV)} (base : List (Nat × AV)) (hm : C.P.follows .mixedOrders = true) (hb : BaseIn sl base)
    (hord : (ops.toList.zipIdx.all fun p => p.1.after.toList.all fun e => Nat.blt e.on p.2) = true) (h : DR C ops base ob (Q .normal) ops.toList []) : awp C (.region id ops true) Q ⟨sl, ob⟩ := by
  intro g a w hs
  obtain ⟨rs, hlen, hfin, hstep⟩ := dr_spec h
  simp only [List.nil_append, Array.length_toList] at hlen hfin hstep
  have hord' : ∀ (j : Nat) o, ops[j]? = some o → ∀ e ∈ o.after, e.on < j := by
    intro j o ho e he
    have h1 := List.all_eq_true.1 hord (o, j) (by
      rw [List.mem_iff_getElem?]
      exact ⟨j, by rw [List.getElem?_zipIdx, Array.getElem?_toList, ho]; simp⟩)
    exact Nat.blt_eq ▸ (List.all_eq_true.1 h1 e (Array.mem_toList_iff.2 he))
  -- slots are apart
  have hap : ∀ (i j : Nat) p q, rs[i]? = some p → rs[j]? = some q → i < j → p.1 ≠ q.1 := by
    intro i j p q h1 h2 hij
    have hj : j < ops.size := by have := (List.getElem?_eq_some_iff.1 h2).1; omega
    obtain ⟨d, r, h3, _, _, h4, _⟩ := hstep j ops[j] (by rw [Array.getElem?_toList, Array.getElem?_eq_getElem hj])
    rw [h2] at h3; cases h3
    refine h4 p ?_
    rw [List.mem_iff_getElem?]
    exact ⟨i, by rw [List.getElem?_take_of_lt hij]; exact h1⟩
  have main : ∀ (fuel : Nat) (listed : Array Bool) (g : Gh) (a : Act) (w : World) (sl' : List (Nat × AV)), listed.size = ops.size → unl ops.size listed = fuel → St C.n C.w0 C.F g ⟨sl', ob⟩ a w →
      (∀ i x, look base i = some x → look sl' i = some x) → (∀ (j : Nat) p, listed.getD j false = true → rs[j]? = some p → look sl' p.1 = some p.2) →
      wpAny C.P .any ops (fun e a' w' => ∃ g' s', St C.n C.w0 C.F g' s' a' w' ∧ Q e s') fuel listed a w := by
    have fin : ∀ (listed : Array Bool) (g : Gh) (a : Act) (w : World) (sl' : List (Nat × AV)), (∀ j, j < ops.size → listed.getD j false = true) → St C.n C.w0 C.F g ⟨sl', ob⟩ a w →
        (∀ i x, look base i = some x → look sl' i = some x) → (∀ (j : Nat) p, listed.getD j false = true → rs[j]? = some p → look sl' p.1 = some p.2) →
        ∃ g' s', St C.n C.w0 C.F g' s' a w ∧ Q .normal s' := by
      intro listed g a w sl' hall hs hbase hres
      refine ⟨g, _, hs.weaken ?_, hfin⟩
      have key : ∀ i x, look (rs.reverse ++ base) i = some x → look sl' i = some x := by
        intro i x hx
        rcases List.mem_append.1 (look_mem hx) with hx' | hx'
        · obtain ⟨j, hj⟩ := List.mem_iff_getElem?.1 (List.mem_reverse.1 hx')
          have hjl : j < ops.size := by have := (List.getElem?_eq_some_iff.1 hj).1; omega
          exact hres j (i, x) (hall j hjl) hj
        · have : look rs.reverse i = none := by
            cases hr : look rs.reverse i with
            | none => rfl
            | some y =>
              obtain ⟨j, hj⟩ := List.mem_iff_getElem?.1 (List.mem_reverse.1 (look_mem hr))
              have hjl : j < ops.size := by have := (List.getElem?_eq_some_iff.1 hj).1; omega
              obtain ⟨d, r, h3, _, _, _, h4⟩ := hstep j ops[j] (by rw [Array.getElem?_toList, Array.getElem?_eq_getElem hjl])
              rw [hj] at h3; cases h3
              exact absurd rfl (h4 _ hx')
          rw [look_append, this] at hx
          exact hbase i x (by simpa using hx)
      exact key_le key
    intro fuel
    induction fuel with
    | zero =>
      intro listed g a w sl' hsz hu hs hbase hres
      have hall := unl_zero hu
      refine ⟨?_, fin listed g a w sl' hall hs hbase hres⟩
      rw [List.eq_nil_iff_forall_not_mem]
      intro i hi
      obtain ⟨h1, o, ho, _⟩ := mem_ready.1 hi
      have hil : i < ops.size := (Array.getElem?_eq_some_iff.1 ho).1
      have h2 := hall i hil
      have hil2 : i < listed.size := by omega
      simp only [Array.getD_eq_getD_getElem?, Array.getElem?_eq_getElem hil2, Option.getD_some] at h1 h2
      rw [h1] at h2; cases h2
    | succ fuel ih =>
      intro listed g a w sl' hsz hu hs hbase hres
      refine ⟨fun hr => fin listed g a w sl' (ready_some hsz hord' hr) hs hbase hres, fun i hi => ?_⟩
      obtain ⟨h1, o, ho, hafter⟩ := mem_ready.1 hi
      have hil : i < ops.size := (Array.getElem?_eq_some_iff.1 ho).1
      obtain ⟨d, r, h3, h4, h5, h6, h7⟩ := hstep i o (by rw [Array.getElem?_toList]; exact ho)
      have hkn : ∀ k x, look (knownAt base o (rs.take i)) k = some x → look sl' k = some x := by
        intro k x hx
        unfold knownAt at hx
        rw [look_append] at hx
        cases hq : look (o.after.toList.filterMap fun e => if Region.binds .any e then (rs.take i)[e.on]? else none) k with
        | none => rw [hq] at hx; exact hbase k x (by simpa using hx)
        | some y =>
          rw [hq] at hx
          simp only [Option.some_or, Option.some.injEq] at hx
          subst hx
          obtain ⟨e, he, hex⟩ := List.mem_filterMap.1 (look_mem hq)
          by_cases hbn : Region.binds .any e = true
          · rw [if_pos hbn] at hex
            have he' := Array.mem_toList_iff.1 he
            have hlt := hord' i o ho e he'
            rw [List.getElem?_take_of_lt hlt] at hex
            exact hres e.on (k, y) (hafter e he' hbn) hex
          · rw [if_neg hbn] at hex; cases hex
      have hone := h5 sl' hkn (fun s => s = ⟨(d, r) :: sl', ob⟩) rfl i ho
      refine wpOp_of (hone g a w hs) ?_
      rintro a' w' ⟨g', s', hs', rfl⟩
      refine ih _ g' a' w' ((d, r) :: sl') (by simpa using hsz) ?_ hs' (fun k x hx => ?_) (fun j p hj hp => ?_)
      · have := unl_set hsz hil h1; omega
      · rw [look_cons, if_neg]
        · exact hbase k x hx
        · intro e; subst e
          exact h7 _ (look_mem hx) rfl
      · rw [look_cons]
        by_cases e : j = i
        · subst e
          rw [h3] at hp; cases hp
          rw [if_pos rfl]
        · have hjl : j < ops.size := by have := (List.getElem?_eq_some_iff.1 hp).1; omega
          rw [if_neg]
          · refine hres j p ?_ hp
            rw [getD_set_ne false (fun h => e h.symm)] at hj
            exact hj
          · intro he
            rcases Nat.lt_or_gt_of_ne e with hlt | hlt
            · exact hap j i _ _ hp h3 hlt he.symm
            · exact hap i j _ _ h3 hp hlt he
  refine wp_region_any hm ?_
  refine main ops.size _ g a _ sl (by simp) ?_ hs.drew (fun i x hx => baseIn_look hb i x hx) (fun j p hj _ => ?_)
  · unfold unl
    rw [List.filter_eq_self.2, List.length_range]
    intro j hj
    have := List.mem_range.1 hj
    simp [this]
  · exfalso
    rw [Array.getD_eq_getD_getElem?, Array.getElem?_replicate] at hj
    split at hj <;> simp at hj

theorem dr_nil {C : Cx} {ops : Array Oper} {base : List (Nat × AV)} {ob : List (Nat × List AV)} {K : AS → Prop} {rs : List (Nat × AV)} (h : K ⟨rs.reverse ++ base, ob⟩) : DR C ops base ob K [] rs := h

theorem args_nil {sl : List (Nat × AV)} : argsA sl [] = some [] := rfl
theorem args_cons {sl : List (Nat × AV)} {x : Operand} {r : List Operand} {a : AV} {q : List AV} (h1 : evo sl x = some a) (h2 : argsA sl r = some q) : argsA sl (x :: r) = some (a :: q) := by
  simp only [argsA, h1, h2]
theorem lo_some {sl : List (Nat × AV)} {x : Operand} {k : IntKind} {n : Int} (h : evo sl x = some (.p (.val (.int k n)))) : loI sl (some x) = some n := by
  simp only [loI, h]

end Go.Ab
