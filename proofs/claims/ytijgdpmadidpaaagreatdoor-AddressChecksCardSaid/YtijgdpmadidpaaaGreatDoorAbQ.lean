/- A layer of abstract values over the model's worlds, part Q: regions whose operations run in an order that is drawn, with what each operation must know written out. It holds for every program. -/
import Derived.Test.YtijgdpmadidpaaaGreatDoorAbP
set_option linter.unusedVariables false
set_option linter.unusedSimpArgs false
set_option linter.unnecessarySimpa false
namespace Go.Ab

/-- The results so far, the latest first: the operation's number, its slot, its value. -/
abbrev Rev := List (Nat × Nat × AV)
def lookR : Rev → Nat → Option (Nat × AV)
  | [], _ => none
  | (j, p) :: r, k => bif Nat.beq j k then some p else lookR r k
def revSl : Rev → List (Nat × AV)
  | [] => []
  | (_, p) :: r => p :: revSl r

def KnOk (base : List (Nat × AV)) (o : Oper) (rev : Rev) : List (Nat × AV) → Prop
  | [] => True
  | (i, x) :: r => (look base i = some x ∨ ∃ k, (o.after.toList.any fun e => Nat.beq e.on k && Region.binds .any e) = true ∧ lookR rev k = some (i, x)) ∧ KnOk base o rev r

def StepK (C : Cx) (ops : Array Oper) (ob : List (Nat × List AV)) (o : Oper) (kn : List (Nat × AV)) (d : Nat) (r : AV) : Prop :=
  ∀ sl, (∀ i x, look kn i = some x → look sl i = some x) → ∀ K : AS → Prop, K ⟨(d, r) :: sl, ob⟩ → One C ops o K ⟨sl, ob⟩

def DQ (C : Cx) (ops : Array Oper) (base : List (Nat × AV)) (ob : List (Nat × List AV)) (K : AS → Prop) : List Oper → Nat → Rev → Prop
  | [], _, rev => K ⟨revSl rev ++ base, ob⟩
  | o :: rest, k, rev => ∃ d r kn, o.dst = some d ∧ (rev.all fun p => !(Nat.beq p.2.1 d)) = true ∧ look base d = none ∧ KnOk base o rev kn ∧ StepK C ops ob o kn d r ∧ DQ C ops base ob K rest (k + 1) ((k, d, r) :: rev)

theorem dq_nil {C : Cx} {ops : Array Oper} {base : List (Nat × AV)} {ob : List (Nat × List AV)} {K : AS → Prop} {k : Nat} {rev : Rev} (h : K ⟨revSl rev ++ base, ob⟩) : DQ C ops base ob K [] k rev := h
theorem dq_cons {C : Cx} {ops : Array Oper} {base : List (Nat × AV)} {ob : List (Nat × List AV)} {K : AS → Prop} {o : Oper} {rest : List Oper} {k : Nat} {rev : Rev} {d : Nat} (r : AV) (kn : List (Nat × AV)) (hkn : KnOk base o rev kn)
    (hs : StepK C ops ob o kn d r) (hd : o.dst = some d) (hf : (rev.all fun p => !(Nat.beq p.2.1 d)) = true) (hb : look base d = none) (h : DQ C ops base ob K rest (k + 1) ((k, d, r) :: rev)) : DQ C ops base ob K (o :: rest) k rev :=
  ⟨d, r, kn, hd, hf, hb, hkn, hs, h⟩

/-- 'rev' is 'rs' from its end on. -/
def RevOf (rev : Rev) (rs : List (Nat × AV)) : Prop := revSl rev = rs.reverse ∧ ∀ k p, lookR rev k = some p → rs[k]? = some p

theorem revSl_mem {rev : Rev} {i : Nat} {x : AV} : (i, x) ∈ revSl rev → ∃ j, (j, i, x) ∈ rev := by
  induction rev with
  | nil => intro h; simp [revSl] at h
  | cons q r ih =>
    obtain ⟨j, p⟩ := q
    intro h
    simp only [revSl] at h
    rcases List.mem_cons.1 h with rfl | h
    · exact ⟨j, by simp⟩
    · obtain ⟨j', h'⟩ := ih h
      exact ⟨j', by simp [h']⟩

theorem look_none_of {l : List (Nat × AV)} {i : Nat} (h : ∀ p ∈ l, p.1 ≠ i) : look l i = none := by
  cases hl : look l i with
  | none => rfl
  | some x => exact absurd rfl (h _ (look_mem hl))

theorem knOk_look {base : List (Nat × AV)} {o : Oper} {rev : Rev} {rs sl : List (Nat × AV)} (hr : RevOf rev rs)
    (hap : ∀ (i j : Nat) p q, rs[i]? = some p → rs[j]? = some q → p.1 = q.1 → i = j) (hbs : ∀ p ∈ rs, look base p.1 = none)
    (h : ∀ i x, look (knownAt base o rs) i = some x → look sl i = some x) : ∀ {kn : List (Nat × AV)}, KnOk base o rev kn → ∀ i x, look kn i = some x → look sl i = some x
  | [], _, i, x, hx => by simp [look] at hx
  | (j, y) :: r, hk, i, x, hx => by
    rw [look_cons] at hx
    by_cases e : j = i
    · rw [if_pos e] at hx
      cases hx; subst e
      refine h j y ?_
      unfold knownAt
      rw [look_append]
      rcases hk.1 with hb | ⟨k, hk1, hk2⟩
      · have : look (o.after.toList.filterMap fun e => if Region.binds .any e then rs[e.on]? else none) j = none := by
          refine look_none_of fun p hp => ?_
          obtain ⟨e, _, hex⟩ := List.mem_filterMap.1 hp
          by_cases hbn : Region.binds .any e = true
          · rw [if_pos hbn] at hex
            have := hbs p (List.mem_of_getElem? hex)
            intro e2; rw [e2, hb] at this; cases this
          · rw [if_neg hbn] at hex; cases hex
        rw [this]; exact hb
      · have hrk := hr.2 k _ hk2
        obtain ⟨e, he, hbe⟩ := List.any_eq_true.1 hk1
        simp only [Bool.and_eq_true] at hbe
        have hek := Nat.eq_of_beq_eq_true hbe.1
        have hmem : (j, y) ∈ o.after.toList.filterMap fun e => if Region.binds .any e then rs[e.on]? else none :=
          List.mem_filterMap.2 ⟨e, he, by rw [if_pos hbe.2, hek]; exact hrk⟩
        cases hq : look (o.after.toList.filterMap fun e => if Region.binds .any e then rs[e.on]? else none) j with
        | none => exact absurd rfl (look_none hq _ hmem)
        | some z =>
          obtain ⟨e', _, hex⟩ := List.mem_filterMap.1 (look_mem hq)
          by_cases hbn : Region.binds .any e' = true
          · rw [if_pos hbn] at hex
            have h2 := hap _ _ _ _ hex hrk rfl
            rw [h2, hrk] at hex
            cases hex; rfl
          · rw [if_neg hbn] at hex; cases hex
    · rw [if_neg e] at hx
      exact knOk_look hr hap hbs h hk.2 i x hx

theorem dr_of {C : Cx} {ops : Array Oper} {base : List (Nat × AV)} {ob : List (Nat × List AV)} {K : AS → Prop} : ∀ {l : List Oper} {k : Nat} {rev : Rev} {rs : List (Nat × AV)}, DQ C ops base ob K l k rev → rs.length = k → RevOf rev rs →
    (∀ (i j : Nat) p q, rs[i]? = some p → rs[j]? = some q → p.1 = q.1 → i = j) → (∀ p ∈ rs, look base p.1 = none) → DR C ops base ob K l rs
  | [], k, rev, rs, h, _, hr, _, _ => by
    have h' : K ⟨revSl rev ++ base, ob⟩ := h
    rw [hr.1] at h'
    exact h'
  | o :: rest, k, rev, rs, ⟨d, r, kn, hd, hf, hb, hkn, hs, h⟩, hk, hr, hap, hbs => by
    have hfr : ∀ p ∈ rs, p.1 ≠ d := by
      intro p hp e
      have h1 : (p.1, p.2) ∈ revSl rev := by rw [hr.1]; exact List.mem_reverse.2 hp
      obtain ⟨j, hj⟩ := revSl_mem h1
      have h2 := List.all_eq_true.1 hf _ hj
      simp [e] at h2
    refine ⟨d, r, hd, ?_, fun sl hsl K hK => hs sl (knOk_look hr hap hbs hsl hkn) K hK, dr_of h (by simp [hk]) ⟨?_, ?_⟩ ?_ ?_⟩
    · rw [look_append, look_none_of (fun p hp => hfr p (List.mem_reverse.1 hp))]
      exact hb
    · simp [revSl, hr.1]
    · intro k' p h'
      simp only [lookR] at h'
      cases hkk : Nat.beq k k'
      · rw [hkk] at h'
        have h2 := hr.2 k' p h'
        have hlt := (List.getElem?_eq_some_iff.1 h2).1
        rw [List.getElem?_append_left hlt]; exact h2
      · rw [hkk] at h'
        have := Nat.eq_of_beq_eq_true hkk
        subst this
        simp only [cond_true, Option.some.injEq] at h'
        subst h'
        rw [← hk]; simp
    · intro i j p q hi hj e
      have hli : i < rs.length + 1 := by have := (List.getElem?_eq_some_iff.1 hi).1; simpa using this
      have hlj : j < rs.length + 1 := by have := (List.getElem?_eq_some_iff.1 hj).1; simpa using this
      rcases Nat.lt_or_ge i rs.length with h1 | h1
      · rw [List.getElem?_append_left h1] at hi
        rcases Nat.lt_or_ge j rs.length with h2 | h2
        · rw [List.getElem?_append_left h2] at hj
          exact hap i j p q hi hj e
        · have e2 : j = rs.length := by omega
          subst e2
          rw [List.getElem?_append_right (Nat.le_refl _)] at hj
          simp at hj; subst hj
          exact absurd e (hfr p (List.mem_of_getElem? hi))
      · have e1 : i = rs.length := by omega
        subst e1
        rw [List.getElem?_append_right (Nat.le_refl _)] at hi
        simp at hi; subst hi
        rcases Nat.lt_or_ge j rs.length with h2 | h2
        · rw [List.getElem?_append_left h2] at hj
          exact absurd e.symm (hfr q (List.mem_of_getElem? hj))
        · omega
    · intro p hp
      rcases List.mem_append.1 hp with hp | hp
      · exact hbs p hp
      · simp at hp; subst hp; exact hb

theorem awp_drawQ {C : Cx} {id : Nat} {ops : Array Oper} {Q : Exit → AS → Prop} {sl : List (Nat × AV)} {ob : List (Nat × List AV)} (base : List (Nat × AV)) (hm : C.P.follows .mixedOrders = true) (hb : BaseIn sl base)
    (hord : (ops.toList.zipIdx.all fun p => p.1.after.toList.all fun e => Nat.blt e.on p.2) = true) (h : DQ C ops base ob (Q .normal) ops.toList 0 []) : awp C (.region id ops true) Q ⟨sl, ob⟩ :=
  awp_draw base hm hb hord (dr_of h rfl ⟨rfl, fun k p h => by simp [lookR] at h⟩ (fun i j p q h => by simp at h) (fun p h => by simp at h))

end Go.Ab
