/- A layer of abstract values over the model's worlds, part U: regions that draw their order and change objects on the way: those operations that change them stand in a fixed order among themselves. It holds for every program. -/
import Derived.Test.YtapfhipodpbflaaGreatDoorAbT
set_option linter.unusedVariables false
set_option linter.unusedSimpArgs false
set_option linter.unnecessarySimpa false
namespace Go.Ab

def bindsOn (o : Oper) (k : Nat) : Bool := o.after.toList.any fun e => Nat.beq e.on k && Region.binds .any e
/-- Does it come behind the operation a, by one edge or by several? -/
def bindsT (ops : Array Oper) : Nat → Oper → Nat → Bool
  | 0, o, a => bindsOn o a
  | n + 1, o, a => bindsOn o a || ops.toList.zipIdx.any fun p => bindsOn o p.2 && bindsT ops n p.1 a
/-- May the operation k run when j of those that change objects have run? -/
def allowB (ops : Array Oper) (imp : List Nat) (o : Oper) (k j : Nat) : Bool :=
  (imp.zipIdx.all fun p => !(bindsT ops 4 o p.1) || Nat.blt p.2 j) && (imp.zipIdx.all fun p => match ops.toList[p.1]? with
    | some oi => !(bindsOn oi k) || Nat.ble j p.2
    | none => true)
def chainB (ops : Array Oper) : List Nat → Bool
  | a :: b :: r => (match ops.toList[b]? with | some o => bindsT ops 4 o a | none => false) && chainB ops (b :: r)
  | _ => true
/-- Must it come behind those that change objects from the j-th on? Then it has not run yet. -/
def loB (ops : Array Oper) (imp : List Nat) (o : Oper) (j : Nat) : Bool := imp.zipIdx.all fun p => !(bindsT ops 4 o p.1) || Nat.blt p.2 j
theorem bindsT_listed {ops : Array Oper} {listed : Array Bool} (hcl : ∀ (k : Nat) o, ops[k]? = some o → listed.getD k false = true → ∀ e ∈ o.after, Region.binds .any e = true → listed.getD e.on false = true) :
    ∀ (n : Nat) (o : Oper) (a : Nat), bindsT ops n o a = true → (∀ e ∈ o.after, Region.binds .any e = true → listed.getD e.on false = true) → listed.getD a false = true := by
  have one : ∀ (o : Oper) (a : Nat), bindsOn o a = true → (∀ e ∈ o.after, Region.binds .any e = true → listed.getD e.on false = true) → listed.getD a false = true := by
    intro o a h ha
    obtain ⟨e, he, hbe⟩ := List.any_eq_true.1 h
    simp only [Bool.and_eq_true] at hbe
    have h3 := ha e (Array.mem_toList_iff.1 he) hbe.2
    rwa [Nat.eq_of_beq_eq_true hbe.1] at h3
  intro n
  induction n with
  | zero => exact one
  | succ n ih =>
    intro o a h ha
    simp only [bindsT, Bool.or_eq_true] at h
    rcases h with h | h
    · exact one o a h ha
    · obtain ⟨⟨p, k⟩, hp, h2⟩ := List.any_eq_true.1 h
      simp only [Bool.and_eq_true] at h2
      have hk := one o k h2.1 ha
      have hpk : ops[k]? = some p := by
        have := List.mk_mem_zipIdx_iff_getElem?.1 hp
        simpa using this
      exact ih p a h2.2 (hcl k p hpk hk)

/-- What a change of an object makes of what is known. -/
inductive Tr where
  | none
  | some (D : Nat → Bool)
  | fn (f : AV → AV)
def trA : Tr → AV → AV
  | .none, x => x
  | .some D, x => x.dem D
  | .fn f, x => f x
def trL : Tr → List (Nat × AV) → List (Nat × AV)
  | .none, l => l
  | .some D, l => l.map fun p => (p.1, p.2.dem D)
  | .fn f, l => l.map fun p => (p.1, f p.2)
theorem look_trL {D : Tr} {l : List (Nat × AV)} {i : Nat} : look (trL D l) i = (look l i).map (trA D) := by
  cases D with
  | none => simp only [trL]; cases look l i <;> rfl
  | some D => simp only [trL, look_map]; rfl
  | fn f => simp only [trL, look_map]; rfl

/-- Results: the operation's number, its slot, its value at each stage. -/
abbrev RevS := List (Nat × Nat × (Nat → AV))
def lookS : RevS → Nat → Option (Nat × (Nat → AV))
  | [], _ => none
  | (j, p) :: r, k => bif Nat.beq j k then some p else lookS r k
def slotsS : RevS → Nat → List (Nat × AV)
  | [], _ => []
  | (_, d, v) :: r, j => (d, v j) :: slotsS r j

def KnS (bas : List (Nat × AV)) (o : Oper) (rev : RevS) (j : Nat) : List (Nat × AV) → Prop
  | [] => True
  | (i, x) :: r => (look bas i = some x ∨ ∃ k v, bindsOn o k = true ∧ lookS rev k = some (i, v) ∧ v j = x) ∧ KnS bas o rev j r

structure Sched where
  m : Nat
  imp : List Nat
  D : Nat → Tr
  bas : Nat → List (Nat × AV)
  obj : Nat → List (Nat × List AV)

def DS (C : Cx) (ops : Array Oper) (S : Sched) (K : RevS → Prop) : List Oper → Nat → RevS → Prop
  | [], _, rev => K rev
  | o :: rest, k, rev =>
    match S.imp.findIdx? (Nat.beq k) with
    | none => ∃ d v, o.dst = some d ∧ (rev.all fun p => !(Nat.beq p.2.1 d)) = true ∧ (∀ j, look (S.bas j) d = none) ∧ (∀ j, j < S.m → loB ops S.imp o j = true → v (j + 1) = trA (S.D j) (v j)) ∧
        (∀ j, j ≤ S.m → allowB ops S.imp o k j = true → ∃ kn, KnS (S.bas j) o rev j kn ∧ StepK C ops (S.obj j) o kn d (v j)) ∧ DS C ops S K rest (k + 1) ((k, d, v) :: rev)
    | some i => ∃ kn, KnS (S.bas i) o rev i kn ∧ ((∃ d v, o.dst = some d ∧ (rev.all fun p => !(Nat.beq p.2.1 d)) = true ∧ (∀ j, i < j → look (S.bas j) d = none) ∧ (∀ j, i < j → j < S.m → v (j + 1) = trA (S.D j) (v j)) ∧
          (∀ sl, (∀ i x, look kn i = some x → look sl i = some x) → ∀ K : AS → Prop, K ⟨(d, v (i + 1)) :: trL (S.D i) sl, S.obj (i + 1)⟩ → One C ops o K ⟨sl, S.obj i⟩) ∧ DS C ops S K rest (k + 1) ((k, d, v) :: rev)) ∨
        (o.dst = none ∧ (∀ sl, (∀ i x, look kn i = some x → look sl i = some x) → ∀ K : AS → Prop, K ⟨trL (S.D i) sl, S.obj (i + 1)⟩ → One C ops o K ⟨sl, S.obj i⟩) ∧ DS C ops S K rest (k + 1) rev))

/-- What one operation owes, said of all results at once. -/
def OwesP (C : Cx) (ops : Array Oper) (S : Sched) (R : Nat → Option (Nat × (Nat → AV))) (o : Oper) (k : Nat) : Prop :=
  match S.imp.findIdx? (Nat.beq k) with
  | none => ∃ d v, R k = some (d, v) ∧ o.dst = some d ∧ (∀ j, look (S.bas j) d = none) ∧ (∀ j, j < S.m → loB ops S.imp o j = true → v (j + 1) = trA (S.D j) (v j)) ∧
      (∀ j, j ≤ S.m → allowB ops S.imp o k j = true → ∀ sl, (∀ i x, look (S.bas j) i = some x → look sl i = some x) → (∀ k' p, bindsOn o k' = true → R k' = some p → look sl p.1 = some (p.2 j)) → ∀ K : AS → Prop, K ⟨(d, v j) :: sl, S.obj j⟩ → One C ops o K ⟨sl, S.obj j⟩)
  | some i => (∃ d v, R k = some (d, v) ∧ o.dst = some d ∧ (∀ j, i < j → look (S.bas j) d = none) ∧ (∀ j, i < j → j < S.m → v (j + 1) = trA (S.D j) (v j)) ∧
        (∀ sl, (∀ q x, look (S.bas i) q = some x → look sl q = some x) → (∀ k' p, bindsOn o k' = true → R k' = some p → look sl p.1 = some (p.2 i)) → ∀ K : AS → Prop, K ⟨(d, v (i + 1)) :: trL (S.D i) sl, S.obj (i + 1)⟩ → One C ops o K ⟨sl, S.obj i⟩)) ∨
      (R k = none ∧ o.dst = none ∧ (∀ sl, (∀ q x, look (S.bas i) q = some x → look sl q = some x) → (∀ k' p, bindsOn o k' = true → R k' = some p → look sl p.1 = some (p.2 i)) → ∀ K : AS → Prop, K ⟨trL (S.D i) sl, S.obj (i + 1)⟩ → One C ops o K ⟨sl, S.obj i⟩))

theorem knS_look {bas : List (Nat × AV)} {o : Oper} {rev : RevS} {j : Nat} {R : Nat → Option (Nat × (Nat → AV))} (hR : ∀ k p, lookS rev k = some p → R k = some p) {sl : List (Nat × AV)} (h1 : ∀ i x, look bas i = some x → look sl i = some x)
    (h2 : ∀ k' p, bindsOn o k' = true → R k' = some p → look sl p.1 = some (p.2 j)) : ∀ {kn : List (Nat × AV)}, KnS bas o rev j kn → ∀ i x, look kn i = some x → look sl i = some x
  | [], _, i, x, h => by simp [look] at h
  | (q, y) :: r, hk, i, x, h => by
    rw [look_cons] at h
    by_cases e : q = i
    · rw [if_pos e] at h; cases h; subst e
      rcases hk.1 with h3 | ⟨k, v, h3, h4, h5⟩
      · exact h1 _ _ h3
      · have := h2 k _ h3 (hR k _ h4)
        rw [← h5]; exact this
    · rw [if_neg e] at h
      exact knS_look hR h1 h2 hk.2 i x h

theorem lookS_lt {rev : RevS} {k : Nat} (h : ∀ p ∈ rev, p.1 < k) : lookS rev k = none := by
  induction rev with
  | nil => rfl
  | cons p r ih =>
    obtain ⟨j, q⟩ := p
    have h1 := h (j, q) (by simp)
    simp only [lookS]
    have : Nat.beq j k = false := by
      cases hq : Nat.beq j k
      · rfl
      · have := Nat.eq_of_beq_eq_true hq
        simp only at h1; omega
    rw [this, cond_false]
    exact ih fun p hp => h p (by simp [hp])

/-- From the rows of text to all at once. -/
theorem ds_spec {C : Cx} {ops : Array Oper} {S : Sched} {K : RevS → Prop} : ∀ {l : List Oper} {k : Nat} {rev : RevS}, DS C ops S K l k rev → (∀ p ∈ rev, p.1 < k) →
    ∃ fin : RevS, K fin ∧ (∀ i, i < k → lookS fin i = lookS rev i) ∧ (∀ p ∈ fin, p.1 < k + l.length) ∧
      (∀ (i : Nat) o, l[i]? = some o → OwesP C ops S (lookS fin) o (k + i)) ∧
      (∃ pre : RevS, fin = pre ++ rev ∧ (∀ p ∈ pre, ∀ q ∈ rev, p.2.1 ≠ q.2.1) ∧ (∀ (i j : Nat) p q, pre[i]? = some p → pre[j]? = some q → p.2.1 = q.2.1 → i = j) ∧ (∀ p ∈ pre, k ≤ p.1) ∧ ∀ (i j : Nat) p q, pre[i]? = some p → pre[j]? = some q → p.1 = q.1 → i = j)
  | [], k, rev, h, hlt => ⟨rev, h, fun _ _ => rfl, hlt, fun i o h => by simp at h, [], rfl, by simp, by simp, by simp, by simp⟩
  | o :: rest, k, rev, h, hlt => by
    -- one more result
    have more : ∀ (d : Nat) (v : Nat → AV), (rev.all fun p => !(Nat.beq p.2.1 d)) = true → DS C ops S K rest (k + 1) ((k, d, v) :: rev) →
        (∀ fin : RevS, (∀ q p, lookS rev q = some p → lookS fin q = some p) → lookS fin k = some (d, v) → OwesP C ops S (lookS fin) o k) → ∃ fin : RevS, K fin ∧ (∀ i, i < k → lookS fin i = lookS rev i) ∧ (∀ p ∈ fin, p.1 < k + (rest.length + 1)) ∧
          (∀ (i : Nat) o', (o :: rest)[i]? = some o' → OwesP C ops S (lookS fin) o' (k + i)) ∧
          (∃ pre : RevS, fin = pre ++ rev ∧ (∀ p ∈ pre, ∀ q ∈ rev, p.2.1 ≠ q.2.1) ∧ (∀ (i j : Nat) p q, pre[i]? = some p → pre[j]? = some q → p.2.1 = q.2.1 → i = j) ∧ (∀ p ∈ pre, k ≤ p.1) ∧ ∀ (i j : Nat) p q, pre[i]? = some p → pre[j]? = some q → p.1 = q.1 → i = j) := by
      intro d v hf hrest howes
      obtain ⟨fin, f1, f2, f3, f4, pre, f5, f6, f7, f8, f9⟩ := ds_spec hrest (fun p hp => by
        rcases List.mem_cons.1 hp with rfl | hp
        · exact Nat.lt_succ_self k
        · exact Nat.lt_succ_of_lt (hlt p hp))
      have hkk : lookS fin k = some (d, v) := by
        rw [f2 k (Nat.lt_succ_self k)]
        simp [lookS]
      have hsub : ∀ q, q < k → lookS fin q = lookS rev q := by
        intro q hq
        rw [f2 q (Nat.lt_succ_of_lt hq)]
        simp only [lookS]
        have : Nat.beq k q = false := by
          cases hb : Nat.beq k q
          · rfl
          · have := Nat.eq_of_beq_eq_true hb; omega
        rw [this, cond_false]
      have hfrd : ∀ q ∈ rev, q.2.1 ≠ d := fun q hq e => by
        have := List.all_eq_true.1 hf q hq
        simp [e] at this
      refine ⟨fin, f1, hsub, fun p hp => by have := f3 p hp; omega, fun i o' ho' => ?_, pre ++ [(k, d, v)], by rw [f5]; simp, fun p hp q hq => ?_, fun i j p q hi hj e => ?_, fun p hp => ?_, fun i j p q hi hj e => ?_⟩
      · cases i with
        | zero =>
          simp only [List.getElem?_cons_zero, Option.some.injEq] at ho'
          subst ho'
          refine howes fin (fun q p hq => ?_) hkk
          have hqk : q < k := by
            by_cases hqk : q < k
            · exact hqk
            · exfalso
              have : lookS rev q = none := lookS_lt fun p hp => Nat.lt_of_lt_of_le (hlt p hp) (Nat.le_of_not_lt hqk)
              rw [this] at hq; cases hq
          rw [hsub q hqk]; exact hq
        | succ i =>
          simp only [List.getElem?_cons_succ] at ho'
          have := f4 i o' ho'
          rwa [show k + 1 + i = k + (i + 1) by omega] at this
      · rcases List.mem_append.1 hp with hp | hp
        · exact f6 p hp q (by simp [hq])
        · simp only [List.mem_singleton] at hp
          subst hp
          exact fun e => hfrd q hq e.symm
      · have key : ∀ (i : Nat) p, (pre ++ [(k, d, v)])[i]? = some p → (i < pre.length ∧ pre[i]? = some p) ∨ (i = pre.length ∧ p = (k, d, v)) := by
          intro i p h
          rcases Nat.lt_or_ge i pre.length with hi | hi
          · rw [List.getElem?_append_left hi] at h; exact .inl ⟨hi, h⟩
          · rw [List.getElem?_append_right hi] at h
            have hl := (List.getElem?_eq_some_iff.1 h).1
            simp at hl
            have hi0 : i = pre.length := by omega
            subst hi0
            simp at h
            exact .inr ⟨rfl, h.symm⟩
        rcases key i p hi with ⟨a1, a2⟩ | ⟨a1, rfl⟩ <;> rcases key j q hj with ⟨b1, b2⟩ | ⟨b1, rfl⟩
        · exact f7 i j p q a2 b2 e
        · exact absurd e (f6 p (List.mem_of_getElem? a2) (k, d, v) (by simp))
        · exact absurd e.symm (f6 q (List.mem_of_getElem? b2) (k, d, v) (by simp))
        · omega
      · rcases List.mem_append.1 hp with hp | hp
        · have := f8 p hp; omega
        · simp only [List.mem_singleton] at hp; subst hp; exact Nat.le_refl _
      · have key : ∀ (i : Nat) p, (pre ++ [(k, d, v)])[i]? = some p → (i < pre.length ∧ pre[i]? = some p) ∨ (i = pre.length ∧ p = (k, d, v)) := by
          intro i p h
          rcases Nat.lt_or_ge i pre.length with hi | hi
          · rw [List.getElem?_append_left hi] at h; exact .inl ⟨hi, h⟩
          · rw [List.getElem?_append_right hi] at h
            have hl := (List.getElem?_eq_some_iff.1 h).1
            simp at hl
            have hi0 : i = pre.length := by omega
            subst hi0
            simp at h
            exact .inr ⟨rfl, h.symm⟩
        rcases key i p hi with ⟨a1, a2⟩ | ⟨a1, rfl⟩ <;> rcases key j q hj with ⟨b1, b2⟩ | ⟨b1, rfl⟩
        · exact f9 i j p q a2 b2 e
        · have := f8 p (List.mem_of_getElem? a2); simp only at e; omega
        · have := f8 q (List.mem_of_getElem? b2); simp only at e; omega
        · omega
    unfold DS at h
    cases hi : S.imp.findIdx? (Nat.beq k) with
    | none =>
      rw [hi] at h
      obtain ⟨d, v, hd, hf, hb, hv, hs, hrest⟩ := h
      refine more d v hf hrest fun fin hR hk => ?_
      unfold OwesP
      rw [hi]
      refine ⟨d, v, hk, hd, hb, hv, fun j hj hal sl h1 h2 K hK => ?_⟩
      obtain ⟨kn, hkn, hst⟩ := hs j hj hal
      exact hst sl (knS_look hR h1 h2 hkn) K hK
    | some i =>
      rw [hi] at h
      obtain ⟨kn, hkn, ⟨d, v, hd, hf, hb, hv, hst, hrest⟩ | ⟨hd, hst, hrest⟩⟩ := h
      · refine more d v hf hrest fun fin hR hk => ?_
        unfold OwesP
        rw [hi]
        exact .inl ⟨d, v, hk, hd, hb, hv, fun sl h1 h2 K hK => hst sl (knS_look hR h1 h2 hkn) K hK⟩
      · obtain ⟨fin, f1, f2, f3, f4, pre, f5, f6, f7, f8, f9⟩ := ds_spec hrest (fun p hp => Nat.lt_succ_of_lt (hlt p hp))
        refine ⟨fin, f1, fun q hq => f2 q (Nat.lt_succ_of_lt hq), fun p hp => by have := f3 p hp; simp only [List.length_cons]; omega, fun q o' ho' => ?_, pre, f5, f6, f7, fun p hp => by have := f8 p hp; omega, f9⟩
        cases q with
        | zero =>
          simp only [List.getElem?_cons_zero, Option.some.injEq] at ho'
          subst ho'
          have hkn' : lookS fin k = none := by
            rw [f2 k (Nat.lt_succ_self k)]
            exact lookS_lt hlt
          unfold OwesP
          rw [Nat.add_zero, hi]
          refine .inr ⟨hkn', hd, fun sl h1 h2 K hK => hst sl (knS_look (fun q p hq => ?_) h1 h2 hkn) K hK⟩
          have hqk : q < k := by
            by_cases hqk : q < k
            · exact hqk
            · exfalso
              have : lookS rev q = none := lookS_lt fun p hp => Nat.lt_of_lt_of_le (hlt p hp) (Nat.le_of_not_lt hqk)
              rw [this] at hq; cases hq
          rw [f2 q (Nat.lt_succ_of_lt hqk)]; exact hq
        | succ q =>
          simp only [List.getElem?_cons_succ] at ho'
          have := f4 q o' ho'
          rwa [show k + 1 + q = k + (q + 1) by omega] at this

theorem lookS_mem : ∀ {rev : RevS} {k : Nat} {p : Nat × (Nat → AV)}, lookS rev k = some p → (k, p) ∈ rev
  | [], k, p, h => by simp [lookS] at h
  | (j, q) :: r, k, p, h => by
    simp only [lookS] at h
    cases hb : Nat.beq j k
    · rw [hb, cond_false] at h
      exact List.mem_cons_of_mem _ (lookS_mem h)
    · rw [hb, cond_true] at h
      cases h
      have := Nat.eq_of_beq_eq_true hb
      subst this
      simp

theorem slotsS_mem : ∀ {rev : RevS} {j i : Nat} {x : AV}, (i, x) ∈ slotsS rev j → ∃ k v, (k, i, v) ∈ rev ∧ v j = x
  | [], j, i, x, h => by simp [slotsS] at h
  | (k, d, v) :: r, j, i, x, h => by
    simp only [slotsS] at h
    rcases List.mem_cons.1 h with e | h
    · cases e; exact ⟨k, v, by simp, rfl⟩
    · obtain ⟨k', v', h1, h2⟩ := slotsS_mem h
      exact ⟨k', v', List.mem_cons_of_mem _ h1, h2⟩

theorem chain_at {ops : Array Oper} : ∀ {imp : List Nat}, chainB ops imp = true → ∀ (i a b : Nat) o, imp[i]? = some a → imp[i + 1]? = some b → ops[b]? = some o → bindsT ops 4 o a = true
  | [], _, i, a, b, o, h, _, _ => by simp at h
  | [x], _, i, a, b, o, h1, h2, _ => by
    cases i with
    | zero => simp at h2
    | succ i => simp at h1
  | x :: y :: r, hc, i, a, b, o, h1, h2, h3 => by
    simp only [chainB, Bool.and_eq_true] at hc
    cases i with
    | zero =>
      simp only [List.getElem?_cons_zero, Option.some.injEq, List.getElem?_cons_succ] at h1 h2
      subst h1 h2
      have := hc.1
      rw [Array.getElem?_toList, h3] at this
      exact this
    | succ i =>
      simp only [List.getElem?_cons_succ] at h1 h2
      exact chain_at hc.2 i a b o h1 (by simpa using h2) h3

theorem ready_someB {ops : Array Oper} {listed : Array Bool} (hs : listed.size = ops.size) (hord : ∀ (j : Nat) o, ops[j]? = some o → ∀ e ∈ o.after, Region.binds .any e = true → e.on < j) (h : Region.ready .any ops listed = []) :
    ∀ j, j < ops.size → listed.getD j false = true := by
  intro j
  induction j using Nat.strongRecOn with
  | ind j ih =>
    intro hj
    cases hv : listed.getD j false with
    | true => rfl
    | false =>
      have hjl : j < listed.size := by omega
      have : j ∈ Region.ready .any ops listed := by
        rw [mem_ready]
        refine ⟨?_, ops[j], Array.getElem?_eq_getElem hj, fun e he hb => ?_⟩
        · simp only [Array.getD_eq_getD_getElem?, Array.getElem?_eq_getElem hjl, Option.getD_some] at hv ⊢
          exact hv
        · have hlt := hord j _ (Array.getElem?_eq_getElem hj) e he hb
          exact ih e.on hlt (by omega)
      rw [h] at this
      cases this

/-- What a schedule says of all operations of a region. -/
structure Plan (C : Cx) (ops : Array Oper) (S : Sched) (fin : RevS) : Prop where
  owes : ∀ (k : Nat) o, ops[k]? = some o → OwesP C ops S (lookS fin) o k
  lt : ∀ k p, lookS fin k = some p → k < ops.size
  same : ∀ k k' p p', lookS fin k = some p → lookS fin k' = some p' → p.1 = p'.1 → k = k'
  num : ∀ (i j : Nat) p q, fin[i]? = some p → fin[j]? = some q → p.1 = q.1 → i = j
  len : S.imp.length = S.m
  bas : ∀ j, j < S.m → BaseIn (trL (S.D j) (S.bas j)) (S.bas (j + 1))
  nd : nodupB S.imp = true
  inn : S.imp.all (fun i => Nat.blt i ops.size) = true
  ord : ∀ (j : Nat) o, ops[j]? = some o → ∀ e ∈ o.after, Region.binds .any e = true → e.on < j

theorem Plan.mk' {C : Cx} {ops : Array Oper} {S : Sched} {K : RevS → Prop} (hlen : S.imp.length = S.m)
    (hbas : ∀ j, j < S.m → BaseIn (trL (S.D j) (S.bas j)) (S.bas (j + 1))) (hnd : nodupB S.imp = true) (hin : S.imp.all (fun i => Nat.blt i ops.size) = true)
    (hord : (ops.toList.zipIdx.all fun p => p.1.after.toList.all fun e => !(Region.binds .any e) || Nat.blt e.on p.2) = true) (h : DS C ops S K ops.toList 0 []) : ∃ fin, K fin ∧ Plan C ops S fin := by
  obtain ⟨fin, hfin, _, hfl, howes, pre, hpre, _, hdst, _, hnum⟩ := ds_spec h (by simp)
  rw [List.append_nil] at hpre
  subst hpre
  simp only [Nat.zero_add, Array.length_toList] at hfl howes
  have howes' : ∀ (k : Nat) o, ops[k]? = some o → OwesP C ops S (lookS fin) o k := fun k o ho => howes k o (by rw [Array.getElem?_toList]; exact ho)
  have hord' : ∀ (j : Nat) o, ops[j]? = some o → ∀ e ∈ o.after, Region.binds .any e = true → e.on < j := by
    intro j o ho e he hbe
    have h1 := List.all_eq_true.1 hord (o, j) (by
      rw [List.mem_iff_getElem?]
      exact ⟨j, by rw [List.getElem?_zipIdx, Array.getElem?_toList, ho]; simp⟩)
    have h2 := List.all_eq_true.1 h1 e (Array.mem_toList_iff.2 he)
    simp only [hbe, Bool.not_true, Bool.false_or] at h2
    exact Nat.blt_eq ▸ h2
  have hlt : ∀ k p, lookS fin k = some p → k < ops.size := fun k p h => hfl _ (lookS_mem h)
  have hsame : ∀ k k' p p', lookS fin k = some p → lookS fin k' = some p' → p.1 = p'.1 → k = k' := by
    intro k k' p p' h1 h2 e
    obtain ⟨i, hi⟩ := List.mem_iff_getElem?.1 (lookS_mem h1)
    obtain ⟨i', hi'⟩ := List.mem_iff_getElem?.1 (lookS_mem h2)
    have := hdst i i' _ _ hi hi' e
    subst this
    rw [hi] at hi'; cases hi'; rfl
  have hdstOf : ∀ k o p, ops[k]? = some o → lookS fin k = some p → o.dst = some p.1 := by
    intro k o p ho hk
    have h := howes' k o ho
    unfold OwesP at h
    split at h
    · obtain ⟨d, v, h1, h2, _⟩ := h
      rw [hk] at h1; cases h1; exact h2
    · rcases h with ⟨d, v, h1, h2, _⟩ | ⟨h1, _⟩
      · rw [hk] at h1; cases h1; exact h2
      · rw [hk] at h1; cases h1
  exact ⟨fin, hfin, howes', hlt, hsame, hnum, hlen, hbas, hnd, hin, hord'⟩

def PInv (ops : Array Oper) (S : Sched) (listed : Array Bool) (j : Nat) : Prop := j ≤ S.m ∧ (∀ (i k : Nat), S.imp[i]? = some k → (listed.getD k false = true ↔ i < j)) ∧ (∀ (k : Nat) o, ops[k]? = some o → listed.getD k false = true → ∀ e ∈ o.after, Region.binds .any e = true → listed.getD e.on false = true)
def PKn (S : Sched) (fin : RevS) (listed : Array Bool) (j : Nat) (sl' : List (Nat × AV)) : Prop := (∀ i x, look (S.bas j) i = some x → look sl' i = some x) ∧ (∀ k p, listed.getD k false = true → lookS fin k = some p → look sl' p.1 = some (p.2 j))
/-- Where a region may stand: the changes of the schedule up to the j-th have run. -/
structure PAt (C : Cx) (ops : Array Oper) (S : Sched) (fin : RevS) (fuel : Nat) (listed : Array Bool) (g : Gh) (a : Act) (w : World) (sl' : List (Nat × AV)) (j : Nat) : Prop where
  sz : listed.size = ops.size
  un : unl ops.size listed = fuel
  inv : PInv ops S listed j
  kn : PKn S fin listed j sl'
  st : St C.n C.w0 C.F g ⟨sl', S.obj j⟩ a w

theorem AS.le_refl (s : AS) : s.le s := ⟨fun j x h => by unfold AS.get; rw [h]; exact AV.sub_refl _, fun id cs h => ⟨cs, h, Nat.le_refl _, fun i c d h1 h2 => by rw [h1] at h2; cases h2; exact AV.sub_refl _⟩⟩

theorem draw_plan {C : Cx} {ops : Array Oper} {Q : Exit → AS → Prop} {S : Sched} {fin : RevS} (hP : Plan C ops S fin) {t : AS} (hle : (⟨slotsS fin S.m ++ S.bas S.m, S.obj S.m⟩ : AS).le t) (hfin : Q .normal t) (j0 : Nat)
    (hsw : ∀ (fuel : Nat) (listed : Array Bool) (g : Gh) (a : Act) (w : World) (sl' : List (Nat × AV)) (j : Nat), j0 ≤ j → PAt C ops S fin (fuel + 1) listed g a w sl' j → ∀ i q, i ∈ Region.ready .any ops listed → S.imp[q]? = some i → j < q →
      wpOp C.P ops (fun e a' w' => ∃ g' s', St C.n C.w0 C.F g' s' a' w' ∧ Q e s') i (wpAny C.P .any ops (fun e a' w' => ∃ g' s', St C.n C.w0 C.F g' s' a' w' ∧ Q e s') fuel (listed.setIfInBounds i true)) a w) :
    (∀ (fuel : Nat) (listed : Array Bool) (g : Gh) (a : Act) (w : World) (sl' : List (Nat × AV)) (j : Nat), j0 ≤ j → PAt C ops S fin fuel listed g a w sl' j → wpAny C.P .any ops (fun e a' w' => ∃ g' s', St C.n C.w0 C.F g' s' a' w' ∧ Q e s') fuel listed a w) ∧
    (∀ (fuel : Nat) (listed : Array Bool) (g : Gh) (a : Act) (w : World) (sl' : List (Nat × AV)) (j i : Nat), (j0 ≤ j ∨ (j0 ≤ j + 1 ∧ S.imp[j]? = some i)) → i ∈ Region.ready .any ops listed → PAt C ops S fin (fuel + 1) listed g a w sl' j →
      wpOp C.P ops (fun e a' w' => ∃ g' s', St C.n C.w0 C.F g' s' a' w' ∧ Q e s') i (wpAny C.P .any ops (fun e a' w' => ∃ g' s', St C.n C.w0 C.F g' s' a' w' ∧ Q e s') fuel (listed.setIfInBounds i true)) a w) := by
  obtain ⟨howes', hlt, hsame, hnum, hlen, hbas, hnd, hin, hord'⟩ := hP
  have himp : ∀ {k i : Nat}, S.imp.findIdx? (Nat.beq k) = some i → S.imp[i]? = some k := fun h => findIdx_spec h
  have himp2 : ∀ {k i : Nat}, S.imp[i]? = some k → S.imp.findIdx? (Nat.beq k) = some i := by
    intro k i h
    cases hf : S.imp.findIdx? (Nat.beq k) with
    | none =>
      have := List.findIdx?_eq_none_iff.1 hf k (List.mem_of_getElem? h)
      simp at this
    | some i' =>
      have := nodupB_spec hnd _ _ _ (himp hf) h
      rw [this]
  have done : ∀ (listed : Array Bool) (g : Gh) (a : Act) (w : World) (sl' : List (Nat × AV)) (j : Nat), (∀ k, k < ops.size → listed.getD k false = true) → PInv ops S listed j → PKn S fin listed j sl' → St C.n C.w0 C.F g ⟨sl', S.obj j⟩ a w →
      ∃ g' s', St C.n C.w0 C.F g' s' a w ∧ Q .normal s' := by
    intro listed g a w sl' j hall hI hK hs
    have hj : j = S.m := by
      rcases Nat.lt_or_ge j S.m with hlt | hge
      · exfalso
        have hjl : j < S.imp.length := by omega
        have h1 := (hI.2.1 j S.imp[j] (List.getElem?_eq_getElem hjl)).1 (hall _ (by
          have := List.all_eq_true.1 hin S.imp[j] (List.getElem_mem hjl)
          exact Nat.blt_eq ▸ this))
        omega
      · exact Nat.le_antisymm hI.1 hge
    subst hj
    refine ⟨g, t, (hs.weaken (t := ⟨slotsS fin S.m ++ S.bas S.m, S.obj S.m⟩) ?_).weaken hle, hfin⟩
    refine key_le fun i x hx => ?_
    rw [look_append] at hx
    cases hq : look (slotsS fin S.m) i with
    | none => rw [hq] at hx; exact hK.1 i x (by simpa using hx)
    | some y =>
      rw [hq] at hx
      simp only [Option.some_or, Option.some.injEq] at hx
      subst hx
      obtain ⟨k, v, h1, h2⟩ := slotsS_mem (look_mem hq)
      have hk : lookS fin k = some (i, v) := by
        obtain ⟨q, hq'⟩ := List.mem_iff_getElem?.1 h1
        cases hl : lookS fin k with
        | none =>
          exfalso
          have hno : ∀ {rev : RevS} {k : Nat} {p : Nat × (Nat → AV)}, (k, p) ∈ rev → lookS rev k ≠ none := by
            intro rev
            induction rev with
            | nil => intro k p h; simp at h
            | cons z r ih =>
              intro k p h
              obtain ⟨j, q⟩ := z
              simp only [lookS]
              cases hb : Nat.beq j k
              · rw [cond_false]
                rcases List.mem_cons.1 h with e | h
                · cases e; simp at hb
                · exact ih h
              · rw [cond_true]; simp
          exact hno h1 hl
        | some p =>
          obtain ⟨q2, hq2⟩ := List.mem_iff_getElem?.1 (lookS_mem hl)
          have := hnum q q2 _ _ hq' hq2 rfl
          subst this
          rw [hq'] at hq2; cases hq2; rfl
      have := hK.2 k _ (hall k (hlt k _ hk)) hk
      rw [← h2]; exact this
  have step : ∀ (fuel : Nat), (∀ (listed : Array Bool) (g : Gh) (a : Act) (w : World) (sl' : List (Nat × AV)) (j : Nat), j0 ≤ j → PAt C ops S fin fuel listed g a w sl' j → wpAny C.P .any ops (fun e a' w' => ∃ g' s', St C.n C.w0 C.F g' s' a' w' ∧ Q e s') fuel listed a w) →
      ∀ (listed : Array Bool) (g : Gh) (a : Act) (w : World) (sl' : List (Nat × AV)) (j i : Nat), (j0 ≤ j ∨ (j0 ≤ j + 1 ∧ S.imp[j]? = some i)) → i ∈ Region.ready .any ops listed → PAt C ops S fin (fuel + 1) listed g a w sl' j →
        wpOp C.P ops (fun e a' w' => ∃ g' s', St C.n C.w0 C.F g' s' a' w' ∧ Q e s') i (wpAny C.P .any ops (fun e a' w' => ∃ g' s', St C.n C.w0 C.F g' s' a' w' ∧ Q e s') fuel (listed.setIfInBounds i true)) a w := by
      intro fuel ih' listed g a w sl' j i hwhen hi hat
      have hi0 := hi
      obtain ⟨hsz, hu, hI, hK, hs⟩ := hat
      have ih : ∀ (listed : Array Bool) (g : Gh) (a : Act) (w : World) (sl' : List (Nat × AV)) (j : Nat), listed.size = ops.size → unl ops.size listed = fuel → PInv ops S listed j → PKn S fin listed j sl' → St C.n C.w0 C.F g ⟨sl', S.obj j⟩ a w → j0 ≤ j →
          wpAny C.P .any ops (fun e a' w' => ∃ g' s', St C.n C.w0 C.F g' s' a' w' ∧ Q e s') fuel listed a w := fun listed g a w sl' j h1 h2 h3 h4 h5 h6 => ih' listed g a w sl' j h6 ⟨h1, h2, h3, h4, h5⟩
      obtain ⟨h1, o, ho, hafter⟩ := mem_ready.1 hi
      have hil : i < ops.size := (Array.getElem?_eq_some_iff.1 ho).1
      have h1' : listed.getD i false = false := by
        have hil2 : i < listed.size := by omega
        simp only [Array.getD_eq_getD_getElem?, Array.getElem?_eq_getElem hil2, Option.getD_some] at h1 ⊢
        exact h1
      have hbo : ∀ k, bindsOn o k = true → listed.getD k false = true := by
        intro k hk
        obtain ⟨e, he, hbe⟩ := List.any_eq_true.1 hk
        simp only [Bool.and_eq_true] at hbe
        have := Nat.eq_of_beq_eq_true hbe.1
        subst this
        exact hafter e (Array.mem_toList_iff.1 he) hbe.2
      have hget : ∀ q, (listed.setIfInBounds i true).getD q false = true → q = i ∨ listed.getD q false = true := by
        intro q hq
        by_cases e : q = i
        · exact .inl e
        · rw [getD_set_ne false (fun h => e h.symm)] at hq; exact .inr hq
      have hget2 : ∀ q, listed.getD q false = true → (listed.setIfInBounds i true).getD q false = true := by
        intro q hq
        have hne : q ≠ i := fun e => by subst e; rw [h1'] at hq; cases hq
        rw [getD_set_ne false (fun h => hne h.symm)]; exact hq
      have hgeti : (listed.setIfInBounds i true).getD i false = true := by
        have hil2 : i < listed.size := by omega
        simp [Array.getD_eq_getD_getElem?, Array.getElem?_setIfInBounds, hil2]
      have hclosed : ∀ k o', ops[k]? = some o' → (listed.setIfInBounds i true).getD k false = true → ∀ e ∈ o'.after, Region.binds .any e = true → (listed.setIfInBounds i true).getD e.on false = true := by
        intro k o' ho' hk e he hbe
        rcases hget k hk with rfl | hk
        · rw [ho] at ho'; cases ho'
          exact hget2 _ (hafter e he hbe)
        · exact hget2 _ (hI.2.2 k o' ho' hk e he hbe)
      have howe := howes' i o ho
      unfold OwesP at howe
      cases hfi : S.imp.findIdx? (Nat.beq i) with
      | none =>
        rw [hfi] at howe
        obtain ⟨d, v, hRk, hd, hnb, hv, hst⟩ := howe
        have hj0 : j0 ≤ j := by
          rcases hwhen with h | ⟨_, h⟩
          · exact h
          · rw [himp2 h] at hfi; cases hfi
        have hal : allowB ops S.imp o i j = true := by
          unfold allowB
          simp only [Bool.and_eq_true, List.all_eq_true]
          refine ⟨fun p hp => ?_, fun p hp => ?_⟩
          · obtain ⟨q, hq⟩ := List.mem_iff_getElem?.1 hp
            rw [List.getElem?_zipIdx] at hq
            simp only [Option.map_eq_some_iff, Nat.zero_add] at hq
            obtain ⟨x, hx, rfl⟩ := hq
            cases hbx : bindsT ops 4 o x
            · simp [hbx]
            · have := (hI.2.1 q x hx).1 (bindsT_listed hI.2.2 4 o x hbx hafter)
              simp only [hbx, Bool.not_true, Bool.false_or]
              rw [Nat.blt_eq]; exact this
          · obtain ⟨q, hq⟩ := List.mem_iff_getElem?.1 hp
            rw [List.getElem?_zipIdx] at hq
            simp only [Option.map_eq_some_iff, Nat.zero_add] at hq
            obtain ⟨x, hx, rfl⟩ := hq
            simp only [Array.getElem?_toList]
            cases hox : ops[x]? with
            | none => rfl
            | some ox =>
              simp only
              cases hbx : bindsOn ox i
              · simp
              · simp only [Bool.not_true, Bool.false_or]
                refine Nat.ble_eq_true_of_le (Nat.le_of_not_lt fun hlt => ?_)
                have hl := (hI.2.1 q x hx).2 hlt
                obtain ⟨e, he, hbe⟩ := List.any_eq_true.1 hbx
                simp only [Bool.and_eq_true] at hbe
                have := Nat.eq_of_beq_eq_true hbe.1
                subst this
                have := hI.2.2 x ox hox hl e (Array.mem_toList_iff.1 he) hbe.2
                rw [h1'] at this; cases this
        have hone := hst j hI.1 hal sl' hK.1 (fun k' p hb hk' => hK.2 k' p (hbo k' hb) hk') (fun s => s = ⟨(d, v j) :: sl', S.obj j⟩) rfl i ho
        refine wpOp_of (hone g a w hs) ?_
        rintro a' w' ⟨g', s', hs', rfl⟩
        refine ih _ g' a' w' ((d, v j) :: sl') j (by simpa using hsz) ?_ ⟨hI.1, fun q k hq => ?_, hclosed⟩ ⟨fun q x hx => ?_, fun k p hk hp => ?_⟩ hs' hj0
        · have := unl_set hsz hil h1; omega
        · have hne : k ≠ i := fun e => by subst e; rw [himp2 hq] at hfi; cases hfi
          rw [getD_set_ne false (fun h => hne h.symm)]; exact hI.2.1 q k hq
        · rw [look_cons, if_neg]
          · exact hK.1 q x hx
          · intro e; subst e; rw [hnb j] at hx; cases hx
        · rw [look_cons]
          rcases hget k hk with rfl | hk
          · rw [hRk] at hp; cases hp; rw [if_pos rfl]
          · rw [if_neg]
            · exact hK.2 k p hk hp
            · intro e
              have := hsame i k _ _ hRk hp e
              subst this
              rw [h1'] at hk; cases hk
      | some q =>
        rw [hfi] at howe
        have hq := himp hfi
        -- its stage
        have h2 : ¬ q < j := fun h => by have := (hI.2.1 q i hq).2 h; rw [h1'] at this; cases this
        by_cases hqj : j < q
        · rcases hwhen with hj0 | ⟨_, hji⟩
          · exact hsw fuel listed g a w sl' j hj0 ⟨hsz, hu, hI, hK, hs⟩ i q hi0 hq hqj
          · have := nodupB_spec hnd _ _ _ hji hq; omega
        have hqj : q = j := by omega
        have hj1 : j0 ≤ j + 1 := by
          rcases hwhen with h | ⟨h, _⟩ <;> omega
        subst hqj
        have hqm : q < S.m := by have := (List.getElem?_eq_some_iff.1 hq).1; omega
        have hbnext : ∀ (sl'' : List (Nat × AV)), (∀ z x, look sl' z = some x → look sl'' z = some (trA (S.D q) x)) → ∀ z x, look (S.bas (q + 1)) z = some x → look sl'' z = some x := by
          intro sl'' hsl z x hx
          have hx := baseIn_look (hbas q hqm) z x hx
          rw [look_trL, Option.map_eq_some_iff] at hx
          obtain ⟨y, hy, rfl⟩ := hx
          exact hsl z y (hK.1 z y hy)
        have hInext : PInv ops S (listed.setIfInBounds i true) (q + 1) := by
          refine ⟨hqm, fun z k hz => ?_, hclosed⟩
          by_cases e : k = i
          · subst e
            have := nodupB_spec hnd _ _ _ hz hq
            subst this
            exact ⟨fun _ => Nat.lt_succ_self _, fun _ => hgeti⟩
          · rw [getD_set_ne false (fun h => e h.symm), hI.2.1 z k hz]
            constructor
            · intro h; omega
            · intro h
              rcases Nat.lt_or_ge z q with h5 | h5
              · exact h5
              · have : z = q := by omega
                subst this
                rw [hq] at hz; cases hz; exact absurd rfl e
        have hvnext : ∀ k p, listed.getD k false = true → lookS fin k = some p → p.2 (q + 1) = trA (S.D q) (p.2 q) := by
          intro k p hk hp
          have hkl := hlt k p hp
          have hok := howes' k ops[k] (Array.getElem?_eq_getElem hkl)
          unfold OwesP at hok
          split at hok
          · obtain ⟨d, v, e1, _, _, e2, _⟩ := hok
            rw [hp] at e1; cases e1
            refine e2 q hqm (List.all_eq_true.2 fun p hp' => ?_)
            obtain ⟨z, hz⟩ := List.mem_iff_getElem?.1 hp'
            rw [List.getElem?_zipIdx] at hz
            simp only [Option.map_eq_some_iff, Nat.zero_add] at hz
            obtain ⟨x, hx, rfl⟩ := hz
            cases hbx : bindsT ops 4 ops[k] x
            · rfl
            · have := (hI.2.1 z x hx).1 (bindsT_listed hI.2.2 4 _ x hbx (hI.2.2 k _ (Array.getElem?_eq_getElem hkl) hk))
              simp only [Bool.not_true, Bool.false_or]
              rw [Nat.blt_eq]; exact this
          · rename_i z hz
            have hzq : z < q := (hI.2.1 z k (himp hz)).1 hk
            rcases hok with ⟨d, v, e1, _, _, e2, _⟩ | ⟨e1, _⟩
            · rw [hp] at e1; cases e1; exact e2 q hzq hqm
            · rw [hp] at e1; cases e1
        rcases howe with ⟨d, v, hRk, hd, hnb, hv, hst⟩ | ⟨hRk, hd, hst⟩
        · have hone := hst sl' hK.1 (fun k' p hb hk' => hK.2 k' p (hbo k' hb) hk') (fun s => s = ⟨(d, v (q + 1)) :: trL (S.D q) sl', S.obj (q + 1)⟩) rfl i ho
          refine wpOp_of (hone g a w hs) ?_
          rintro a' w' ⟨g', s', hs', rfl⟩
          refine ih _ g' a' w' ((d, v (q + 1)) :: trL (S.D q) sl') (q + 1) (by simpa using hsz) ?_ hInext ⟨fun z x hx => ?_, fun k p hk hp => ?_⟩ hs' hj1
          · have := unl_set hsz hil h1; omega
          · rw [look_cons, if_neg]
            · exact hbnext (trL (S.D q) sl') (fun z x h => by rw [look_trL, h]; rfl) z x hx
            · intro e; subst e; rw [hnb (q + 1) (Nat.lt_succ_self q)] at hx; cases hx
          · rw [look_cons]
            rcases hget k hk with rfl | hk
            · rw [hRk] at hp; cases hp; rw [if_pos rfl]
            · rw [if_neg]
              · rw [look_trL, hK.2 k p hk hp, hvnext k p hk hp]; rfl
              · intro e
                have := hsame i k _ _ hRk hp e
                subst this
                rw [h1'] at hk; cases hk
        · have hone := hst sl' hK.1 (fun k' p hb hk' => hK.2 k' p (hbo k' hb) hk') (fun s => s = ⟨trL (S.D q) sl', S.obj (q + 1)⟩) rfl i ho
          refine wpOp_of (hone g a w hs) ?_
          rintro a' w' ⟨g', s', hs', rfl⟩
          refine ih _ g' a' w' (trL (S.D q) sl') (q + 1) (by simpa using hsz) ?_ hInext ⟨fun z x hx => ?_, fun k p hk hp => ?_⟩ hs' hj1
          · have := unl_set hsz hil h1; omega
          · exact hbnext (trL (S.D q) sl') (fun z x h => by rw [look_trL, h]; rfl) z x hx
          · rcases hget k hk with rfl | hk
            · rw [hRk] at hp; cases hp
            · rw [look_trL, hK.2 k p hk hp, hvnext k p hk hp]; rfl
  have main : ∀ (fuel : Nat) (listed : Array Bool) (g : Gh) (a : Act) (w : World) (sl' : List (Nat × AV)) (j : Nat), j0 ≤ j → PAt C ops S fin fuel listed g a w sl' j → wpAny C.P .any ops (fun e a' w' => ∃ g' s', St C.n C.w0 C.F g' s' a' w' ∧ Q e s') fuel listed a w := by
    intro fuel
    induction fuel with
    | zero =>
      intro listed g a w sl' j hj0 ⟨hsz, hu, hI, hK, hs⟩
      have hall := unl_zero hu
      refine ⟨?_, done listed g a w sl' j hall hI hK hs⟩
      rw [List.eq_nil_iff_forall_not_mem]
      intro i hi
      obtain ⟨h1, o, ho, _⟩ := mem_ready.1 hi
      have hil : i < ops.size := (Array.getElem?_eq_some_iff.1 ho).1
      have h2 := hall i hil
      have hil2 : i < listed.size := by omega
      simp only [Array.getD_eq_getD_getElem?, Array.getElem?_eq_getElem hil2, Option.getD_some] at h1 h2
      rw [h1] at h2; cases h2
    | succ fuel ih =>
      intro listed g a w sl' j hj0 hat
      exact ⟨fun hr => done listed g a w sl' j (ready_someB hat.sz hord' hr) hat.inv hat.kn hat.st, fun i hi => step fuel (fun listed g a w sl' j h1 h2 => ih listed g a w sl' j h1 h2) listed g a w sl' j i (.inl hj0) hi hat⟩
  exact ⟨main, fun fuel listed g a w sl' j i => step fuel (main fuel) listed g a w sl' j i⟩

/-- Before anything has run. -/
theorem PAt.start {C : Cx} {ops : Array Oper} {S : Sched} {fin : RevS} {sl : List (Nat × AV)} {g : Gh} {a : Act} {w : World} (hb : BaseIn sl (S.bas 0)) (hs : St C.n C.w0 C.F g ⟨sl, S.obj 0⟩ a w) :
    PAt C ops S fin ops.size (Array.replicate ops.size false) g a w sl 0 := by
  refine ⟨by simp, ?_, ⟨Nat.zero_le _, fun i k hk => ?_, fun k o ho hk => ?_⟩, ⟨fun i x hx => baseIn_look hb i x hx, fun k p hk _ => ?_⟩, hs⟩
  · unfold unl
    rw [List.filter_eq_self.2, List.length_range]
    intro j hj
    have := List.mem_range.1 hj
    simp [this]
  · constructor
    · intro h
      exfalso
      rw [Array.getD_eq_getD_getElem?, Array.getElem?_replicate] at h
      split at h <;> simp at h
    · intro h; omega
  · exfalso
    rw [Array.getD_eq_getD_getElem?, Array.getElem?_replicate] at hk
    split at hk <;> simp at hk
  · exfalso
    rw [Array.getD_eq_getD_getElem?, Array.getElem?_replicate] at hk
    split at hk <;> simp at hk


theorem awp_drawS {C : Cx} {id : Nat} {ops : Array Oper} {Q : Exit → AS → Prop} {sl : List (Nat × AV)} {ob : List (Nat × List AV)} (S : Sched) (hm : C.P.follows .mixedOrders = true) (hlen : S.imp.length = S.m) (hob : S.obj 0 = ob) (hb : BaseIn sl (S.bas 0))
    (hbas : ∀ j, j < S.m → BaseIn (trL (S.D j) (S.bas j)) (S.bas (j + 1))) (hnd : nodupB S.imp = true) (hin : S.imp.all (fun i => Nat.blt i ops.size) = true) (hch : chainB ops S.imp = true)
    (hord : (ops.toList.zipIdx.all fun p => p.1.after.toList.all fun e => !(Region.binds .any e) || Nat.blt e.on p.2) = true) (h : DS C ops S (fun rev => Q .normal ⟨slotsS rev S.m ++ S.bas S.m, S.obj S.m⟩) ops.toList 0 []) : awp C (.region id ops true) Q ⟨sl, ob⟩ := by
  subst hob
  intro g a w hs
  obtain ⟨fin, hfin, hP⟩ := Plan.mk' hlen hbas hnd hin hord h
  refine wp_region_any hm ?_
  refine (draw_plan hP (AS.le_refl _) hfin 0 ?_).1 _ _ g a _ sl 0 (Nat.zero_le _) (PAt.start hb hs.drew)
  intro fuel listed g a w sl' j _ hat i q hi hq hjq
  exfalso
  obtain ⟨h1, o, ho, hafter⟩ := mem_ready.1 hi
  cases q with
  | zero => omega
  | succ q =>
    have hql : q < S.imp.length := by have := (List.getElem?_eq_some_iff.1 hq).1; omega
    have hb := chain_at hch q S.imp[q] i o (List.getElem?_eq_getElem hql) hq ho
    have h3 := bindsT_listed hat.inv.2.2 4 o S.imp[q] hb hafter
    have := (hat.inv.2.1 q S.imp[q] (List.getElem?_eq_getElem hql)).1 h3
    omega

/-- The results of two schedules agree before anything has changed. -/
def agree2 (imp : List Nat) : RevS → RevS → Prop
  | (k, d, v) :: r, (k', d', v') :: r' => (k = k' ∧ d = d' ∧ (imp.any (Nat.beq k) = true ∨ v 0 = v' 0)) ∧ agree2 imp r r'
  | [], [] => True
  | _, _ => False
theorem agree2_look {imp : List Nat} : ∀ {r1 r2 : RevS}, agree2 imp r1 r2 → ∀ k p, imp.any (Nat.beq k) = false → lookS r2 k = some p → ∃ v, lookS r1 k = some (p.1, v) ∧ v 0 = p.2 0
  | [], [], _, k, p, _, h => by cases h
  | (k1, d1, v1) :: r, (k2, d2, v2) :: r', ⟨⟨e1, e2, e3⟩, hr⟩, k, p, hk, h => by
    subst e1 e2
    simp only [lookS] at h ⊢
    cases hb : Nat.beq k1 k
    · rw [hb, cond_false] at h
      rw [cond_false]
      exact agree2_look hr k p hk h
    · rw [hb, cond_true] at h
      cases h
      rw [cond_true]
      have := Nat.eq_of_beq_eq_true hb
      subst this
      exact ⟨v1, rfl, e3.resolve_left (by rw [hk]; exact fun h => by cases h)⟩
  | [], _ :: _, h, _, _, _, _ => h.elim
  | _ :: _, [], h, _, _, _, _ => h.elim

/-- Two changes that come first, in either order (two new objects), and a chain behind them. -/
theorem awp_drawSS {C : Cx} {id : Nat} {ops : Array Oper} {Q : Exit → AS → Prop} {sl : List (Nat × AV)} {ob : List (Nat × List AV)} (S1 S2 : Sched) {k1 k2 : Nat} {r : List Nat} (hm : C.P.follows .mixedOrders = true)
    (hi1 : S1.imp = k1 :: k2 :: r) (hi2 : S2.imp = k2 :: k1 :: r) (hlen1 : S1.imp.length = S1.m) (hlen2 : S2.imp.length = S2.m) (hob1 : S1.obj 0 = ob) (hob2 : S2.obj 0 = ob) (hb : BaseIn sl (S1.bas 0)) (hb2 : S2.bas 0 = S1.bas 0)
    (hbas1 : ∀ j, j < S1.m → BaseIn (trL (S1.D j) (S1.bas j)) (S1.bas (j + 1))) (hbas2 : ∀ j, j < S2.m → BaseIn (trL (S2.D j) (S2.bas j)) (S2.bas (j + 1)))
    (hnd : nodupB (k1 :: k2 :: r) = true) (hin : (k1 :: k2 :: r).all (fun i => Nat.blt i ops.size) = true) (hch1 : chainB ops (k1 :: r) = true) (hch2 : chainB ops (k2 :: r) = true)
    (hord : (ops.toList.zipIdx.all fun p => p.1.after.toList.all fun e => !(Region.binds .any e) || Nat.blt e.on p.2) = true)
    (h : DS C ops S1 (fun rev1 => Q .normal ⟨slotsS rev1 S1.m ++ S1.bas S1.m, S1.obj S1.m⟩ ∧ DS C ops S2 (fun rev2 => (⟨slotsS rev2 S2.m ++ S2.bas S2.m, S2.obj S2.m⟩ : AS).le ⟨slotsS rev1 S1.m ++ S1.bas S1.m, S1.obj S1.m⟩ ∧ agree2 (k1 :: k2 :: r) rev1 rev2) ops.toList 0 []) ops.toList 0 []) : awp C (.region id ops true) Q ⟨sl, ob⟩ := by
  intro g a w hs
  have hnd2 : nodupB S2.imp = true := by
    rw [hi2]
    simp only [nodupB, List.any_cons, Bool.not_or, Bool.and_eq_true, Bool.not_eq_true'] at hnd ⊢
    obtain ⟨⟨a1, a2⟩, a3, a4⟩ := hnd
    refine ⟨⟨?_, a3⟩, a2, a4⟩
    cases hq : Nat.beq k2 k1
    · rfl
    · rw [Nat.eq_of_beq_eq_true hq] at a1; rw [Nat.beq_refl] at a1; cases a1
  have hin2 : S2.imp.all (fun i => Nat.blt i ops.size) = true := by
    rw [hi2]
    simp only [List.all_cons, Bool.and_eq_true] at hin ⊢
    exact ⟨hin.2.1, hin.1, hin.2.2⟩
  obtain ⟨fin1, ⟨hf1, h2⟩, hP1⟩ := Plan.mk' hlen1 hbas1 (by rw [hi1]; exact hnd) (by rw [hi1]; exact hin) hord h
  obtain ⟨fin2, ⟨hf2, hag⟩, hP2⟩ := Plan.mk' hlen2 hbas2 hnd2 hin2 hord h2
  -- behind the first change the others come in order
  have chain : ∀ (x y : Nat) (S : Sched), S.imp = x :: y :: r → chainB ops (y :: r) = true → chainB ops (x :: r) = true → ∀ (listed : Array Bool) (j i q : Nat), PInv ops S listed j → i ∈ Region.ready .any ops listed → S.imp[q]? = some i → j < q → q = 1 ∧ j = 0 := by
    intro x y S hS hcy hcx listed j i q hI hi hq hjq
    obtain ⟨h1, o, ho, hafter⟩ := mem_ready.1 hi
    have use : ∀ z zi, S.imp[z]? = some zi → bindsT ops 4 o zi = true → z < j := by
      intro z zi hz hb
      exact (hI.2.1 z zi hz).1 (bindsT_listed hI.2.2 4 o zi hb hafter)
    match q, hq, hjq with
    | 0, _, hjq => omega
    | 1, _, hjq => exact ⟨rfl, by omega⟩
    | q + 2, hq, hjq =>
      exfalso
      rw [hS] at hq
      simp only [List.getElem?_cons_succ] at hq
      have hql : q < r.length := (List.getElem?_eq_some_iff.1 hq).1
      cases q with
      | zero =>
        have b1 := chain_at hcy 0 y i o rfl (by simpa using hq) ho
        have := use 1 y (by rw [hS]; rfl) b1
        have b2 := chain_at hcx 0 x i o rfl (by simpa using hq) ho
        omega
      | succ q =>
        have b1 := chain_at hcy (q + 1) r[q] i o (by simp [List.getElem?_eq_getElem (show q < r.length by omega)]) (by simpa using hq) ho
        have := use (q + 2) r[q] (by rw [hS]; simp [List.getElem?_eq_getElem (show q < r.length by omega)]) b1
        omega
  have two := draw_plan hP2 hf2 hf1 1 (fun fuel listed g a w sl' j hj hat i q hi hq hjq => by
    have := chain k2 k1 S2 hi2 hch1 hch2 listed j i q hat.inv hi hq hjq; omega)
  refine wp_region_any hm ?_
  refine (draw_plan hP1 (AS.le_refl _) hf1 0 ?_).1 _ _ g a _ sl 0 (Nat.zero_le _) (PAt.start hb (by rw [hob1]; exact hs.drew))
  intro fuel listed g a w sl' j _ hat i q hi hq hjq
  obtain ⟨rfl, rfl⟩ := chain k1 k2 S1 hi1 hch2 hch1 listed j i q hat.inv hi hq hjq
  have hik : i = k2 := by rw [hi1] at hq; simpa using hq.symm
  subst hik
  have hno : ∀ k, (k1 :: i :: r).any (Nat.beq k) = true → listed.getD k false = false := by
    intro k hk
    obtain ⟨x, hx, hkx⟩ := List.any_eq_true.1 hk
    have := Nat.eq_of_beq_eq_true hkx
    subst this
    obtain ⟨z, hz⟩ := List.mem_iff_getElem?.1 hx
    have := hat.inv.2.1 z k (by rw [hi1]; exact hz)
    cases hl : listed.getD k false with
    | false => rfl
    | true => have := this.1 hl; omega
  refine two.2 fuel listed g a w sl' 0 i (.inr ⟨Nat.le_refl _, by rw [hi2]; rfl⟩) hi ⟨hat.sz, hat.un, ⟨Nat.zero_le _, fun z k hz => ?_, hat.inv.2.2⟩, ⟨fun z x hx => hat.kn.1 z x (by rw [← hb2]; exact hx), fun k p hk hp => ?_⟩, by rw [hob2, ← hob1]; exact hat.st⟩
  · constructor
    · intro hl
      have hmem : k ∈ (k1 :: i :: r) := by
        have := List.mem_of_getElem? hz
        rw [hi2] at this
        simp only [List.mem_cons] at this ⊢
        rcases this with h | h | h
        · exact .inr (.inl h)
        · exact .inl h
        · exact .inr (.inr h)
      rw [hno k (List.any_eq_true.2 ⟨k, hmem, by simp⟩)] at hl
      cases hl
    · intro h; omega
  · have hk' : (k1 :: i :: r).any (Nat.beq k) = false := by
      cases hq : (k1 :: i :: r).any (Nat.beq k) with
      | false => rfl
      | true => rw [hno k hq] at hk; cases hk
    obtain ⟨v, hv1, hv2⟩ := agree2_look hag k p hk' hp
    have := hat.kn.2 k _ hk hv1
    rw [← hv2]; exact this

end Go.Ab
