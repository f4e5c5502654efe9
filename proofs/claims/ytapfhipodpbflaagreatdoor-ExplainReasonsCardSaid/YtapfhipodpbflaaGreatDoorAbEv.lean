/- Plain lemmas on the printed functions: texts, lists, checks. No program in sight. What the printed functions answer from some fuel on: rules to walk through them. No program in sight. -/
import Derived.Test.YtapfhipodpbflaaGreatDoorAbP
set_option linter.unusedVariables false
set_option linter.unusedSimpArgs false
set_option linter.unnecessarySimpa false
namespace Go.Ab

theorem inR_of {c : Int} (h1 : -9223372036854775808 ≤ c) (h2 : c ≤ 9223372036854775807) : inR c := ⟨h1, h2⟩
theorem byt_nat (l : Bytes) (k : Nat) : byt l (k : Int) = ((l.getD k 0).toNat : Int) := rfl
theorem lat_nat {α : Type} [Inhabited α] (l : List α) (k : Nat) : lat l (k : Int) = l.getD k default := rfl
theorem sub_nat {α : Type} (l : List α) (i j : Nat) : sub l (i : Int) (j : Int) = (l.take j).drop i := rfl
theorem sub_from {α : Type} (l : List α) (i : Int) : sub l i (l.length : Int) = l.drop i.toNat := by
  show (l.take (l.length : Int).toNat).drop i.toNat = _
  rw [Int.toNat_natCast, List.take_length]
theorem jn_inl {α β : Type} (v : α) (k : α → Option β) : jn (some (.inl v)) k = k v := rfl
theorem jn_inr {α β : Type} (x : β) (k : α → Option β) : jn (some (.inr x)) k = some x := rfl
theorem bd_some {α β : Type} (v : α) (k : α → Option β) : (some v).bind k = k v := rfl

end Go.Ab

namespace Go.Ab

/-- From some fuel on the answer is one and the same, and it fulfils P. (Two fuels: that of a function, and that of a loop in it.) -/
def Ev2 {α : Type} (f : Nat → Nat → Option α) (P : α → Prop) : Prop := ∃ r, P r ∧ ∃ N, ∀ n m, N ≤ n → N ≤ m → f n m = some r

section
variable {α β γ : Type} {P : α → Prop} {Q : β → Prop}
theorem ev_some {r : α} (h : P r) : Ev2 (fun _ _ => some r) P := ⟨r, h, 0, fun _ _ _ _ => rfl⟩
theorem ev_ck {p : Prop} [Decidable p] {f : Nat → Nat → Option α} (hp : p) (h : Ev2 f P) : Ev2 (fun n m => ck p (f n m)) P := by
  obtain ⟨r, h1, N, h2⟩ := h
  exact ⟨r, h1, N, fun n m hn hm => (ck_pos hp).trans (h2 n m hn hm)⟩
theorem ev_ite {p : Prop} [Decidable p] {f g : Nat → Nat → Option α} (h1 : p → Ev2 f P) (h2 : ¬p → Ev2 g P) : Ev2 (fun n m => if p then f n m else g n m) P := by
  by_cases h : p
  · simpa only [if_pos h] using h1 h
  · simpa only [if_neg h] using h2 h
theorem ev_ifT {p : Prop} [Decidable p] {f g : Nat → Nat → Option α} (hp : p) (h : Ev2 f P) : Ev2 (fun n m => if p then f n m else g n m) P := ev_ite (fun _ => h) (fun k => absurd hp k)
theorem ev_ifF {p : Prop} [Decidable p] {f g : Nat → Nat → Option α} (hp : ¬p) (h : Ev2 g P) : Ev2 (fun n m => if p then f n m else g n m) P := ev_ite (fun k => absurd k hp) (fun _ => h)
theorem ev_mono {f : Nat → Nat → Option α} {P' : α → Prop} (h : Ev2 f P) (hp : ∀ r, P r → P' r) : Ev2 f P' := by
  obtain ⟨r, h1, h2⟩ := h
  exact ⟨r, hp r h1, h2⟩
theorem ev_bind {g : Nat → Nat → Option β} {k : Nat → Nat → β → Option α} (h : Ev2 g (fun x => Ev2 (fun n m => k n m x) P)) : Ev2 (fun n m => (g n m).bind (k n m)) P := by
  obtain ⟨x, ⟨r, h1, N, h2⟩, M, h3⟩ := h
  exact ⟨r, h1, N + M, fun n m hn hm => (congrArg (fun o => Option.bind o (k n m)) (h3 n m (by omega) (by omega))).trans (h2 n m (by omega) (by omega))⟩
theorem ev_cut {g : Nat → Nat → Option β} {k : Nat → Nat → β → Option α} (Q : β → Prop) (h : Ev2 g Q) (hk : ∀ x, Q x → Ev2 (fun n m => k n m x) P) : Ev2 (fun n m => (g n m).bind (k n m)) P :=
  ev_bind (ev_mono h hk)
theorem ev_jn {g : Nat → Nat → Option (β ⊕ α)} {k : Nat → Nat → β → Option α} (h : Ev2 g (fun s => match s with | .inl x => Ev2 (fun n m => k n m x) P | .inr y => P y)) : Ev2 (fun n m => jn (g n m) (k n m)) P := by
  obtain ⟨s, h1, M, h3⟩ := h
  cases s with
  | inl x =>
    obtain ⟨r, h1, N, h2⟩ := h1
    exact ⟨r, h1, N + M, fun n m hn hm => (congrArg (fun o => jn o (k n m)) (h3 n m (by omega) (by omega))).trans (h2 n m (by omega) (by omega))⟩
  | inr y => exact ⟨y, h1, M, fun n m hn hm => (congrArg (fun o => jn o (k n m)) (h3 n m hn hm)).trans rfl⟩
theorem ev_jnL {g : Nat → Nat → Option (β ⊕ α)} {k : Nat → Nat → β → Option α} (x : β) (h : Ev2 g (· = .inl x)) (hk : Ev2 (fun n m => k n m x) P) : Ev2 (fun n m => jn (g n m) (k n m)) P :=
  ev_jn (ev_mono h fun r hr => by subst hr; exact hk)
theorem ev_jnR {g : Nat → Nat → Option (β ⊕ α)} {k : Nat → Nat → β → Option α} (y : α) (h : Ev2 g (· = .inr y)) (hy : P y) : Ev2 (fun n m => jn (g n m) (k n m)) P :=
  ev_jn (ev_mono h fun r hr => by subst hr; exact hy)
/-- One fuel. -/
theorem ev_succ {f : Nat → Option α} (h : Ev2 (fun n _ => f (n + 1)) P) : Ev2 (fun n _ => f n) P := by
  obtain ⟨r, h1, N, h2⟩ := h
  refine ⟨r, h1, N + 1, fun n m hn hm => ?_⟩
  obtain ⟨n, rfl⟩ : ∃ k, n = k + 1 := ⟨n - 1, by omega⟩
  exact h2 n n (by omega) (by omega)
/-- A loop's round. -/
theorem ev_round {f : Nat → Nat → Option α} (h : Ev2 (fun n m => f n (m + 1)) P) : Ev2 f P := by
  obtain ⟨r, h1, N, h2⟩ := h
  refine ⟨r, h1, N + 1, fun n m hn hm => ?_⟩
  obtain ⟨m, rfl⟩ : ∃ k, m = k + 1 := ⟨m - 1, by omega⟩
  exact h2 n m (by omega) (by omega)
/-- A loop begins. -/
theorem ev_loop {f : Nat → Nat → Option α} (h : Ev2 f P) : Ev2 (fun n _ => f n n) P := by
  obtain ⟨r, h1, N, h2⟩ := h
  exact ⟨r, h1, N, fun n _ hn _ => h2 n n hn hn⟩
theorem ev_one {f : Nat → Option α} (h : Ev2 (fun n _ => f n) P) : Ev2 (fun n _ => f n) P := h
/-- The second fuel of no use to a function inside a loop's round. -/
theorem ev_get {f : Nat → Option α} (h : Ev2 (fun n _ => f n) P) : ∃ n r, f n = some r ∧ P r := by
  obtain ⟨r, h1, N, h2⟩ := h
  exact ⟨N, r, h2 N N (Nat.le_refl _) (Nat.le_refl _), h1⟩
theorem ev_const {o : Option α} {r : α} (h : o = some r) (hp : P r) : Ev2 (fun _ _ => o) P := ⟨r, hp, 0, fun _ _ _ _ => h⟩
theorem ev_eq {f : Nat → Nat → Option α} {r : α} (h : Ev2 f (· = r)) (hp : P r) : Ev2 f P := ev_mono h fun _ e => e ▸ hp
/-- Two answers of one function are one. -/
theorem ev_same {f : Nat → Nat → Option α} {P' : α → Prop} (h : Ev2 f P) (h' : Ev2 f P') : ∃ r, P r ∧ P' r ∧ Ev2 f (· = r) := by
  obtain ⟨r, h1, N, h2⟩ := h
  obtain ⟨r', h1', N', h2'⟩ := h'
  have := (h2 (N + N') (N + N') (by omega) (by omega)).symm.trans (h2' (N + N') (N + N') (by omega) (by omega))
  cases this
  exact ⟨r, h1, h1', r, rfl, N, h2⟩
theorem ev_the {f : Nat → Nat → Option α} (h : Ev2 f P) : ∃ r, P r ∧ Ev2 f (· = r) := by
  obtain ⟨r, h1, N, h2⟩ := h
  exact ⟨r, h1, r, rfl, N, h2⟩
end

theorem nat_to {i : Int} {l : Nat} (h : 0 ≤ i ∧ i < (l : Int)) : ∃ k : Nat, i = k ∧ k < l := ⟨i.toNat, by omega, by omega⟩
theorem lat_get {α : Type} [Inhabited α] (l : List α) (k : Nat) (h : k < l.length) : lat l (k : Int) = l[k] := by
  rw [lat_nat, List.getD_eq_getElem?_getD, List.getElem?_eq_getElem h]; rfl
theorem lat_mem {α : Type} [Inhabited α] {l : List α} {i : Int} (h : 0 ≤ i ∧ i < (l.length : Int)) : lat l i ∈ l := by
  obtain ⟨k, rfl, hk⟩ := nat_to h
  rw [lat_get l k hk]; exact List.getElem_mem hk

end Go.Ab
