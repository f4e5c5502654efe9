/- Plain facts of chapter 16: keys, lists. No program in sight. Plain facts of chapter 16: templates. No program in sight. Plain facts of chapter 16: templates by the reference, maps. No program in sight. Plain facts of chapter 16: maps by the reference, levels, keys, loops. No program in sight. Plain facts of chapter 16: loops. No program in sight. Plain facts of chapter 16: the parts of an expression's text as functions. No program in sight. -/
import Derived.Test.YtmdefcidhgbikaaGreatDoorP16j
set_option linter.unusedVariables false
set_option linter.unusedSimpArgs false
set_option linter.unnecessarySimpa false
namespace Go.Ab.R06
open Go.Ab Go.Ab.RB Go.Lib

theorem bare_ev (s : Bytes) (hs : s.length ≤ 1000000) : Ev2 (fun n _ => format_bare n s) (· = (identB s && !resB s)) := by
  simp only [format_bare]
  have l := bare_l1 s hs s.length 0 (by omega)
  have hi := identB_iff s
  refine ev_jn (ev_mono (ev_loop (f := fun _ m => format_bare_l1 s m 0) l) (fun r hr => ?_))
  subst hr
  cases ha : allN (okAt s) 0 s.length with
  | false =>
    have : identB s = false := by
      rw [Bool.eq_false_iff]; intro h; have := (hi.1 h).2.2; rw [ha] at this; cases this
    simp [this]
  | true =>
    refine ev_to (decide (s = []) || resB s) ?_ ?_
    · have hr := rres s
      unfold ref14_Reserved at hr
      by_cases h0 : s = []
      · exact ev_ifT h0 (ev_some (by simp [h0]))
      · refine ev_ifF h0 ?_
        rw [decide_eq_false h0, Bool.false_or]
        exact ev_const (by
          generalize hx : (if s = ([110, 117, 108, 108] : Bytes) then some true else _ : Option Bool) = X at hr ⊢
          cases X with
          | none => cases hr
          | some x => simpa using hr) rfl
    · refine ev_ite (fun h => ev_some ?_) (fun h => ev_some ?_)
      · symm
        rw [Bool.or_eq_true] at h
        rcases h with h | h
        · have : s = [] := of_decide_eq_true h
          subst this; rfl
        · simp [h]
      · simp only [Bool.or_eq_true, not_or, Bool.not_eq_true] at h
        have h0 : s ≠ [] := of_decide_eq_false h.1
        rw [h.2, Bool.not_false, Bool.and_true]
        refine eqB ?_
        rw [decide_eq_true_eq, hi]
        exact ⟨fun k => ⟨h0, by omega, ha⟩, fun k => by have := k.2.1; omega⟩
/-! ### Lists -/
def tailJ (ts : List Bytes) : Bytes := ts.flatMap fun t => [44, 32] ++ t
theorem join_cons (t : Bytes) : ∀ r : List Bytes, join (t :: r) [44, 32] = t ++ tailJ r := by
  intro r
  unfold join
  induction r generalizing t with
  | nil => simp [List.intercalate, tailJ]
  | cons u q ih =>
    have := ih u
    simp only [List.intercalate, List.intersperse, tailJ, List.flatMap_cons, List.flatten_cons, List.flatten] at this ⊢
    simp [this]
theorem tailJ_len (ts : List Bytes) : (tailJ ts).length = (ts.map fun t => t.length + 2).sum := by
  induction ts with
  | nil => rfl
  | cons t r ih => simp only [tailJ, List.flatMap_cons, List.length_append, List.map_cons, List.sum_cons] at ih ⊢; rw [ih]; simp only [List.length_cons, List.length_nil]; omega
theorem join_len (ts : List Bytes) : (join ts [44, 32]).length ≤ (ts.map fun t => t.length + 2).sum := by
  cases ts with
  | nil => simp [join, List.intercalate]
  | cons t r => rw [join_cons, List.length_append, tailJ_len, List.map_cons, List.sum_cons]; omega
theorem list_ev {l : List TExpr} (hl : l.length ≤ 1000) {f : Nat → TExpr → Option Bytes} {g : TExpr → Bytes} (hf : ∀ x ∈ l, Ev2 (fun n _ => f n x) (· = g x)) :
    Ev2 (fun n _ => format_list_l1 (f n) l n [] 0) (· = l.map g) := by
  have loop : ∀ (k i : Nat) (o : List Bytes), i + k = l.length → o.length = i → Ev2 (fun n m => format_list_l1 (f n) l m o (i : Int)) (· = o ++ (l.drop i).map g) := by
    intro k
    induction k with
    | zero =>
      intro i o hi ho
      refine ev_round ?_
      simp only [format_list_l1]
      refine ev_ifF (by omega) (ev_some ?_)
      rw [List.drop_eq_nil_of_le (by omega)]; simp
    | succ k ih =>
      intro i o hi ho
      refine ev_round ?_
      simp only [format_list_l1]
      refine ev_ifT (by omega) (ev_ck (by omega) (ev_to _ (hf _ (lat_mem (by omega))) (ev_ck (by simp only [List.length_cons, List.length_nil]; omega) (ev_ck (inR_of (by omega) (by omega)) ?_))))
      refine ev_mono (nat_succ (P := fun j => Ev2 (fun n m => format_list_l1 (f n) l m (o ++ [g (lat l (i : Int))]) j) _) (ih (i + 1) _ (by omega) (by rw [List.length_append]; simp; omega))) (fun r hr => ?_)
      rw [hr, drop_lat l (i := i) (by omega)]; simp
  refine ev_loop (f := fun n m => format_list_l1 (f n) l m [] 0) (ev_mono (loop l.length 0 [] (by omega) rfl) (fun r hr => ?_))
  rw [hr]; simp
theorem rlist_ev {l : List TExpr} (hl : l.length ≤ 1000) {f : Nat → TExpr → Option Bytes} {g : TExpr → Bytes} (hf : ∀ x ∈ l, Ev2 (fun n _ => f n x) (· = g x)) (hg : ∀ x ∈ l, (g x).length ≤ 100000000) :
    Ev2 (fun n _ => ref16_list_l1 (f n) l n [] 0) (· = join (l.map g) [44, 32]) := by
  have loop : ∀ (k i : Nat) (o : Bytes), i + 1 + k = l.length → o.length ≤ (i + 1) * 100000010 → Ev2 (fun n m => ref16_list_l1 (f n) l m o ((i + 1 : Nat) : Int)) (· = o ++ tailJ ((l.drop (i + 1)).map g)) := by
    intro k
    induction k with
    | zero =>
      intro i o hi ho
      refine ev_round ?_
      simp only [ref16_list_l1]
      refine ev_ifF (by omega) (ev_some ?_)
      rw [List.drop_eq_nil_of_le (by omega)]; simp [tailJ]
    | succ k ih =>
      intro i o hi ho
      have hx : lat l ((i + 1 : Nat) : Int) ∈ l := lat_mem (by omega)
      have hgl := hg _ hx
      have hi2 : i + 1 ≤ 1000 := by omega
      have ho2 : o.length ≤ 1000 * 100000010 := Nat.le_trans ho (Nat.mul_le_mul_right _ hi2)
      refine ev_round ?_
      simp only [ref16_list_l1]
      refine ev_ifT (by omega) ?_
      refine ev_to (o ++ [44, 32]) (ev_ifT (by omega) (ev_ck (by simp only [List.length_cons, List.length_nil]; omega) (ev_some rfl))) ?_
      refine ev_ck (by omega) (ev_to _ (hf _ hx) (ev_ck (by rw [List.length_append]; simp only [List.length_cons, List.length_nil]; omega) (ev_ck (inR_of (by omega) (by omega)) ?_)))
      refine ev_mono (nat_succ (P := fun j => Ev2 (fun n m => ref16_list_l1 (f n) l m (o ++ [44, 32] ++ g (lat l ((i + 1 : Nat) : Int))) j) _) (ih (i + 1) _ (by omega) ?_)) (fun r hr => ?_)
      · simp only [List.length_append, List.length_cons, List.length_nil]
        rw [Nat.add_mul (i + 1) 1]; omega
      · rw [hr, drop_lat l (i := i + 1) (by omega)]; simp [tailJ]
  refine ev_loop (f := fun n m => ref16_list_l1 (f n) l m [] 0) ?_
  cases l with
  | nil =>
    refine ev_round ?_
    simp only [ref16_list_l1]
    exact ev_ifF (by simp) (ev_some (by simp [join, List.intercalate]))
  | cons x r =>
    refine ev_round ?_
    simp only [ref16_list_l1]
    have hx : lat (x :: r) (0 : Int) = x := rfl
    have hlen : ((x :: r).length : Int) = (r.length : Int) + 1 := by simp
    refine ev_ifT (by omega) ?_
    refine ev_to [] (ev_ifF (by omega) (ev_some rfl)) ?_
    refine ev_ck (by omega) (ev_to _ (hf _ (by rw [hx]; simp)) (ev_ck (by have := hg x (by simp); rw [hx]; simp only [List.length_nil]; omega) (ev_ck (inR_of (by omega) (by omega)) ?_)))
    refine ev_mono (nat_succ (i := 0) (P := fun j => Ev2 (fun n m => ref16_list_l1 (f n) (x :: r) m ([] ++ g (lat (x :: r) 0)) j) _) (loop r.length 0 _ (by simp; omega) (by have := hg x (by simp); rw [hx]; simp only [List.nil_append]; omega))) (fun q hq => ?_)
    rw [hq, hx]
    simp only [List.nil_append, List.map_cons, join_cons]
    rfl
end Go.Ab.R06

namespace Go.Ab.R06
open Go.Ab Go.Ab.RB Go.Lib

theorem nodesE_pos (e : TExpr) : 1 ≤ nodesE e := by rw [nodesE_eq]; omega
theorem suffix_last {s : Bytes} (h : s ≠ []) : hasSuffix s [36] = decide (s.getD (s.length - 1) 0 = 36) := by
  obtain ⟨t, b, rfl⟩ : ∃ t b, s = t ++ [b] := ⟨s.dropLast, s.getLast h, (List.dropLast_concat_getLast h).symm⟩
  have e : (t ++ [b]).getD ((t ++ [b]).length - 1) 0 = b := by simp
  rw [e]
  unfold hasSuffix
  refine eqB ?_
  rw [List.isSuffixOf_iff_suffix, decide_eq_true_eq]
  constructor
  · rintro ⟨u, hu⟩
    have := congrArg List.getLast? hu
    simpa using this.symm
  · rintro rfl
    exact ⟨t, rfl⟩
theorem partT_len (s : Bytes) (last : Bool) (hs : s.length ≤ 4096) : (partT s last).length ≤ 49200 := by
  have h1 := quo_len (s.take (s.length - 1))
  have h2 := quo_len s
  have h3 : (s.take (s.length - 1)).length ≤ s.length := by rw [List.length_take]; omega
  unfold partT
  split
  · rw [List.length_append]; simp only [List.length_cons, List.length_nil]; omega
  · omega
def pieceT (x : TExpr) (t : Bytes) (last T : Bool) : Bytes := if T = true then partT x.fValue.fStr last else [36, 123] ++ t ++ [125]
theorem tmplG_cons (big : Bool) (x : TExpr) (r : List TExpr) (t : Bytes) (q : List Bytes) (b : Bool) :
    tmplG big (x :: r) (t :: q) b = pieceT x t r.isEmpty (isPl x && !b && big) ++ tmplG big r q (isPl x && !b && big) := by
  simp only [tmplG, pieceT]
  cases hT : (isPl x && !b && big) <;> simp
section
variable {l : List TExpr} {f : Nat → TExpr → Option Bytes} {g : TExpr → Bytes}
structure TmplOk (l : List TExpr) (f : Nat → TExpr → Option Bytes) (g : TExpr → Bytes) : Prop where
  len : l.length ≤ 1000
  nodes : nodesL l ≤ 1000
  ev : ∀ x ∈ l, Ev2 (fun n _ => f n x) (· = g x)
  str : ∀ x ∈ l, isPl x = true → x.fValue.fStr.length ≤ 4096
  wt : ∀ x ∈ l, (g x).length + 1000 ≤ 60000 * nodesE x
theorem isPl_ne {x : TExpr} (h : isPl x = true) : x.fValue.fStr ≠ [] := by
  unfold isPl at h
  simp only [Bool.and_eq_true, Bool.not_eq_true', decide_eq_false_iff_not] at h
  exact h.2
theorem piece_len (ok : TmplOk l f g) {x : TExpr} (hx : x ∈ l) (last b big : Bool) : (pieceT x (g x) last (isPl x && !b && big)).length ≤ 60000 * nodesE x := by
  have h1 := nodesE_pos x
  have h2 := ok.wt x hx
  unfold pieceT
  split
  · rename_i h
    simp only [Bool.and_eq_true] at h
    have := partT_len x.fValue.fStr last (ok.str x hx h.1.1)
    omega
  · simp only [List.length_append, List.length_cons, List.length_nil]; omega
theorem tmplG_len (ok : TmplOk l f g) (big : Bool) : ∀ (k i : Nat) (b : Bool), i + k = l.length → (tmplG big (l.drop i) ((l.drop i).map g) b).length ≤ 60000 * nodesL (l.drop i) := by
  intro k
  induction k with
  | zero => intro i b hi; rw [List.drop_eq_nil_of_le (by omega)]; simp [tmplG]
  | succ k ih =>
    intro i b hi
    have hx : lat l (i : Int) ∈ l := lat_mem (by omega)
    rw [drop_lat l (i := i) (by omega), List.map_cons, tmplG_cons, List.length_append]
    have h1 := piece_len ok hx (l.drop (i + 1)).isEmpty b big
    have h2 := ih (i + 1) (isPl (lat l (i : Int)) && !b && big) (by omega)
    simp only [nodesL]
    omega
theorem drop_empty (l : List TExpr) (i : Nat) : (l.drop (i + 1)).isEmpty = decide (l.length ≤ i + 1) := by
  refine eqB ?_
  rw [List.isEmpty_iff, decide_eq_true_eq, List.drop_eq_nil_iff]
theorem ftmpl_ev (ok : TmplOk l f g) : ∀ (k i : Nat) (b : Bool) (o : Bytes), i + k = l.length → o.length + 60000 * nodesL (l.drop i) ≤ 61000000 →
    Ev2 (fun n m => format_template_l1 n (f n) l m b (i : Int) o) (· = o ++ tmplG (decide (1 < l.length)) (l.drop i) ((l.drop i).map g) b) := by
  have hl := ok.len
  intro k
  induction k with
  | zero =>
    intro i b o hi ho
    refine ev_round ?_
    simp only [format_template_l1]
    refine ev_ifF (by omega) (ev_some ?_)
    rw [List.drop_eq_nil_of_le (by omega)]; simp [tmplG]
  | succ k ih =>
    intro i b o hi ho
    have hx : lat l (i : Int) ∈ l := lat_mem (by omega)
    have hd := drop_lat l (i := i) (by omega)
    rw [hd] at ho ⊢
    simp only [nodesL] at ho
    rw [List.map_cons, tmplG_cons, drop_empty]
    have hp := piece_len ok hx (decide (l.length ≤ i + 1)) b (decide (1 < l.length))
    refine ev_round ?_
    simp only [format_template_l1]
    refine ev_ifT (by omega) ?_
    generalize hX : lat l (i : Int) = x at *
    generalize hT : (isPl x && !b && decide (1 < l.length)) = T at *
    refine ev_cut (fun q : Bool × List UInt8 => q.1 = T ∧ q.2 = o ++ pieceT x (g x) (decide (l.length ≤ i + 1)) T) ?_ (fun q hq => ?_)
    · refine ev_ck (by omega) (ev_to T ?_ ?_)
      · refine ev_to _ (ev_const (fplain x) rfl) ?_
        refine ev_ite (fun h1 => ev_ite (fun h2 => ev_some ?_) (fun h2 => ev_some ?_)) (fun h1 => ev_some ?_)
        · rw [← hT, h1, h2]; simp; omega
        · rw [← hT, nf h2]; simp
        · rw [← hT, Bool.eq_false_iff.2 h1]; simp
      · cases T with
        | false =>
          refine ev_ifT rfl ?_
          have hg := ok.wt x hx
          simp only [pieceT, Bool.false_eq_true, if_false] at hp ⊢
          refine ev_to _ (ok.ev x hx) (ev_ck (by simp only [List.length_cons, List.length_nil]; simp only [List.length_append, List.length_cons, List.length_nil] at hp; omega) (ev_ck (by simp only [List.length_append, List.length_cons, List.length_nil] at hp ⊢; omega) ?_))
          exact ev_to _ (ev_const (wstr o _ (by simp only [List.length_append, List.length_cons, List.length_nil] at hp ⊢; omega)) rfl) (ev_some ⟨rfl, rfl⟩)
        | true =>
          simp only [Bool.and_eq_true] at hT
          have hpl := hT.1.1
          have hne := isPl_ne hpl
          have hs := ok.str x hx hpl
          have hpos : 0 < x.fValue.fStr.length := List.length_pos_iff.2 hne
          refine ev_ifF (by simp) ?_
          simp only [pieceT, if_true] at hp ⊢
          refine ev_to (if decide (l.length ≤ i + 1) = false ∧ x.fValue.fStr.getD (x.fValue.fStr.length - 1) 0 = 36 then (x.fValue.fStr.take (x.fValue.fStr.length - 1), [92, 117, 123, 50, 52, 125]) else (x.fValue.fStr, [])) ?_ ?_
          · refine ev_to (decide (decide (l.length ≤ i + 1) = false ∧ x.fValue.fStr.getD (x.fValue.fStr.length - 1) 0 = 36)) ?_ ?_
            · refine ev_ck (inR_of (by omega) (by omega)) (ev_ite (fun h1 => ?_) (fun h1 => ev_some ?_))
              · have : strings_HasSuffix x.fValue.fStr [36] = some (decide (x.fValue.fStr.getD (x.fValue.fStr.length - 1) 0 = 36)) := by
                  unfold strings_HasSuffix
                  rw [ck_pos (by omega), suffix_last hne]
                refine ev_to _ (ev_const this rfl) (ev_some ?_)
                have h2 : ¬ l.length ≤ i + 1 := by omega
                simp [h2]
              · have h2 : l.length ≤ i + 1 := by omega
                simp [h2]
            · refine ev_ite (fun h => ?_) (fun h => ev_some ?_)
              · rw [if_pos (of_decide_eq_true h)]
                refine ev_ck (inR_of (by omega) (by omega)) (ev_ck (by omega) (ev_some ?_))
                have e : ((x.fValue.fStr.length : Int) - 1) = ((x.fValue.fStr.length - 1 : Nat) : Int) := by omega
                rw [e, ← Int.natCast_zero, sub_nat]; rfl
              · rw [if_neg (fun k => h (decide_eq_true k))]
          · have hq1 := quo_len (x.fValue.fStr.take (x.fValue.fStr.length - 1))
            have hq2 := quo_len x.fValue.fStr
            have hq3 : (x.fValue.fStr.take (x.fValue.fStr.length - 1)).length ≤ x.fValue.fStr.length := by rw [List.length_take]; omega
            unfold partT at hp ⊢
            split
            · rename_i hc
              rw [if_pos hc] at hp
              refine ev_to _ (quoted_ev _ (by simp only; omega)) (ev_ck (by simp only [List.length_cons, List.length_nil]; omega) ?_)
              exact ev_to _ (ev_const (wstr o _ (by simp only; omega)) rfl) (ev_some ⟨rfl, rfl⟩)
            · rename_i hc
              rw [if_neg hc] at hp
              refine ev_to _ (quoted_ev _ (by simp only; omega)) (ev_ck (by simp only [List.length_nil]; omega) ?_)
              exact ev_to _ (ev_const (wstr o _ (by simp only [List.append_nil]; omega)) rfl) (ev_some ⟨rfl, by simp⟩)
    · obtain ⟨t, o'⟩ := q
      obtain ⟨hq1, hq2⟩ := hq
      have hq1 : t = T := hq1
      have hq2 : o' = o ++ pieceT x (g x) (decide (l.length ≤ i + 1)) T := hq2
      subst hq1 hq2
      simp only
      refine ev_ck (inR_of (by omega) (by omega)) ?_
      refine ev_mono (nat_succ (P := fun j => Ev2 (fun n m => format_template_l1 n (f n) l m t j (o ++ pieceT x (g x) (decide (l.length ≤ i + 1)) t)) _) (ih (i + 1) t _ (by omega) (by rw [List.length_append]; omega))) (fun r hr => ?_)
      rw [hr, List.append_assoc]
end
end Go.Ab.R06

namespace Go.Ab.R06
open Go.Ab Go.Ab.RB Go.Lib

theorem rpart_ev (s : Bytes) (last : Bool) (hne : s ≠ []) (hs : s.length ≤ 4096) : Ev2 (fun n _ => ref16_part n s last) (· = partT s last) := by
  have hpos : 0 < s.length := List.length_pos_iff.2 hne
  have hq1 := quo_len (s.take (s.length - 1))
  have hq2 := quo_len s
  have hq3 : (s.take (s.length - 1)).length ≤ s.length := by rw [List.length_take]; omega
  have e : ((s.length : Int) - 1) = ((s.length - 1 : Nat) : Int) := by omega
  have hb : byt s ((s.length - 1 : Nat) : Int) = 36 ↔ s.getD (s.length - 1) 0 = 36 := by
    rw [byt_nat]
    have := u8nat (b := s.getD (s.length - 1) 0) (n := 36) (by decide)
    constructor
    · intro h; exact this.1 (by omega)
    · intro h; have := this.2 h; omega
  simp only [ref16_part, e]
  refine ev_to (decide (last = false ∧ s.getD (s.length - 1) 0 = 36)) ?_ ?_
  · refine ev_ite (fun h1 => ev_ck (inR_of (by omega) (by omega)) (ev_ck (by omega) (ev_some ?_))) (fun h1 => ev_some ?_)
    · rw [decide_eq_decide, hb]
      exact ⟨fun h => ⟨nt h1, h⟩, fun h => h.2⟩
    · rw [nf h1]; simp
  · unfold partT
    refine ev_ite (fun h => ?_) (fun h => ?_)
    · rw [if_pos (of_decide_eq_true h)]
      have e2 : sub s 0 ((s.length - 1 : Nat) : Int) = s.take (s.length - 1) := by
        rw [← Int.natCast_zero, sub_nat]; rfl
      rw [e2]
      exact ev_ck (inR_of (by omega) (by omega)) (ev_ck (by omega) (ev_to _ (rquoted_ev _ (by omega)) (ev_ck (by simp only [List.length_cons, List.length_nil]; omega) (ev_some rfl))))
    · rw [if_neg (fun k => h (decide_eq_true k))]
      exact ev_to _ (rquoted_ev _ (by omega)) (ev_some rfl)
section
variable {l : List TExpr} {f : Nat → TExpr → Option Bytes} {g : TExpr → Bytes}
theorem rtmpl_ev (ok : TmplOk l f g) : ∀ (k i : Nat) (b : Bool) (o : Bytes), i + k = l.length → o.length + 60000 * nodesL (l.drop i) ≤ 61000000 →
    Ev2 (fun n m => ref16_template_l1 n (f n) l m o b (i : Int)) (· = o ++ tmplG (decide (1 < l.length)) (l.drop i) ((l.drop i).map g) b) := by
  have hl := ok.len
  intro k
  induction k with
  | zero =>
    intro i b o hi ho
    refine ev_round ?_
    simp only [ref16_template_l1]
    refine ev_ifF (by omega) (ev_some ?_)
    rw [List.drop_eq_nil_of_le (by omega)]; simp [tmplG]
  | succ k ih =>
    intro i b o hi ho
    have hx : lat l (i : Int) ∈ l := lat_mem (by omega)
    have hd := drop_lat l (i := i) (by omega)
    rw [hd] at ho ⊢
    simp only [nodesL] at ho
    rw [List.map_cons, tmplG_cons, drop_empty]
    have hp := piece_len ok hx (decide (l.length ≤ i + 1)) b (decide (1 < l.length))
    refine ev_round ?_
    simp only [ref16_template_l1]
    refine ev_ifT (by omega) ?_
    generalize hX : lat l (i : Int) = x at *
    generalize hT : (isPl x && !b && decide (1 < l.length)) = T at *
    refine ev_cut (fun q : Bytes × Bool => q.2 = T ∧ q.1 = o ++ pieceT x (g x) (decide (l.length ≤ i + 1)) T) ?_ (fun q hq => ?_)
    · refine ev_to T ?_ ?_
      · refine ev_ck (by omega) (ev_to _ (ev_const (rplain x) rfl) ?_)
        refine ev_ite (fun h1 => ev_ite (fun h2 => ev_some ?_) (fun h2 => ev_some ?_)) (fun h1 => ev_some ?_)
        · rw [← hT, h1, h2]; simp; omega
        · rw [← hT, nf h2]; simp
        · rw [← hT, Bool.eq_false_iff.2 h1]; simp
      · cases T with
        | false =>
          refine ev_ifF (by simp) ?_
          have hg := ok.wt x hx
          simp only [pieceT, Bool.false_eq_true, if_false] at hp ⊢
          simp only [List.length_append, List.length_cons, List.length_nil] at hp
          refine ev_ck (by simp only [List.length_cons, List.length_nil]; omega) (ev_ck (by simp only [List.length_append, List.length_cons, List.length_nil]; omega) (ev_ck (by omega) (ev_to _ (ok.ev x hx) ?_)))
          exact ev_ck (by simp only [List.length_append, List.length_cons, List.length_nil]; omega) (ev_ck (by simp only [List.length_append, List.length_cons, List.length_nil]; omega) (ev_some ⟨rfl, by simp⟩))
        | true =>
          simp only [Bool.and_eq_true] at hT
          have hpl := hT.1.1
          have hne := isPl_ne hpl
          have hs := ok.str x hx hpl
          refine ev_ifT rfl ?_
          simp only [pieceT, if_true] at hp ⊢
          have hlast : decide ((i : Int) = (l.length : Int) - 1) = decide (l.length ≤ i + 1) := by
            rw [decide_eq_decide]; omega
          rw [hlast]
          refine ev_ck (by omega) (ev_ck (inR_of (by omega) (by omega)) (ev_to _ (rpart_ev _ _ hne hs) (ev_ck (by omega) (ev_some ⟨rfl, rfl⟩))))
    · obtain ⟨o', t⟩ := q
      obtain ⟨hq1, hq2⟩ := hq
      have hq1 : t = T := hq1
      have hq2 : o' = o ++ pieceT x (g x) (decide (l.length ≤ i + 1)) T := hq2
      subst hq1 hq2
      simp only
      refine ev_ck (inR_of (by omega) (by omega)) ?_
      refine ev_mono (nat_succ (P := fun j => Ev2 (fun n m => ref16_template_l1 n (f n) l m (o ++ pieceT x (g x) (decide (l.length ≤ i + 1)) t) t j) _) (ih (i + 1) t _ (by omega) (by rw [List.length_append]; omega))) (fun r hr => ?_)
      rw [hr, List.append_assoc]
end
/-! ### Maps -/
section
variable {l : List TExpr} {f h : Nat → TExpr → Option Bytes} {g : TExpr → Bytes}
theorem fmap_ev (hl : l.length ≤ 1000) (hf : ∀ x ∈ l, Ev2 (fun n _ => f n x) (· = g x)) (hk : ∀ x ∈ l, Ev2 (fun n _ => h n x) (· = keyT16 x (g x))) (hg : ∀ x ∈ l, (g x).length ≤ 100000000 ∧ (keyT16 x (g x)).length ≤ 100000000) :
    ∀ (k i : Nat) (o : List Bytes), i + k = l.length → o.length ≤ i → Ev2 (fun n m => format_mapping_l1 (f n) (h n) l m o (i : Int)) (· = o ++ mapG (l.drop i) ((l.drop i).map g)) := by
  intro k
  induction k using Nat.strongRecOn with
  | ind k ih =>
    intro i o hi ho
    refine ev_round ?_
    simp only [format_mapping_l1]
    refine ev_ck (inR_of (by omega) (by omega)) (ev_ite (fun hlt => ?_) (fun hlt => ev_some ?_))
    · have hx : lat l (i : Int) ∈ l := lat_mem (by omega)
      have e1 : (i : Int) + 1 = ((i + 1 : Nat) : Int) := by omega
      have e2 : (i : Int) + 2 = ((i + 2 : Nat) : Int) := by omega
      have hy : lat l ((i + 1 : Nat) : Int) ∈ l := lat_mem (by omega)
      have g1 := hg _ hx
      have g2 := hg _ hy
      rw [drop_lat l (i := i) (by omega), drop_lat l (i := i + 1) (by omega)]
      simp only [List.map_cons, mapG, e1, e2]
      refine ev_ck (by omega) (ev_to _ (hk _ hx) (ev_ck (by simp only [List.length_cons, List.length_nil]; omega) (ev_ck (inR_of (by omega) (by omega)) (ev_ck (by omega) (ev_to _ (hf _ hy) ?_)))))
      refine ev_ck (by simp only [List.length_append, List.length_cons, List.length_nil]; omega) (ev_ck (by simp only [List.length_cons, List.length_nil]; omega) (ev_ck (inR_of (by omega) (by omega)) ?_))
      refine ev_mono (ih (k - 2) (by omega) (i + 2) _ (by omega) (by rw [List.length_append]; simp only [List.length_cons, List.length_nil]; omega)) (fun r hr => ?_)
      rw [hr]; simp
    · by_cases h0 : i < l.length
      · rw [drop_lat l (i := i) h0, List.drop_eq_nil_of_le (by omega)]; simp [mapG]
      · rw [List.drop_eq_nil_of_le (by omega)]; simp [mapG]
end
end Go.Ab.R06

namespace Go.Ab.R06
open Go.Ab Go.Ab.RB Go.Lib

section
variable {l : List TExpr} {f h : Nat → TExpr → Option Bytes} {g : TExpr → Bytes}
theorem rmap_tail (hl : l.length ≤ 1000) (hf : ∀ x ∈ l, Ev2 (fun n _ => f n x) (· = g x)) (hk : ∀ x ∈ l, Ev2 (fun n _ => h n x) (· = keyT16 x (g x))) (hg : ∀ x ∈ l, (g x).length ≤ 100000000 ∧ (keyT16 x (g x)).length ≤ 100000000) :
    ∀ (k i : Nat) (o : Bytes), i + k = l.length → 0 < i → o.length ≤ 10 + i * 200000010 → Ev2 (fun n m => ref16_mapping_l1 (f n) (h n) l m o (i : Int)) (· = o ++ tailJ (mapG (l.drop i) ((l.drop i).map g))) := by
  intro k
  induction k using Nat.strongRecOn with
  | ind k ih =>
    intro i o hi h0 ho
    refine ev_round ?_
    simp only [ref16_mapping_l1]
    refine ev_ck (inR_of (by omega) (by omega)) (ev_ite (fun hlt => ?_) (fun hlt => ev_some ?_))
    · have hx : lat l (i : Int) ∈ l := lat_mem (by omega)
      have e1 : (i : Int) + 1 = ((i + 1 : Nat) : Int) := by omega
      have e2 : (i : Int) + 2 = ((i + 2 : Nat) : Int) := by omega
      have hy : lat l ((i + 1 : Nat) : Int) ∈ l := lat_mem (by omega)
      have g1 := hg _ hx
      have g2 := hg _ hy
      rw [drop_lat l (i := i) (by omega), drop_lat l (i := i + 1) (by omega)]
      simp only [List.map_cons, mapG, e1, e2]
      refine ev_to (o ++ [44, 32]) (ev_ifT (by omega) (ev_ck (by simp only [List.length_cons, List.length_nil]; omega) (ev_some rfl))) ?_
      refine ev_ck (by omega) (ev_to _ (hk _ hx) (ev_ck (by simp only [List.length_append, List.length_cons, List.length_nil]; omega) (ev_ck (by simp only [List.length_append, List.length_cons, List.length_nil]; omega) (ev_ck (inR_of (by omega) (by omega)) (ev_ck (by omega) (ev_to _ (hf _ hy) ?_))))))
      refine ev_ck (by simp only [List.length_append, List.length_cons, List.length_nil]; omega) (ev_ck (inR_of (by omega) (by omega)) ?_)
      refine ev_mono (ih (k - 2) (by omega) (i + 2) _ (by omega) (by omega) (by simp only [List.length_append, List.length_cons, List.length_nil]; omega)) (fun r hr => ?_)
      rw [hr]; simp [tailJ]
    · by_cases h1 : i < l.length
      · rw [drop_lat l (i := i) h1, List.drop_eq_nil_of_le (by omega)]; simp [mapG, tailJ]
      · rw [List.drop_eq_nil_of_le (by omega)]; simp [mapG, tailJ]
theorem rmap_ev (hl : l.length ≤ 1000) (hf : ∀ x ∈ l, Ev2 (fun n _ => f n x) (· = g x)) (hk : ∀ x ∈ l, Ev2 (fun n _ => h n x) (· = keyT16 x (g x))) (hg : ∀ x ∈ l, (g x).length ≤ 100000000 ∧ (keyT16 x (g x)).length ≤ 100000000) :
    Ev2 (fun n m => ref16_mapping_l1 (f n) (h n) l m [123] 0) (· = [123] ++ join (mapG l (l.map g)) [44, 32]) := by
  refine ev_round ?_
  simp only [ref16_mapping_l1]
  refine ev_ck (inR_of (by omega) (by omega)) (ev_ite (fun hlt => ?_) (fun hlt => ev_some ?_))
  · have e1 : (0 : Int) + 1 = ((0 + 1 : Nat) : Int) := by omega
    have e2 : (0 : Int) + 2 = ((0 + 2 : Nat) : Int) := by omega
    have hx : lat l (0 : Int) ∈ l := lat_mem (by omega)
    have hy : lat l ((0 + 1 : Nat) : Int) ∈ l := lat_mem (by omega)
    have g1 := hg _ hx
    have g2 := hg _ hy
    have hd : l = lat l (0 : Int) :: lat l ((0 + 1 : Nat) : Int) :: l.drop (0 + 2) := by
      have a := drop_lat l (i := 0) (by omega)
      have b := drop_lat l (i := 0 + 1) (by omega)
      rw [b] at a
      simpa using a
    have hm : mapG l (l.map g) = (keyT16 (lat l (0 : Int)) (g (lat l (0 : Int))) ++ [32, 61, 32] ++ g (lat l ((0 + 1 : Nat) : Int))) :: mapG (l.drop (0 + 2)) ((l.drop (0 + 2)).map g) := by
      conv => lhs; rw [hd]
      simp only [List.map_cons, mapG]
    rw [hm, join_cons, e1, e2]
    refine ev_to [123] (ev_ifF (by omega) (ev_some rfl)) ?_
    refine ev_ck (by omega) (ev_to _ (hk _ hx) (ev_ck (by simp only [List.length_append, List.length_cons, List.length_nil]; omega) (ev_ck (by simp only [List.length_append, List.length_cons, List.length_nil]; omega) (ev_ck (inR_of (by omega) (by omega)) (ev_ck (by omega) (ev_to _ (hf _ hy) ?_))))))
    refine ev_ck (by simp only [List.length_append, List.length_cons, List.length_nil]; omega) (ev_ck (inR_of (by omega) (by omega)) ?_)
    refine ev_mono (rmap_tail hl hf hk hg (l.length - 2) (0 + 2) _ (by omega) (by omega) (by simp only [List.length_append, List.length_cons, List.length_nil]; omega)) (fun r hr => ?_)
    rw [hr]; simp
  · have : mapG l (l.map g) = [] := by
      match l, hlt with
      | [], _ => rfl
      | [x], _ => rfl
      | x :: y :: r, hlt => simp at hlt; omega
    rw [this]; rfl
end
/-! ### Below a level, keys -/
theorem fat_ev {x : TExpr} (hx : Ev2 (fun n _ => format_Expr n x) (· = exprT x)) (hl : (exprT x).length ≤ 100000000) (k : Int) : Ev2 (fun n _ => format_at n x k) (· = atT x (exprT x) k) := by
  refine ev_succ ?_
  simp only [format_at, atT]
  refine ev_to _ (ev_const (flevel x) rfl) (ev_ite (fun h => ?_) (fun h => ?_))
  · rw [if_pos h]
    exact ev_to _ hx (ev_ck (by simp only [List.length_cons, List.length_nil]; omega) (ev_ck (by simp only [List.length_append, List.length_cons, List.length_nil]; omega) (ev_some rfl)))
  · rw [if_neg h]; exact ev_to _ hx (ev_some rfl)
theorem rat_ev {x : TExpr} (hx : Ev2 (fun n _ => ref16_Expr n x) (· = exprT x)) (hl : (exprT x).length ≤ 100000000) (ho : x.fKind = 7 → 3 ≤ x.fOp) (k : Int) : Ev2 (fun n _ => ref16_at n x k) (· = atT x (exprT x) k) := by
  refine ev_succ ?_
  simp only [ref16_at, atT]
  refine ev_to _ (ev_const (rlevel ho) rfl) (ev_ite (fun h => ?_) (fun h => ?_))
  · rw [if_pos h]
    exact ev_to _ hx (ev_ck (by simp only [List.length_cons, List.length_nil]; omega) (ev_ck (by simp only [List.length_append, List.length_cons, List.length_nil]; omega) (ev_some rfl)))
  · rw [if_neg h]; exact ev_to _ hx (ev_some rfl)
theorem atT_len (x : TExpr) (t : Bytes) (k : Int) : (atT x t k).length ≤ t.length + 2 := by
  unfold atT
  split
  · simp only [List.length_append, List.length_cons, List.length_nil]; omega
  · omega
theorem rnameB_ev (s : Bytes) : Ev2 (fun n _ => ref14_Name n s) (· = (identB s && !resB s)) := by
  simp only [ref14_Name]
  refine ev_to (identB s && !resB s) ?_ (ev_some rfl)
  refine ev_to _ (ridentA s) (ev_ite (fun h => ?_) (fun h => ev_some (by simp [Bool.eq_false_iff.2 h])))
  exact ev_to _ (ev_const (rres s) rfl) (ev_some (by simp [h]))
theorem fkey_ev {x : TExpr} (hx : Ev2 (fun n _ => format_Expr n x) (· = exprT x)) (hl : (exprT x).length ≤ 100000000) (hs : x.fKind = 1 → x.fValue.fStr.length ≤ 1000000) : Ev2 (fun n _ => format_key n x) (· = keyT16 x (exprT x)) := by
  refine ev_succ ?_
  simp only [format_key, keyT16]
  refine ev_to (decide (x.fKind = 1 ∧ x.fValue.fKind = 3)) (ev_ite (fun h => ev_some (by simp [h])) (fun h => ev_some (by simp [h]))) ?_
  refine ev_ite (fun h => ?_) (fun h => ?_)
  · have h := of_decide_eq_true h
    rw [if_pos h]
    refine ev_to _ (bare_ev _ (hs h.1)) (ev_ite (fun k => ?_) (fun k => ?_))
    · simp only [Bool.and_eq_true, Bool.not_eq_true'] at k
      rw [if_pos k]; exact ev_some rfl
    · simp only [Bool.and_eq_true, Bool.not_eq_true'] at k
      rw [if_neg k]; exact ev_to _ hx (ev_some rfl)
  · rw [if_neg (fun k => h (decide_eq_true k))]
    refine ev_ite (fun k => ?_) (fun k => ?_)
    · rw [if_pos k]; exact ev_to _ hx (ev_some rfl)
    · rw [if_neg k]
      exact ev_to _ hx (ev_ck (by simp only [List.length_cons, List.length_nil]; omega) (ev_ck (by simp only [List.length_append, List.length_cons, List.length_nil]; omega) (ev_some rfl)))
theorem rkey_ev {x : TExpr} (hx : Ev2 (fun n _ => ref16_Expr n x) (· = exprT x)) (hl : (exprT x).length ≤ 100000000) : Ev2 (fun n _ => ref16_key n x) (· = keyT16 x (exprT x)) := by
  refine ev_succ ?_
  simp only [ref16_key, keyT16]
  refine ev_ite (fun h2 => ?_) (fun h2 => ?_)
  · rw [if_neg (by omega), if_pos h2]; exact ev_to _ hx (ev_some rfl)
  refine ev_to (decide (x.fKind = 1 ∧ x.fValue.fKind = 3)) (ev_ite (fun h => ev_some (by simp [h])) (fun h => ev_some (by simp [h]))) ?_
  refine ev_ite (fun h => ?_) (fun h => ?_)
  · have h := of_decide_eq_true h
    rw [if_pos h]
    refine ev_to _ (rnameB_ev _) (ev_ite (fun k => ?_) (fun k => ?_))
    · simp only [Bool.and_eq_true, Bool.not_eq_true'] at k
      rw [if_pos k]; exact ev_some rfl
    · simp only [Bool.and_eq_true, Bool.not_eq_true'] at k
      rw [if_neg k]; exact ev_to _ hx (ev_some rfl)
  · rw [if_neg (fun k => h (decide_eq_true k)), if_neg h2]
    exact ev_to _ hx (ev_ck (by simp only [List.length_cons, List.length_nil]; omega) (ev_ck (by simp only [List.length_append, List.length_cons, List.length_nil]; omega) (ev_some rfl)))
end Go.Ab.R06

namespace Go.Ab.R06
open Go.Ab Go.Ab.RB Go.Lib

theorem len2 {α : Type} {l : List α} (h : l.length = 2) : ∃ a b, l = [a, b] := by
  match l, h with
  | [a, b], _ => exact ⟨a, b, rfl⟩
theorem len3 {α : Type} {l : List α} (h : l.length = 3) : ∃ a b c, l = [a, b, c] := by
  match l, h with
  | [a, b, c], _ => exact ⟨a, b, c, rfl⟩
theorem len4 {α : Type} {l : List α} (h : l.length = 4) : ∃ a b c d, l = [a, b, c, d] := by
  match l, h with
  | [a, b, c, d], _ => exact ⟨a, b, c, d, rfl⟩
def LoopShape (e : TExpr) : Prop := (e.fKind = 13 ∧ (e.fKids.length = 3 ∨ e.fKids.length = 4)) ∨ (e.fKind ≠ 13 ∧ (e.fKids.length = 2 ∨ e.fKids.length = 3))
theorem floop_ev {e : TExpr} (hn : e.fName.length ≤ 1000) (hk : e.fKey.length ≤ 1000) (hx : ∀ x ∈ e.fKids, Ev2 (fun n _ => format_Expr n x) (· = exprT x)) (hl : ∀ x ∈ e.fKids, (exprT x).length ≤ 100000000) (hc : LoopShape e) :
    Ev2 (fun n _ => format_loop n e) (· = loopT e (e.fKids.map exprT)) := by
  refine ev_succ ?_
  simp only [format_loop, loopT, sub_from]
  unfold LoopShape at hc
  generalize hL : e.fKids = L at *
  generalize hS : (if e.fKey = [] then [] else e.fKey ++ [44, 32]) = S
  have hSl : S.length ≤ 1002 := by
    rw [← hS]; split
    · simp
    · rw [List.length_append]; simp only [List.length_cons, List.length_nil]; omega
  refine ev_to ([102, 111, 114, 32] ++ S) ?_ ?_
  · refine ev_ite (fun h => ev_some ?_) (fun h => ev_ck (by simp only [List.length_cons, List.length_nil]; omega) (ev_ck (by simp only [List.length_append, List.length_cons, List.length_nil]; omega) (ev_some ?_)))
    · rw [← hS, if_pos h]; rfl
    · rw [← hS, if_neg h]
  · rcases hc with ⟨h13, h3 | h4⟩ | ⟨h13, h2 | h3⟩
    · obtain ⟨a, b, c, rfl⟩ := len3 h3
      have la := hl a (by simp)
      have lb := hl b (by simp)
      have lc := hl c (by simp)
      refine ev_ck (by simp only [List.length_cons, List.length_nil]; omega) (ev_ck (by simp) (ev_to _ (hx a (by simp)) ?_))
      refine ev_ck (by simp only [List.length_append, List.length_cons, List.length_nil]; omega) (ev_ck (by simp only [List.length_append, List.length_cons, List.length_nil]; omega) (ev_ck (by simp) (ev_to _ (hx b (by simp)) ?_)))
      refine ev_ck (by simp only [List.length_append, List.length_cons, List.length_nil]; omega) (ev_ck (by simp only [List.length_append, List.length_cons, List.length_nil]; omega) (ev_ck (by simp) ?_))
      refine ev_to _ (ev_ifT h13 (ev_ck (by simp) (ev_to _ (hx c (by simp)) (ev_ck (by simp only [List.length_append, List.length_cons, List.length_nil]; omega) (ev_ck (by simp only [List.length_append, List.length_cons, List.length_nil]; omega) (ev_ck (by simp) (ev_some rfl))))))) ?_
      refine ev_to _ (ev_ifF (by simp) (ev_some rfl)) (ev_some ?_)
      simp [h13]
    · obtain ⟨a, b, c, d, rfl⟩ := len4 h4
      have la := hl a (by simp)
      have lb := hl b (by simp)
      have lc := hl c (by simp)
      have ld := hl d (by simp)
      refine ev_ck (by simp only [List.length_cons, List.length_nil]; omega) (ev_ck (by simp) (ev_to _ (hx a (by simp)) ?_))
      refine ev_ck (by simp only [List.length_append, List.length_cons, List.length_nil]; omega) (ev_ck (by simp only [List.length_append, List.length_cons, List.length_nil]; omega) (ev_ck (by simp) (ev_to _ (hx b (by simp)) ?_)))
      refine ev_ck (by simp only [List.length_append, List.length_cons, List.length_nil]; omega) (ev_ck (by simp only [List.length_append, List.length_cons, List.length_nil]; omega) (ev_ck (by simp) ?_))
      refine ev_to _ (ev_ifT h13 (ev_ck (by simp) (ev_to _ (hx c (by simp)) (ev_ck (by simp only [List.length_append, List.length_cons, List.length_nil]; omega) (ev_ck (by simp only [List.length_append, List.length_cons, List.length_nil]; omega) (ev_ck (by simp) (ev_some rfl))))))) ?_
      refine ev_to _ (ev_ifT (by simp) (ev_ck (by simp) (ev_to _ (hx d (by simp)) (ev_ck (by simp only [List.length_append, List.length_cons, List.length_nil]; omega) (ev_ck (by simp only [List.length_append, List.length_cons, List.length_nil]; omega) (ev_some rfl)))))) (ev_some ?_)
      simp [h13]
    · obtain ⟨a, b, rfl⟩ := len2 h2
      have la := hl a (by simp)
      have lb := hl b (by simp)
      refine ev_ck (by simp only [List.length_cons, List.length_nil]; omega) (ev_ck (by simp) (ev_to _ (hx a (by simp)) ?_))
      refine ev_ck (by simp only [List.length_append, List.length_cons, List.length_nil]; omega) (ev_ck (by simp only [List.length_append, List.length_cons, List.length_nil]; omega) (ev_ck (by simp) (ev_to _ (hx b (by simp)) ?_)))
      refine ev_ck (by simp only [List.length_append, List.length_cons, List.length_nil]; omega) (ev_ck (by simp only [List.length_append, List.length_cons, List.length_nil]; omega) (ev_ck (by simp) ?_))
      refine ev_to _ (ev_ifF h13 (ev_some rfl)) ?_
      refine ev_to _ (ev_ifF (by simp) (ev_some rfl)) (ev_some ?_)
      simp [h13]
    · obtain ⟨a, b, c, rfl⟩ := len3 h3
      have la := hl a (by simp)
      have lb := hl b (by simp)
      have lc := hl c (by simp)
      refine ev_ck (by simp only [List.length_cons, List.length_nil]; omega) (ev_ck (by simp) (ev_to _ (hx a (by simp)) ?_))
      refine ev_ck (by simp only [List.length_append, List.length_cons, List.length_nil]; omega) (ev_ck (by simp only [List.length_append, List.length_cons, List.length_nil]; omega) (ev_ck (by simp) (ev_to _ (hx b (by simp)) ?_)))
      refine ev_ck (by simp only [List.length_append, List.length_cons, List.length_nil]; omega) (ev_ck (by simp only [List.length_append, List.length_cons, List.length_nil]; omega) (ev_ck (by simp) ?_))
      refine ev_to _ (ev_ifF h13 (ev_some rfl)) ?_
      refine ev_to _ (ev_ifT (by simp) (ev_ck (by simp) (ev_to _ (hx c (by simp)) (ev_ck (by simp only [List.length_append, List.length_cons, List.length_nil]; omega) (ev_ck (by simp only [List.length_append, List.length_cons, List.length_nil]; omega) (ev_some rfl)))))) (ev_some ?_)
      simp [h13]
theorem rloop_ev {e : TExpr} (hn : e.fName.length ≤ 1000) (hk : e.fKey.length ≤ 1000) (hx : ∀ x ∈ e.fKids, Ev2 (fun n _ => ref16_Expr n x) (· = exprT x)) (hl : ∀ x ∈ e.fKids, (exprT x).length ≤ 100000000) (hc : LoopShape e) :
    Ev2 (fun n _ => ref16_loop n e) (· = loopT e (e.fKids.map exprT)) := by
  refine ev_succ ?_
  simp only [ref16_loop, loopT]
  unfold LoopShape at hc
  generalize hL : e.fKids = L at *
  generalize hS : (if e.fKey = [] then [] else e.fKey ++ [44, 32]) = S
  have hSl : S.length ≤ 1002 := by
    rw [← hS]; split
    · simp
    · rw [List.length_append]; simp only [List.length_cons, List.length_nil]; omega
  refine ev_to ([102, 111, 114, 32] ++ S) ?_ ?_
  · refine ev_ite (fun h => ev_some ?_) (fun h => ev_ck (by simp only [List.length_cons, List.length_nil]; omega) (ev_ck (by simp only [List.length_append, List.length_cons, List.length_nil]; omega) (ev_some ?_)))
    · rw [← hS, if_pos h]; rfl
    · rw [← hS, if_neg h, List.append_assoc]
  · rcases hc with ⟨h13, h3 | h4⟩ | ⟨h13, h2 | h3⟩
    · obtain ⟨a, b, c, rfl⟩ := len3 h3
      have la := hl a (by simp)
      have lb := hl b (by simp)
      have lc := hl c (by simp)
      refine ev_ck (by simp only [List.length_append, List.length_cons, List.length_nil]; omega) (ev_ck (by simp only [List.length_append, List.length_cons, List.length_nil]; omega) (ev_ck (by simp) (ev_to _ (hx a (by simp)) ?_)))
      refine ev_ck (by simp only [List.length_append, List.length_cons, List.length_nil]; omega) (ev_ck (by simp only [List.length_append, List.length_cons, List.length_nil]; omega) (ev_ck (by simp) (ev_to _ (hx b (by simp)) (ev_ck (by simp only [List.length_append, List.length_cons, List.length_nil]; omega) ?_))))
      refine ev_to _ (ev_ifT h13 (ev_ck (by simp only [List.length_append, List.length_cons, List.length_nil]; omega) (ev_ck (by simp) (ev_to _ (hx c (by simp)) (ev_ck (by simp only [List.length_append, List.length_cons, List.length_nil]; omega) (ev_some rfl)))))) ?_
      refine ev_to _ (ev_ifF (by simp) (ev_some rfl)) (ev_some ?_)
      simp [h13]
    · obtain ⟨a, b, c, d, rfl⟩ := len4 h4
      have la := hl a (by simp)
      have lb := hl b (by simp)
      have lc := hl c (by simp)
      have ld := hl d (by simp)
      refine ev_ck (by simp only [List.length_append, List.length_cons, List.length_nil]; omega) (ev_ck (by simp only [List.length_append, List.length_cons, List.length_nil]; omega) (ev_ck (by simp) (ev_to _ (hx a (by simp)) ?_)))
      refine ev_ck (by simp only [List.length_append, List.length_cons, List.length_nil]; omega) (ev_ck (by simp only [List.length_append, List.length_cons, List.length_nil]; omega) (ev_ck (by simp) (ev_to _ (hx b (by simp)) (ev_ck (by simp only [List.length_append, List.length_cons, List.length_nil]; omega) ?_))))
      refine ev_to _ (ev_ifT h13 (ev_ck (by simp only [List.length_append, List.length_cons, List.length_nil]; omega) (ev_ck (by simp) (ev_to _ (hx c (by simp)) (ev_ck (by simp only [List.length_append, List.length_cons, List.length_nil]; omega) (ev_some rfl)))))) ?_
      refine ev_to _ (ev_ifT (by simp) (ev_ck (by simp only [List.length_append, List.length_cons, List.length_nil]; omega) (ev_ck (by simp) (ev_to _ (hx d (by simp)) (ev_ck (by simp only [List.length_append, List.length_cons, List.length_nil]; omega) (ev_some rfl)))))) (ev_some ?_)
      simp [h13]
    · obtain ⟨a, b, rfl⟩ := len2 h2
      have la := hl a (by simp)
      have lb := hl b (by simp)
      refine ev_ck (by simp only [List.length_append, List.length_cons, List.length_nil]; omega) (ev_ck (by simp only [List.length_append, List.length_cons, List.length_nil]; omega) (ev_ck (by simp) (ev_to _ (hx a (by simp)) ?_)))
      refine ev_ck (by simp only [List.length_append, List.length_cons, List.length_nil]; omega) (ev_ck (by simp only [List.length_append, List.length_cons, List.length_nil]; omega) (ev_ck (by simp) (ev_to _ (hx b (by simp)) (ev_ck (by simp only [List.length_append, List.length_cons, List.length_nil]; omega) ?_))))
      refine ev_to _ (ev_ifF h13 (ev_some rfl)) ?_
      refine ev_to _ (ev_ifF (by simp) (ev_some rfl)) (ev_some ?_)
      simp [h13]
    · obtain ⟨a, b, c, rfl⟩ := len3 h3
      have la := hl a (by simp)
      have lb := hl b (by simp)
      have lc := hl c (by simp)
      refine ev_ck (by simp only [List.length_append, List.length_cons, List.length_nil]; omega) (ev_ck (by simp only [List.length_append, List.length_cons, List.length_nil]; omega) (ev_ck (by simp) (ev_to _ (hx a (by simp)) ?_)))
      refine ev_ck (by simp only [List.length_append, List.length_cons, List.length_nil]; omega) (ev_ck (by simp only [List.length_append, List.length_cons, List.length_nil]; omega) (ev_ck (by simp) (ev_to _ (hx b (by simp)) (ev_ck (by simp only [List.length_append, List.length_cons, List.length_nil]; omega) ?_))))
      refine ev_to _ (ev_ifF h13 (ev_some rfl)) ?_
      refine ev_to _ (ev_ifT (by simp) (ev_ck (by simp only [List.length_append, List.length_cons, List.length_nil]; omega) (ev_ck (by simp) (ev_to _ (hx c (by simp)) (ev_ck (by simp only [List.length_append, List.length_cons, List.length_nil]; omega) (ev_some rfl)))))) (ev_some ?_)
      simp [h13]
end Go.Ab.R06

namespace Go.Ab.R06
open Go.Ab Go.Ab.RB Go.Lib

theorem nodesL_mem : ∀ {l : List TExpr} {x : TExpr}, x ∈ l → nodesE x ≤ nodesL l
  | y :: r, x, h => by
    simp only [nodesL]
    rcases List.mem_cons.1 h with rfl | h
    · omega
    · have := nodesL_mem h; omega
theorem nodesL_len : ∀ l : List TExpr, l.length ≤ nodesL l
  | [] => Nat.zero_le _
  | x :: r => by
    have h1 := nodesL_len r
    have h2 := nodesE_pos x
    simp only [nodesL, List.length_cons]; omega
theorem sum_len : ∀ (l : List TExpr), (∀ x ∈ l, (exprT x).length + 1000 ≤ 60000 * nodesE x) → ((l.map exprT).map fun t => t.length + 2).sum ≤ 60000 * nodesL l
  | [], _ => by simp [nodesL]
  | x :: r, h => by
    have h1 := sum_len r (fun y hy => h y (by simp [hy]))
    have h2 := h x (by simp)
    simp only [List.map_cons, List.sum_cons, nodesL]; omega
theorem ftemplate_ev {l : List TExpr} (ok : TmplOk l (fun n x => format_Expr n x) exprT) : Ev2 (fun n _ => format_template n l) (· = [34] ++ tmplG (decide (1 < l.length)) l (l.map exprT) false ++ [34]) := by
  have hN := ok.nodes
  have hlen := tmplG_len ok (decide (1 < l.length)) l.length 0 false (by omega)
  simp only [List.drop_zero] at hlen
  refine ev_succ ?_
  simp only [format_template]
  refine ev_to _ (ev_const (wbyte [] 34 (by simp)) rfl) ?_
  refine ev_to _ (ev_loop (f := fun n m => format_template_l1 n (format_Expr n) l m false 0 ([] ++ [34])) (ftmpl_ev ok l.length 0 false ([] ++ [34]) (by omega) (by simp only [List.drop_zero, List.length_append, List.length_cons, List.length_nil]; omega))) ?_
  simp only [List.drop_zero, List.nil_append]
  refine ev_to _ (ev_const (wbyte _ 34 (by simp only [List.length_append, List.length_cons, List.length_nil]; omega)) rfl) ?_
  exact ev_to _ (ev_const (bstr _ (by simp only [List.length_append, List.length_cons, List.length_nil]; omega)) rfl) (ev_some rfl)
theorem rtemplate_ev {l : List TExpr} (ok : TmplOk l (fun n x => ref16_Expr n x) exprT) : Ev2 (fun n _ => ref16_template n l) (· = [34] ++ tmplG (decide (1 < l.length)) l (l.map exprT) false ++ [34]) := by
  have hN := ok.nodes
  have hlen := tmplG_len ok (decide (1 < l.length)) l.length 0 false (by omega)
  simp only [List.drop_zero] at hlen
  refine ev_succ ?_
  simp only [ref16_template]
  refine ev_to _ (ev_loop (f := fun n m => ref16_template_l1 n (ref16_Expr n) l m [] false 0) (rtmpl_ev ok l.length 0 false [] (by omega) (by simp only [List.drop_zero, List.length_nil]; omega))) ?_
  simp only [List.drop_zero, List.nil_append]
  exact ev_ck (by simp only [List.length_cons, List.length_nil]; omega) (ev_ck (by simp only [List.length_append, List.length_cons, List.length_nil]; omega) (ev_some rfl))
theorem flist_ev {l : List TExpr} (hl : l.length ≤ 1000) (hN : nodesL l ≤ 1000) (hf : ∀ x ∈ l, Ev2 (fun n _ => format_Expr n x) (· = exprT x)) (hw : ∀ x ∈ l, (exprT x).length + 1000 ≤ 60000 * nodesE x) : Ev2 (fun n _ => format_list n l) (· = join (l.map exprT) [44, 32]) := by
  have h1 := join_len (l.map exprT)
  have h2 := sum_len l hw
  refine ev_succ ?_
  simp only [format_list]
  refine ev_to _ (list_ev (f := fun n x => format_Expr n x) (g := exprT) hl hf) ?_
  have : strings_Join (l.map exprT) [44, 32] = some (join (l.map exprT) [44, 32]) := by
    unfold strings_Join
    rw [ck_pos ⟨by rw [List.length_map]; omega, by omega⟩]
  exact ev_to _ (ev_const this rfl) (ev_some rfl)
theorem rlistE_ev {l : List TExpr} (hl : l.length ≤ 1000) (hf : ∀ x ∈ l, Ev2 (fun n _ => ref16_Expr n x) (· = exprT x)) (hg : ∀ x ∈ l, (exprT x).length ≤ 100000000) : Ev2 (fun n _ => ref16_list n l) (· = join (l.map exprT) [44, 32]) := by
  refine ev_succ ?_
  simp only [ref16_list]
  exact ev_to _ (rlist_ev (f := fun n x => ref16_Expr n x) (g := exprT) hl hf hg) (ev_some rfl)
theorem keyT16_len {x : TExpr} (t : Bytes) : (keyT16 x t).length ≤ t.length + 66 := by
  unfold keyT16
  split
  · split
    · rename_i h
      have := ((identB_iff _).1 h.1).2.1
      omega
    · omega
  · split
    · omega
    · simp only [List.length_append, List.length_cons, List.length_nil]; omega
theorem mapG_len : ∀ (n : Nat) (l : List TExpr), l.length ≤ n → (∀ x ∈ l, (exprT x).length + 1000 ≤ 60000 * nodesE x) → ((mapG l (l.map exprT)).map fun t => t.length + 2).sum ≤ 60000 * nodesL l ∧ (mapG l (l.map exprT)).length ≤ l.length
  | _, [], _, _ => by simp [mapG]
  | _, [x], _, _ => by simp [mapG]
  | 0, x :: y :: r, h, _ => by simp at h
  | n + 1, x :: y :: r, h, hw => by
    have ih := mapG_len n r (by simp only [List.length_cons] at h; omega) (fun z hz => hw z (by simp [hz]))
    have h1 := hw x (by simp)
    have h2 := hw y (by simp)
    have h3 := keyT16_len (x := x) (exprT x)
    simp only [List.map_cons, mapG, List.sum_cons, nodesL, List.length_cons, List.length_append, List.length_nil]
    omega
theorem fmapping_ev {l : List TExpr} (hl : l.length ≤ 1000) (hN : nodesL l ≤ 1000) (hf : ∀ x ∈ l, Ev2 (fun n _ => format_Expr n x) (· = exprT x)) (hw : ∀ x ∈ l, (exprT x).length + 1000 ≤ 60000 * nodesE x) (hs : ∀ x ∈ l, x.fKind = 1 → x.fValue.fStr.length ≤ 1000000) :
    Ev2 (fun n _ => format_mapping n l) (· = [123] ++ join (mapG l (l.map exprT)) [44, 32] ++ [125]) := by
  have h1 := join_len (mapG l (l.map exprT))
  have h2 := mapG_len l.length l (Nat.le_refl _) hw
  have hb : ∀ x ∈ l, (exprT x).length ≤ 90000000 := fun x hx => by
    have := hw x hx
    have := nodesL_mem hx
    omega
  refine ev_succ ?_
  simp only [format_mapping]
  refine ev_to _ (ev_loop (f := fun n m => format_mapping_l1 (format_Expr n) (format_key n) l m [] 0) (fmap_ev (f := fun n x => format_Expr n x) (h := fun n x => format_key n x) (g := exprT) hl hf (fun x hx => fkey_ev (hf x hx) (by have := hb x hx; omega) (hs x hx)) (fun x hx => ⟨by have := hb x hx; omega, by have := hb x hx; have := keyT16_len (x := x) (exprT x); omega⟩) l.length 0 [] (by omega) (by simp))) ?_
  simp only [List.drop_zero, List.nil_append]
  have : strings_Join (mapG l (l.map exprT)) [44, 32] = some (join (mapG l (l.map exprT)) [44, 32]) := by
    unfold strings_Join
    rw [ck_pos ⟨by omega, by omega⟩]
  exact ev_to _ (ev_const this rfl) (ev_ck (by simp only [List.length_cons, List.length_nil]; omega) (ev_ck (by simp only [List.length_append, List.length_cons, List.length_nil]; omega) (ev_some rfl)))
theorem rmapping_ev {l : List TExpr} (hl : l.length ≤ 1000) (hN : nodesL l ≤ 1000) (hf : ∀ x ∈ l, Ev2 (fun n _ => ref16_Expr n x) (· = exprT x)) (hw : ∀ x ∈ l, (exprT x).length + 1000 ≤ 60000 * nodesE x) :
    Ev2 (fun n _ => ref16_mapping n l) (· = [123] ++ join (mapG l (l.map exprT)) [44, 32] ++ [125]) := by
  have h1 := join_len (mapG l (l.map exprT))
  have h2 := mapG_len l.length l (Nat.le_refl _) hw
  have hb : ∀ x ∈ l, (exprT x).length ≤ 90000000 := fun x hx => by
    have := hw x hx
    have := nodesL_mem hx
    omega
  refine ev_succ ?_
  simp only [ref16_mapping]
  refine ev_to _ (ev_loop (f := fun n m => ref16_mapping_l1 (ref16_Expr n) (ref16_key n) l m [123] 0) (rmap_ev (f := fun n x => ref16_Expr n x) (h := fun n x => ref16_key n x) (g := exprT) hl hf (fun x hx => rkey_ev (hf x hx) (by have := hb x hx; omega)) (fun x hx => ⟨by have := hb x hx; omega, by have := hb x hx; have := keyT16_len (x := x) (exprT x); omega⟩))) ?_
  exact ev_ck (by simp only [List.length_append, List.length_cons, List.length_nil]; omega) (ev_some rfl)
end Go.Ab.R06
