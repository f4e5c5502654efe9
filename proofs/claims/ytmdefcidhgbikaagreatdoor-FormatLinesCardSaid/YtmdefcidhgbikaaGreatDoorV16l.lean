/- Plain facts of chapter 16: the lines of the text of a body. No program in sight. Plain facts of chapter 16: the law FormatLines. No program in sight. FormatLines: the law is fulfilled whatever it is handed. -/
import Derived.Test.YtmdefcidhgbikaaGreatDoorP16s
import Derived.Lib.SplitLaws
import Derived.Lib.TrimByte
import Derived.Lib.IndexLaws
import Derived.Test.YtmdefcidhgbikaaGreatDoorR16s
import Derived.Test.YtmdefcidhgbikaaGreatDoorM16
import Derived.Test.YtmdefcidhgbikaaGreatDoorTy
set_option linter.unusedVariables false
set_option linter.unusedSimpArgs false
set_option linter.unnecessarySimpa false
namespace Go.Ab.R06
open Go.Ab Go.Ab.RB Go.Lib

/-! ### Expressions, one kind at a time -/
theorem viewE {e : TExpr} (hg : GoodE e) :
    (e.fKind = 1 ∧ e.fKids = [] ∧ LitV e.fValue ∧ exprT e = litT e.fValue) ∨
    (e.fKind = 2 ∧ e.fKids ≠ [] ∧ exprT e = [34] ++ tmplG (decide (1 < e.fKids.length)) e.fKids (e.fKids.map exprT) false ++ [34]) ∨
    (e.fKind = 3 ∧ e.fKids = [] ∧ nameOk e.fName ∧ exprT e = e.fName) ∨
    (e.fKind = 4 ∧ ∃ a, e.fKids = [a] ∧ identB e.fName = true ∧ exprT e = atT a (exprT a) 8 ++ [46] ++ e.fName) ∨
    (e.fKind = 5 ∧ ∃ a b, e.fKids = [a, b] ∧ exprT e = atT a (exprT a) 8 ++ [91] ++ exprT b ++ [93]) ∨
    (e.fKind = 6 ∧ ∃ a, e.fKids = [a] ∧ (e.fOp = 1 ∨ e.fOp = 2) ∧ exprT e = sgn e.fOp ++ atT a (exprT a) 7) ∨
    (e.fKind = 7 ∧ ∃ a b, e.fKids = [a, b] ∧ (3 ≤ e.fOp ∧ e.fOp ≤ 15) ∧ exprT e = atT a (exprT a) (lvl e) ++ [32] ++ sgn e.fOp ++ [32] ++ atT b (exprT b) (lvl e + 1)) ∨
    (e.fKind = 8 ∧ ∃ a b c, e.fKids = [a, b, c] ∧ exprT e = atT a (exprT a) 1 ++ [32, 63, 32] ++ exprT b ++ [32, 58, 32] ++ exprT c) ∨
    (e.fKind = 9 ∧ nameOk e.fName ∧ exprT e = e.fName ++ [40] ++ join (e.fKids.map exprT) [44, 32] ++ [41]) ∨
    (e.fKind = 10 ∧ exprT e = [91] ++ join (e.fKids.map exprT) [44, 32] ++ [93]) ∨
    (e.fKind = 11 ∧ (e.fKids.length : Int).tmod 2 = 0 ∧ exprT e = [123] ++ join (mapG e.fKids (e.fKids.map exprT)) [44, 32] ++ [125]) ∨
    (e.fKind = 12 ∧ (e.fKids.length = 2 ∨ e.fKids.length = 3) ∧ nameOk e.fName ∧ (e.fKey = [] ∨ nameOk e.fKey) ∧ exprT e = [91] ++ loopT e (e.fKids.map exprT) ++ [93]) ∨
    (e.fKind = 13 ∧ (e.fKids.length = 3 ∨ e.fKids.length = 4) ∧ nameOk e.fName ∧ (e.fKey = [] ∨ nameOk e.fKey) ∧ exprT e = [123] ++ loopT e (e.fKids.map exprT) ++ [125]) := by
  rw [exprT_eq]
  cases hg with
  | mk hnode kids =>
    obtain ⟨s1, s2, s3, s4⟩ := shaped_facts hnode.1
    have hnm : e.fKind ≠ 1 → ref14_named e.fKind = some true → e.fKind ≠ 4 → nameOk e.fName := fun h1 h2 h3 => ⟨((hnode.2.2 h1).1 h2).1, ((hnode.2.2 h1).1 h2).2 h3⟩
    have hky : e.fKind ≠ 1 → e.fKey = [] ∨ nameOk e.fKey := fun h1 => by
      by_cases h2 : e.fKey = []
      · exact .inl h2
      · exact .inr ((hnode.2.2 h1).2 h2)
    have kf := kids_facts s1
    rcases kf with ⟨hk, hn⟩ | ⟨hk, hn⟩ | ⟨hk, hn⟩ | ⟨hk, hn⟩ | ⟨hk, hn⟩ | ⟨hk, hn⟩ | ⟨hk, hn⟩ | ⟨hk, hn⟩ | hk | hk | ⟨hk, hn⟩ | ⟨hk, hn⟩ | ⟨hk, hn⟩
    · refine .inl ⟨hk, List.eq_nil_of_length_eq_zero (by omega), good_lit (.mk hnode kids) hk, ?_⟩
      unfold comb; rw [if_pos hk]
    · refine .inr (.inl ⟨hk, fun h => by rw [h] at hn; simp at hn, ?_⟩)
      unfold comb; rw [if_neg (by omega), if_pos hk]
    · refine .inr (.inr (.inl ⟨hk, List.eq_nil_of_length_eq_zero (by omega), hnm (by omega) (by rw [hk]; rfl) (by omega), ?_⟩))
      unfold comb; rw [if_neg (by omega), if_neg (by omega), if_pos hk]
    · obtain ⟨a, hks⟩ : ∃ a, e.fKids = [a] := List.length_eq_one_iff.1 (by omega)
      refine .inr (.inr (.inr (.inl ⟨hk, a, hks, ((hnode.2.2 (by omega)).1 (by rw [hk]; rfl)).1, ?_⟩)))
      unfold comb; rw [if_neg (by omega), if_neg (by omega), if_neg (by omega), if_pos hk]; rw [hks]; rfl
    · obtain ⟨a, b, hks⟩ := len2 (l := e.fKids) (by omega)
      refine .inr (.inr (.inr (.inr (.inl ⟨hk, a, b, hks, ?_⟩))))
      unfold comb; rw [if_neg (by omega), if_neg (by omega), if_neg (by omega), if_neg (by omega), if_pos hk]; rw [hks]; rfl
    · obtain ⟨a, hks⟩ : ∃ a, e.fKids = [a] := List.length_eq_one_iff.1 (by omega)
      refine .inr (.inr (.inr (.inr (.inr (.inl ⟨hk, a, hks, s3 hk, ?_⟩)))))
      unfold comb; rw [if_neg (by omega), if_neg (by omega), if_neg (by omega), if_neg (by omega), if_neg (by omega), if_pos hk]; rw [hks]; rfl
    · obtain ⟨a, b, hks⟩ := len2 (l := e.fKids) (by omega)
      refine .inr (.inr (.inr (.inr (.inr (.inr (.inl ⟨hk, a, b, hks, s4 hk, ?_⟩))))))
      unfold comb; rw [if_neg (by omega), if_neg (by omega), if_neg (by omega), if_neg (by omega), if_neg (by omega), if_neg (by omega), if_pos hk]; rw [hks]; rfl
    · obtain ⟨a, b, c, hks⟩ := len3 (l := e.fKids) (by omega)
      refine .inr (.inr (.inr (.inr (.inr (.inr (.inr (.inl ⟨hk, a, b, c, hks, ?_⟩)))))))
      unfold comb; rw [if_neg (by omega), if_neg (by omega), if_neg (by omega), if_neg (by omega), if_neg (by omega), if_neg (by omega), if_neg (by omega), if_pos hk]; rw [hks]; rfl
    · refine .inr (.inr (.inr (.inr (.inr (.inr (.inr (.inr (.inl ⟨hk, hnm (by omega) (by rw [hk]; rfl) (by omega), ?_⟩))))))))
      unfold comb; rw [if_neg (by omega), if_neg (by omega), if_neg (by omega), if_neg (by omega), if_neg (by omega), if_neg (by omega), if_neg (by omega), if_neg (by omega), if_pos hk]
    · refine .inr (.inr (.inr (.inr (.inr (.inr (.inr (.inr (.inr (.inl ⟨hk, ?_⟩)))))))))
      unfold comb; rw [if_neg (by omega), if_neg (by omega), if_neg (by omega), if_neg (by omega), if_neg (by omega), if_neg (by omega), if_neg (by omega), if_neg (by omega), if_neg (by omega), if_pos hk]
    · refine .inr (.inr (.inr (.inr (.inr (.inr (.inr (.inr (.inr (.inr (.inl ⟨hk, hn, ?_⟩))))))))))
      unfold comb; rw [if_neg (by omega), if_neg (by omega), if_neg (by omega), if_neg (by omega), if_neg (by omega), if_neg (by omega), if_neg (by omega), if_neg (by omega), if_neg (by omega), if_neg (by omega), if_pos hk]
    · refine .inr (.inr (.inr (.inr (.inr (.inr (.inr (.inr (.inr (.inr (.inr (.inl ⟨hk, by omega, hnm (by omega) (by rw [hk]; rfl) (by omega), hky (by omega), ?_⟩)))))))))))
      unfold comb; rw [if_neg (by omega), if_neg (by omega), if_neg (by omega), if_neg (by omega), if_neg (by omega), if_neg (by omega), if_neg (by omega), if_neg (by omega), if_neg (by omega), if_neg (by omega), if_neg (by omega), if_pos hk]
    · refine .inr (.inr (.inr (.inr (.inr (.inr (.inr (.inr (.inr (.inr (.inr (.inr ⟨hk, by omega, hnm (by omega) (by rw [hk]; rfl) (by omega), hky (by omega), ?_⟩)))))))))))
      unfold comb; rw [if_neg (by omega), if_neg (by omega), if_neg (by omega), if_neg (by omega), if_neg (by omega), if_neg (by omega), if_neg (by omega), if_neg (by omega), if_neg (by omega), if_neg (by omega), if_neg (by omega), if_neg (by omega)]

/-! ### No control bytes; what ends a text -/
def Cl (s : Bytes) : Prop := ∀ b ∈ s, 32 ≤ b.toNat
def Fn (s : Bytes) : Prop := ∃ c, s.getLast? = some c ∧ c ≠ 32 ∧ c ≠ 123
theorem Cl.app {a b : Bytes} (h : Cl a) (k : Cl b) : Cl (a ++ b) := fun x hx => (List.mem_append.1 hx).elim (h x) (k x)
theorem Cl.lit {l : Bytes} (h : l.all (fun b => decide (32 ≤ b.toNat)) = true) : Cl l := fun b hb => of_decide_eq_true (List.all_eq_true.1 h b hb)
theorem Fn.app (a : Bytes) {b : Bytes} (h : Fn b) : Fn (a ++ b) := by
  obtain ⟨c, h1, h2⟩ := h
  exact ⟨c, by rw [List.getLast?_append, h1]; rfl, h2⟩
theorem Fn.one (a : Bytes) {c : UInt8} (h : c ≠ 32 ∧ c ≠ 123) : Fn (a ++ [c]) := Fn.app a ⟨c, rfl, h⟩
theorem Fn.of_mem {s : Bytes} (hne : s ≠ []) (h : ∀ b ∈ s, b ≠ 32 ∧ b ≠ 123) : Fn s := ⟨s.getLast hne, List.getLast?_eq_some_getLast hne, h _ (List.getLast_mem hne)⟩
theorem escTab : (List.range 256).all (fun n => (escB n.toUInt8).all (fun c => decide (32 ≤ c.toNat))) = true := by kernel_rfl
theorem cl_escB (b : UInt8) : Cl (escB b) := by
  have h := List.all_eq_true.1 escTab b.toNat (List.mem_range.2 b.toNat_lt)
  have e : b.toNat.toUInt8 = b := by simp
  rw [e] at h
  exact Cl.lit h
theorem cl_flat (s : Bytes) : Cl (s.flatMap escB) := fun b hb => by
  obtain ⟨x, _, hx⟩ := List.mem_flatMap.1 hb
  exact cl_escB x b hx
theorem cl_quo (s : Bytes) : Cl (quo s) := cl_flat _
theorem cl_quoteP (s : Bytes) : Cl (quoteP s) := Cl.app (a := [34]) (Cl.lit rfl) (Cl.app (cl_flat s) (Cl.lit rfl))
theorem ident_mem {s : Bytes} (h : identB s = true) : s ≠ [] ∧ ∀ b ∈ s, 48 ≤ b.toNat ∧ b.toNat ≤ 122 := by
  cases s with
  | nil => cases h
  | cons b r =>
    simp only [identB, Bool.and_eq_true, List.all_eq_true] at h
    refine ⟨by simp, fun x hx => ?_⟩
    have hx2 : idB x = true := by
      rcases List.mem_cons.1 hx with rfl | hx
      · simp [idB, h.1.2]
      · exact h.2 x hx
    simp only [idB, Bool.or_eq_true] at hx2
    rcases hx2 with q | q
    · have := (letB_iff x).1 q; omega
    · have := (digB_iff x).1 q; omega
theorem ne_of_range {b : UInt8} (h : 48 ≤ b.toNat ∧ b.toNat ≤ 122) : b ≠ 32 ∧ b ≠ 123 :=
  ⟨fun q => by rw [q] at h; exact absurd h (by decide), fun q => by rw [q] at h; exact absurd h (by decide)⟩
theorem cl_ident {s : Bytes} (h : identB s = true) : Cl s := fun b hb => by have := (ident_mem h).2 b hb; omega
theorem fn_ident {s : Bytes} (h : identB s = true) : Fn s := Fn.of_mem (ident_mem h).1 fun b hb => ne_of_range ((ident_mem h).2 b hb)
theorem lit_clean {v : TValue} (h : LitV v) : Cl (litT v) ∧ Fn (litT v) := by
  unfold litT
  split
  · split
    · exact ⟨Cl.lit rfl, 101, rfl, by decide⟩
    · exact ⟨Cl.lit rfl, 101, rfl, by decide⟩
  · split
    · rename_i h2
      have hn := h.num h2
      obtain ⟨u, hu⟩ : ∃ u : Nat, v.fNum = u := ⟨v.fNum.toNat, by omega⟩
      have e : itoa (u : Int) = decDigits u := by unfold itoa; rw [if_neg (by omega)]; simp
      obtain ⟨_, a2, a3, _, _⟩ := dec_val (u + 1) u (by omega)
      rw [hu, e]
      exact ⟨fun b hb => by have := all_dig a2 hb; omega, Fn.of_mem a3 fun b hb => ne_of_range (by have := all_dig a2 hb; omega)⟩
    · split
      · exact ⟨Cl.app (Cl.app (Cl.lit rfl) (cl_quo _)) (Cl.lit rfl), Fn.one _ (by decide)⟩
      · exact ⟨Cl.lit rfl, 108, rfl, by decide⟩
theorem cl_partT (s : Bytes) (l : Bool) : Cl (partT s l) := by
  unfold partT
  split
  · exact Cl.app (cl_quo _) (Cl.lit rfl)
  · exact cl_quo _
theorem cl_tmplG (big : Bool) : ∀ (l : List TExpr) (ts : List Bytes) (b : Bool), (∀ t ∈ ts, Cl t) → Cl (tmplG big l ts b)
  | [], _, _, _ => by simp only [tmplG]; exact Cl.lit rfl
  | _ :: _, [], _, _ => by simp only [tmplG]; exact Cl.lit rfl
  | x :: r, t :: q, b, h => by
    simp only [tmplG]
    split
    · exact Cl.app (cl_partT _ _) (cl_tmplG big r q true fun y hy => h y (List.mem_cons_of_mem _ hy))
    · exact Cl.app (Cl.app (Cl.app (Cl.lit rfl) (h t (by simp))) (Cl.lit rfl)) (cl_tmplG big r q false fun y hy => h y (List.mem_cons_of_mem _ hy))
theorem cl_atT {x : TExpr} {t : Bytes} (n : Int) (h : Cl t) : Cl (atT x t n) := by
  unfold atT
  split
  · exact Cl.app (Cl.app (Cl.lit rfl) h) (Cl.lit rfl)
  · exact h
theorem fn_atT {x : TExpr} {t : Bytes} (n : Int) (h : Fn t) : Fn (atT x t n) := by
  unfold atT
  split
  · exact Fn.one _ (by decide)
  · exact h
theorem cl_join {ts : List Bytes} (h : ∀ t ∈ ts, Cl t) : Cl (join ts [44, 32]) := by
  cases ts with
  | nil => rw [join_nil]; exact Cl.lit rfl
  | cons t r =>
    rw [join_cons]
    refine Cl.app (h t (by simp)) ?_
    intro b hb
    unfold tailJ at hb
    obtain ⟨y, hy, hb⟩ := List.mem_flatMap.1 hb
    exact Cl.app (Cl.lit rfl) (h y (List.mem_cons_of_mem _ hy)) b hb
theorem cl_keyT {x : TExpr} {t : Bytes} (h : Cl t) : Cl (keyT16 x t) := by
  unfold keyT16
  split
  · split
    · rename_i h2; exact cl_ident h2.1
    · exact h
  · split
    · exact h
    · exact Cl.app (Cl.app (Cl.lit rfl) h) (Cl.lit rfl)
theorem cl_mapG : ∀ (n : Nat) (l : List TExpr) (ts : List Bytes), l.length ≤ n → (∀ t ∈ ts, Cl t) → ∀ t ∈ mapG l ts, Cl t := by
  intro n
  induction n with
  | zero =>
    intro l ts hl h t ht
    obtain rfl := List.eq_nil_of_length_eq_zero (by omega : l.length = 0)
    simp [mapG] at ht
  | succ n ih =>
    intro l ts hl h t ht
    match l, ts, hl, h, ht with
    | x :: y :: r, t1 :: u :: q, hl, h, ht =>
      simp only [mapG, List.mem_cons] at ht
      simp only [List.length_cons] at hl
      rcases ht with rfl | ht
      · exact Cl.app (Cl.app (cl_keyT (h t1 (by simp))) (Cl.lit rfl)) (h u (by simp))
      · exact ih r q (by omega) (fun z hz => h z (by simp [hz])) t ht
    | [], _, _, _, ht => simp [mapG] at ht
    | [_], _, _, _, ht => simp [mapG] at ht
    | _ :: _ :: _, [], _, _, ht => simp [mapG] at ht
    | _ :: _ :: _, [_], _, _, ht => simp [mapG] at ht
theorem cl_getD {ts : List Bytes} (h : ∀ t ∈ ts, Cl t) (i : Nat) : Cl (ts.getD i []) := by
  rw [List.getD_eq_getElem?_getD]
  cases hi : ts[i]? with
  | none => exact Cl.lit rfl
  | some t => exact h t (List.mem_of_getElem? hi)
theorem cl_loopT {e : TExpr} {ts : List Bytes} (h : ∀ t ∈ ts, Cl t) (h1 : nameOk e.fName) (h2 : e.fKey = [] ∨ nameOk e.fKey) : Cl (loopT e ts) := by
  unfold loopT
  have g := cl_getD h
  refine Cl.app (Cl.app (Cl.app (Cl.app (Cl.app (Cl.app (Cl.app (Cl.lit rfl) ?_) (cl_ident h1.1)) (Cl.lit rfl)) (g 0)) (Cl.lit rfl)) (g 1)) ?_
  · split
    · exact Cl.lit rfl
    · rename_i h3
      exact Cl.app (cl_ident (h2.resolve_left h3).1) (Cl.lit rfl)
  · split
    · refine Cl.app (Cl.app (Cl.lit rfl) (g 2)) ?_
      split
      · exact Cl.app (Cl.lit rfl) (g 3)
      · exact Cl.lit rfl
    · split
      · exact Cl.app (Cl.lit rfl) (g 2)
      · exact Cl.lit rfl
theorem sgnTab : (List.range 16).all (fun n => (sgn n).all (fun c => decide (32 ≤ c.toNat))) = true := by kernel_rfl
theorem cl_sgn {o : Int} (h0 : 0 ≤ o) (h1 : o ≤ 15) : Cl (sgn o) := by
  have h := List.all_eq_true.1 sgnTab o.toNat (List.mem_range.2 (by omega))
  rw [show ((o.toNat : Nat) : Int) = o by omega] at h
  exact Cl.lit h
theorem expr_clean {e : TExpr} (hg : GoodE e) : Cl (exprT e) ∧ Fn (exprT e) := by
  induction hg with
  | @mk e hnode kids ih =>
    have hT : ∀ t ∈ e.fKids.map exprT, Cl t := fun t ht => by
      obtain ⟨x, hx, rfl⟩ := List.mem_map.1 ht
      exact (ih x hx).1
    rcases viewE (.mk hnode kids) with ⟨hk, h1, h2, he⟩ | ⟨hk, h1, he⟩ | ⟨hk, h1, h2, he⟩ | ⟨hk, a, h1, h2, he⟩ | ⟨hk, a, b, h1, he⟩ | ⟨hk, a, h1, h2, he⟩ | ⟨hk, a, b, h1, h2, he⟩ | ⟨hk, a, b, c, h1, he⟩ | ⟨hk, h1, he⟩ | ⟨hk, he⟩ | ⟨hk, h1, he⟩ | ⟨hk, h1, h2, h3, he⟩ | ⟨hk, h1, h2, h3, he⟩
    all_goals rw [he]
    · exact lit_clean h2
    · exact ⟨Cl.app (Cl.app (Cl.lit rfl) (cl_tmplG _ _ _ _ hT)) (Cl.lit rfl), Fn.one _ (by decide)⟩
    · exact ⟨cl_ident h2.1, fn_ident h2.1⟩
    · exact ⟨Cl.app (Cl.app (cl_atT 8 (ih a (by simp [h1])).1) (Cl.lit rfl)) (cl_ident h2), Fn.app _ (fn_ident h2)⟩
    · exact ⟨Cl.app (Cl.app (Cl.app (cl_atT 8 (ih a (by simp [h1])).1) (Cl.lit rfl)) (ih b (by simp [h1])).1) (Cl.lit rfl), Fn.one _ (by decide)⟩
    · exact ⟨Cl.app (cl_sgn (by omega) (by omega)) (cl_atT 7 (ih a (by simp [h1])).1), Fn.app _ (fn_atT 7 (ih a (by simp [h1])).2)⟩
    · exact ⟨Cl.app (Cl.app (Cl.app (Cl.app (cl_atT _ (ih a (by simp [h1])).1) (Cl.lit rfl)) (cl_sgn (by omega) (by omega))) (Cl.lit rfl)) (cl_atT _ (ih b (by simp [h1])).1), Fn.app _ (fn_atT _ (ih b (by simp [h1])).2)⟩
    · exact ⟨Cl.app (Cl.app (Cl.app (Cl.app (cl_atT _ (ih a (by simp [h1])).1) (Cl.lit rfl)) (ih b (by simp [h1])).1) (Cl.lit rfl)) (ih c (by simp [h1])).1, Fn.app _ (ih c (by simp [h1])).2⟩
    · exact ⟨Cl.app (Cl.app (Cl.app (cl_ident h1.1) (Cl.lit rfl)) (cl_join hT)) (Cl.lit rfl), Fn.one _ (by decide)⟩
    · exact ⟨Cl.app (Cl.app (Cl.lit rfl) (cl_join hT)) (Cl.lit rfl), Fn.one _ (by decide)⟩
    · exact ⟨Cl.app (Cl.app (Cl.lit rfl) (cl_join (cl_mapG _ _ _ (Nat.le_refl _) hT))) (Cl.lit rfl), Fn.one _ (by decide)⟩
    · exact ⟨Cl.app (Cl.app (Cl.lit rfl) (cl_loopT hT h2 h3)) (Cl.lit rfl), Fn.one _ (by decide)⟩
    · exact ⟨Cl.app (Cl.app (Cl.lit rfl) (cl_loopT hT h2 h3)) (Cl.lit rfl), Fn.one _ (by decide)⟩

/-! ### Lines -/
def attrL (d : Nat) (a : TAttribute) : Bytes := blank d ++ (a.fName ++ [32, 61, 32] ++ exprT a.fExpr)
def headL (d : Nat) (k : TBlock) : Bytes := blank d ++ (k.fType ++ labT k.fLabels ++ [32, 123])
def tailL (d : Nat) : Bytes := blank d ++ [125]
mutual
def linesB : Nat → TBody → List Bytes
  | d, .mk l k => l.map (attrL d) ++ linesKL d k
def linesK : Nat → TBlock → List Bytes
  | d, .mk t ls b a => headL d (.mk t ls b a) :: (linesB (d + 1) b ++ [tailL d])
def linesKL : Nat → List TBlock → List Bytes
  | _, [] => []
  | d, x :: r => linesK d x ++ linesKL d r
end
theorem linesKL_eq (d : Nat) : ∀ l, linesKL d l = l.flatMap (linesK d)
  | [] => by simp only [linesKL, List.flatMap_nil]
  | x :: r => by simp only [linesKL, List.flatMap_cons]; rw [linesKL_eq d r]
theorem linesB_eq (d : Nat) (b : TBody) : linesB d b = b.fAttrs.map (attrL d) ++ b.fBlocks.flatMap (linesK d) := by
  cases b; simp only [linesB, linesKL_eq, TBody.fAttrs, TBody.fBlocks]
theorem linesK_eq (d : Nat) (k : TBlock) : linesK d k = headL d k :: (linesB (d + 1) k.fBody ++ [tailL d]) := by
  cases k; simp only [linesK, TBlock.fBody]
def unl (ls : List Bytes) : Bytes := ls.flatMap (· ++ [10])
theorem unl_app (a b : List Bytes) : unl (a ++ b) = unl a ++ unl b := List.flatMap_append
theorem body_unl {b : TBody} (hg : GoodB b) : ∀ d, bodyT d b = unl (linesB d b) := by
  induction hg with
  | @mk b attrs blocks inner ih =>
    intro d
    rw [bodyT_eq, linesB_eq, unl_app]
    have h1 : ∀ l : List TAttribute, l.flatMap (attrT d) = unl (l.map (attrL d)) := by
      intro l
      induction l with
      | nil => rfl
      | cons x r ih2 =>
        rw [List.flatMap_cons, List.map_cons, ih2]
        simp [unl, attrT, attrL]
    have h2 : ∀ l : List TBlock, (∀ k ∈ l, k ∈ b.fBlocks) → l.flatMap (blockT d) = unl (l.flatMap (linesK d)) := by
      intro l
      induction l with
      | nil => intro _; rfl
      | cons x r ih2 =>
        intro hm
        rw [List.flatMap_cons, List.flatMap_cons, unl_app, ih2 fun k hk => hm k (List.mem_cons_of_mem _ hk), blockT_eq, linesK_eq, ih x (hm x (by simp)) (d + 1)]
        simp [unl, headL, tailL]
    rw [h1, h2 _ fun k hk => hk]

/-- One line, at a depth: the depth behind it, if the line is as it must be. -/
def lineOk (l : Bytes) (d : Int) : Option Int :=
  let t := trimLeftB l 32
  if t = [] ∨ hasSuffix l [32] = true ∨ 0 ≤ indexByte l 9 then none
  else
    let d1 := if t = [125] then d - 1 else d
    if (l.length : Int) - t.length ≠ 2 * d1 then none
    else some (if hasSuffix t [32, 123] = true then d1 + 1 else d1)
def chk : Int → List Bytes → Option Int
  | d, [] => some d
  | d, l :: r => (lineOk l d).bind fun d1 => chk d1 r
theorem chk_app : ∀ (a b : List Bytes) (d : Int), chk d (a ++ b) = (chk d a).bind fun e => chk e b
  | [], b, d => rfl
  | l :: r, b, d => by
    simp only [List.cons_append, chk]
    cases lineOk l d with
    | none => rfl
    | some e => simp only [Option.bind_some]; exact chk_app r b e
theorem trim_blank (d : Nat) {t : Bytes} (hne : t ≠ []) (hh : t.head? ≠ some 32) : trimLeftB (blank d ++ t) 32 = t := by
  unfold trimLeftB blank
  generalize 2 * d = n
  induction n with
  | zero =>
    cases t with
    | nil => exact absurd rfl hne
    | cons b r =>
      have : b ≠ 32 := fun h => hh (by rw [h]; rfl)
      simp [this]
  | succ n ih => simpa [List.replicate_succ] using ih
theorem suf_one {s : Bytes} {c : UInt8} : hasSuffix s [c] = true → s.getLast? = some c := by
  intro h
  unfold hasSuffix at h
  have h2 := List.isSuffixOf_iff_suffix.1 h
  obtain ⟨p, rfl⟩ := h2
  simp
theorem no_tab {l : Bytes} (h : Cl l) : ¬ 0 ≤ indexByte l 9 := by
  intro hi
  obtain ⟨o, ho⟩ : ∃ o : Nat, indexByte l 9 = o := ⟨(indexByte l 9).toNat, by omega⟩
  have := h 9 (List.mem_of_getElem? (indexByte_some ho).1)
  exact absurd this (by decide)
theorem cl_blank (d : Nat) : Cl (blank d) := fun b hb => by
  have := (List.mem_replicate.1 hb).2
  rw [this]; decide
theorem line_plain (d : Nat) {t : Bytes} (hne : t ≠ []) (hh : t.head? ≠ some 32) (hc : Cl t) (hl : Fn t) (h125 : t ≠ [125]) : lineOk (blank d ++ t) d = some (d : Int) := by
  obtain ⟨c, h1, h2, h3⟩ := Fn.app (blank d) hl
  have q1 : ¬ (t = [] ∨ hasSuffix (blank d ++ t) [32] = true ∨ 0 ≤ indexByte (blank d ++ t) 9) := by
    rintro (h | h | h)
    · exact hne h
    · have := suf_one h
      rw [h1] at this
      exact h2 (Option.some.inj this)
    · exact no_tab (Cl.app (cl_blank d) hc) h
  have q2 : ¬ (((blank d ++ t).length : Int) - t.length ≠ 2 * (d : Int)) := by rw [List.length_append, blank_len]; omega
  have q3 : ¬ hasSuffix t [32, 123] = true := by
    intro h
    obtain ⟨p, q⟩ := List.isSuffixOf_iff_suffix.1 h
    obtain ⟨c', h4, h5, h6⟩ := hl
    rw [← q] at h4
    simp at h4
    exact h6 h4.symm
  unfold lineOk
  simp only
  rw [trim_blank d hne hh, if_neg q1, if_neg h125, if_neg q2, if_neg q3]
theorem last_of {s t : Bytes} {c : UInt8} (h : hasSuffix (s ++ t ++ [c]) [32] = true) (hc : c ≠ 32) : False := by
  have := suf_one h
  rw [List.getLast?_append] at this
  exact hc (Option.some.inj this)
theorem line_tail (d : Nat) : lineOk (tailL d) ((d : Int) + 1) = some (d : Int) := by
  have q1 : ¬ ([125] = ([] : Bytes) ∨ hasSuffix (blank d ++ [125]) [32] = true ∨ 0 ≤ indexByte (blank d ++ [125]) 9) := by
    rintro (h | h | h)
    · cases h
    · exact last_of (t := []) (by rw [List.append_nil]; exact h) (by decide : (125 : UInt8) ≠ 32)
    · exact no_tab (Cl.app (cl_blank d) (Cl.lit rfl)) h
  have q2 : ¬ (((blank d ++ [125]).length : Int) - ([125] : Bytes).length ≠ 2 * ((d : Int) + 1 - 1)) := by rw [List.length_append, blank_len]; simp only [List.length_cons, List.length_nil]; omega
  unfold lineOk tailL
  simp only
  rw [trim_blank d (by decide) (by decide), if_neg q1, if_pos rfl, if_neg q2, if_neg (by decide)]
  congr 1; omega
theorem line_head (d : Nat) {t : Bytes} (hne : t ≠ []) (hh : t.head? ≠ some 32) (hc : Cl t) : lineOk (blank d ++ (t ++ [32, 123])) d = some ((d : Int) + 1) := by
  have hne2 : t ++ [32, 123] ≠ [] := by simp
  have hh2 : (t ++ [32, 123]).head? ≠ some 32 := by
    cases t with
    | nil => exact absurd rfl hne
    | cons b r => exact hh
  have q1 : ¬ (t ++ [32, 123] = [] ∨ hasSuffix (blank d ++ (t ++ [32, 123])) [32] = true ∨ 0 ≤ indexByte (blank d ++ (t ++ [32, 123])) 9) := by
    rintro (h | h | h)
    · exact hne2 h
    · have e : blank d ++ (t ++ [32, 123]) = (blank d ++ t) ++ [32] ++ [123] := by simp
      rw [e] at h
      exact last_of h (by decide : (123 : UInt8) ≠ 32)
    · exact no_tab (Cl.app (cl_blank d) (Cl.app hc (Cl.lit rfl))) h
  have q2 : ¬ t ++ [32, 123] = [125] := by
    intro h
    have := congrArg List.length h
    simp at this
  have q3 : ¬ (((blank d ++ (t ++ [32, 123])).length : Int) - (t ++ [32, 123]).length ≠ 2 * (d : Int)) := by rw [List.length_append, blank_len]; omega
  have q4 : hasSuffix (t ++ [32, 123]) [32, 123] = true := List.isSuffixOf_iff_suffix.2 (List.suffix_append _ _)
  unfold lineOk
  simp only
  rw [trim_blank d hne2 hh2, if_neg q1, if_neg q2, if_neg q3, if_pos q4]
theorem head_ident {s t : Bytes} (h : identB s = true) : s ++ t ≠ [] ∧ (s ++ t).head? ≠ some 32 := by
  obtain ⟨h1, h2⟩ := ident_mem h
  cases s with
  | nil => exact absurd rfl h1
  | cons b r =>
    refine ⟨by simp, fun q => ?_⟩
    simp only [List.cons_append, List.head?_cons, Option.some.injEq] at q
    exact (ne_of_range (h2 b (by simp))).1 q
theorem cl_labT (ls : List Bytes) : Cl (labT ls) := fun b hb => by
  obtain ⟨x, _, hx⟩ := List.mem_flatMap.1 hb
  exact Cl.app (a := [32]) (Cl.lit rfl) (cl_quoteP x) b hx
theorem attr_line (d : Nat) {a : TAttribute} (h1 : identB a.fName = true) (h2 : GoodE a.fExpr) : lineOk (attrL d a) d = some (d : Int) := by
  obtain ⟨c1, c2⟩ := expr_clean h2
  unfold attrL
  have e : a.fName ++ [32, 61, 32] ++ exprT a.fExpr = a.fName ++ ([32, 61, 32] ++ exprT a.fExpr) := by simp
  rw [e]
  obtain ⟨h3, h4⟩ := head_ident (t := [32, 61, 32] ++ exprT a.fExpr) h1
  refine line_plain d h3 h4 (Cl.app (cl_ident h1) (Cl.app (Cl.lit rfl) c1)) (Fn.app _ (Fn.app _ c2)) ?_
  intro q
  have := congrArg List.length q
  simp at this
  omega
theorem lines_chk {b : TBody} (hg : GoodB b) : ∀ d : Nat, chk d (linesB d b) = some (d : Int) := by
  induction hg with
  | @mk b attrs blocks inner ih =>
    intro d
    rw [linesB_eq, chk_app]
    have h1 : ∀ l : List TAttribute, (∀ a ∈ l, a ∈ b.fAttrs) → chk d (l.map (attrL d)) = some (d : Int) := by
      intro l
      induction l with
      | nil => intro _; rfl
      | cons x r ih2 =>
        intro hm
        have := attrs x (hm x (by simp))
        rw [List.map_cons, chk, attr_line d this.1 this.2, Option.bind_some]
        exact ih2 fun k hk => hm k (List.mem_cons_of_mem _ hk)
    have h2 : ∀ l : List TBlock, (∀ k ∈ l, k ∈ b.fBlocks) → chk d (l.flatMap (linesK d)) = some (d : Int) := by
      intro l
      induction l with
      | nil => intro _; rfl
      | cons x r ih2 =>
        intro hm
        have hx := blocks x (hm x (by simp))
        obtain ⟨h3, h4⟩ := head_ident (t := labT x.fLabels) hx.1
        rw [List.flatMap_cons, linesK_eq, chk_app, chk]
        unfold headL
        rw [line_head d h3 h4 (Cl.app (cl_ident hx.1) (cl_labT _)), Option.bind_some, chk_app]
        have e : ((d : Int) + 1) = ((d + 1 : Nat) : Int) := by omega
        have h5 := ih x (hm x (by simp)) (d + 1)
        rw [e, h5, Option.bind_some, ← e]
        simp only [chk]
        rw [line_tail d]
        simp only [Option.bind_some]
        exact ih2 fun k hk => hm k (List.mem_cons_of_mem _ hk)
    rw [h1 _ fun a ha => ha, Option.bind_some]
    exact h2 _ fun k hk => hk

/-! ### The text, cut at its line ends -/
theorem line_clean {b : TBody} (hg : GoodB b) : ∀ d, ∀ l ∈ linesB d b, Cl l := by
  induction hg with
  | @mk b attrs blocks inner ih =>
    intro d l hl
    rw [linesB_eq] at hl
    rcases List.mem_append.1 hl with h | h
    · obtain ⟨a, ha, rfl⟩ := List.mem_map.1 h
      exact Cl.app (cl_blank d) (Cl.app (Cl.app (cl_ident (attrs a ha).1) (Cl.lit rfl)) (expr_clean (attrs a ha).2).1)
    · obtain ⟨k, hk, h⟩ := List.mem_flatMap.1 h
      rw [linesK_eq] at h
      rcases List.mem_cons.1 h with rfl | h
      · exact Cl.app (cl_blank d) (Cl.app (Cl.app (cl_ident (blocks k hk).1) (cl_labT _)) (Cl.lit rfl))
      · rcases List.mem_append.1 h with h | h
        · exact ih k hk (d + 1) l h
        · obtain rfl := List.mem_singleton.1 h
          exact Cl.app (cl_blank d) (Cl.lit rfl)
theorem index_ten : ∀ (l r : Bytes), (10 : UInt8) ∉ l → index (l ++ 10 :: r) [10] = (l.length : Int)
  | [], r, _ => by simp [index]
  | b :: l, r, h => by
    have hb : ¬ (10 : UInt8) = b := fun q => h (by simp [q])
    have ih := index_ten l r fun q => h (List.mem_cons_of_mem _ q)
    have e : index (b :: (l ++ 10 :: r)) [10] = if index (l ++ 10 :: r) [10] == -1 then -1 else index (l ++ 10 :: r) [10] + 1 := by
      simp [index, hb]
    rw [List.cons_append, e, ih, if_neg (by rw [beq_iff_eq]; omega), List.length_cons]
    omega
theorem splitK_join : ∀ (r : List Bytes) (l : Bytes), (10 : UInt8) ∉ l → (∀ x ∈ r, (10 : UInt8) ∉ x) → splitK [10] 0 r.length (l ++ joinTail [10] r) = l :: r ∧ (l ++ joinTail [10] r).count 10 = r.length
  | [], l, h, _ => by
    simp only [joinTail, List.map_nil, List.flatten_nil, List.append_nil, List.length_nil]
    exact ⟨rfl, List.count_eq_zero.2 h⟩
  | x :: q, l, h, hr => by
    obtain ⟨i1, i2⟩ := splitK_join q x (hr x (by simp)) fun y hy => hr y (List.mem_cons_of_mem _ hy)
    have e : l ++ joinTail [10] (x :: q) = l ++ 10 :: (x ++ joinTail [10] q) := by simp [joinTail]
    rw [e]
    constructor
    · rw [List.length_cons, splitK, index_ten l _ h, if_neg (by rw [beq_iff_eq]; omega)]
      have h1 : ((l.length : Int).toNat + 0) = l.length := by omega
      have h2 : ((l.length : Int).toNat + [(10 : UInt8)].length) = l.length + 1 := by simp
      rw [h1, h2, List.take_left, List.drop_append]
      simp only [Nat.add_sub_cancel_left, List.drop_eq_nil_of_le (Nat.le_succ _), List.nil_append, List.drop_succ_cons, List.drop_zero]
      rw [i1]
    · rw [List.count_append, List.count_cons, i2, List.count_eq_zero.2 h]
      simp
theorem unl_join : ∀ (r : List Bytes) (l : Bytes), unl (l :: r) = (l ++ joinTail [10] r) ++ [10]
  | [], l => by simp [unl, joinTail]
  | x :: q, l => by
    have ih := unl_join q x
    have e : unl (l :: x :: q) = l ++ [10] ++ unl (x :: q) := by simp [unl]
    rw [e, ih]; simp [joinTail]
/-- All but the last byte of a text of lines, cut at its line ends. -/
theorem split_unl (ls : List Bytes) (hc : ∀ l ∈ ls, Cl l) (hne : ls ≠ []) : split ((unl ls).take ((unl ls).length - 1)) [10] = ls := by
  have h10 : ∀ l ∈ ls, (10 : UInt8) ∉ l := fun l hl q => absurd (hc l hl 10 q) (by decide)
  cases ls with
  | nil => exact absurd rfl hne
  | cons l r =>
    obtain ⟨h1, h2⟩ := splitK_join r l (h10 l (by simp)) fun x hx => h10 x (List.mem_cons_of_mem _ hx)
    have e : (unl (l :: r)).take ((unl (l :: r)).length - 1) = l ++ joinTail [10] r := by
      rw [unl_join, List.length_append, List.length_singleton, Nat.add_sub_cancel, List.take_left]
    rw [e]
    unfold split
    rw [count_one, h2, h1]
theorem unl_end {ls : List Bytes} (hne : ls ≠ []) : ∃ p, unl ls = p ++ [10] := by
  cases ls with
  | nil => exact absurd rfl hne
  | cons l r => exact ⟨_, unl_join r l⟩
theorem unl_len (ls : List Bytes) : ls.length ≤ (unl ls).length ∧ ∀ l ∈ ls, l.length ≤ (unl ls).length := by
  induction ls with
  | nil => simp [unl]
  | cons l r ih =>
    have e : unl (l :: r) = l ++ [10] ++ unl r := by simp [unl]
    rw [e]
    refine ⟨by simp; omega, fun x hx => ?_⟩
    rcases List.mem_cons.1 hx with rfl | hx
    · simp
    · have := ih.2 x hx; simp; omega
theorem lines_nil {b : TBody} {d : Nat} (h : linesB d b = []) : b.fAttrs = [] ∧ b.fBlocks = [] := by
  rw [linesB_eq] at h
  obtain ⟨h1, h2⟩ := List.append_eq_nil_iff.1 h
  refine ⟨List.map_eq_nil_iff.1 h1, ?_⟩
  cases hb : b.fBlocks with
  | nil => rfl
  | cons k r => rw [hb, List.flatMap_cons, linesK_eq] at h2; simp at h2
theorem lines_ne {b : TBody} {d : Nat} (h : linesB d b ≠ []) : bodyT d b = [] → ¬ GoodB b := fun q g => by
  rw [body_unl g] at q
  obtain ⟨p, hp⟩ := unl_end h
  rw [hp] at q
  simp at q
end Go.Ab.R06

namespace Go.Ab.R06
open Go.Ab Go.Ab.RB Go.Lib

theorem suffix_eq (s p : Bytes) (h : s.length ≤ 1000000000) : strings_HasSuffix s p = some (hasSuffix s p) := by
  unfold strings_HasSuffix; rw [ck_pos (by omega)]
theorem trim_eq (s : Bytes) : strings_TrimLeft s [32] = some (trimLeftB s 32) := by
  unfold strings_TrimLeft; rw [ck_pos (by decide)]; rfl
theorem contains_eq (s : Bytes) : strings_Contains s [9] = some (decide (0 ≤ indexByte s 9)) := by
  unfold strings_Contains; rw [ck_pos (by decide)]; rfl
theorem trim_len (s : Bytes) : (trimLeftB s 32).length ≤ s.length := by
  unfold trimLeftB
  exact (List.dropWhile_sublist _).length_le
theorem lineOk_some {l : Bytes} {d e : Int} (h : lineOk l d = some e) : ¬ (trimLeftB l 32 = [] ∨ hasSuffix l [32] = true ∨ 0 ≤ indexByte l 9) ∧
    ((l.length : Int) - (trimLeftB l 32).length = 2 * (if trimLeftB l 32 = [125] then d - 1 else d)) ∧ e = if hasSuffix (trimLeftB l 32) [32, 123] = true then (if trimLeftB l 32 = [125] then d - 1 else d) + 1 else (if trimLeftB l 32 = [125] then d - 1 else d) := by
  unfold lineOk at h
  simp only at h
  generalize (if trimLeftB l 32 = [125] then d - 1 else d) = d1 at *
  by_cases h1 : trimLeftB l 32 = [] ∨ hasSuffix l [32] = true ∨ 0 ≤ indexByte l 9
  · rw [if_pos h1] at h; cases h
  · rw [if_neg h1] at h
    by_cases h2 : (l.length : Int) - (trimLeftB l 32).length = 2 * d1
    · rw [if_neg (fun q => q h2)] at h
      exact ⟨h1, h2, (Option.some.inj h).symm⟩
    · rw [if_pos h2] at h; cases h
theorem flines_l1 (ls : List Bytes) (hn : ls.length ≤ 1000000000) (hl : ∀ l ∈ ls, l.length ≤ 1000000000) : ∀ (k i : Nat) (d e : Int), i + k = ls.length → -(i : Int) ≤ d → d ≤ i → chk d (ls.drop i) = some e →
    Ev2 (fun _ m => law16_FormatLines_l1 ls m d (i : Int)) (· = .inl e) := by
  intro k
  induction k with
  | zero =>
    intro i d e hi h1 h2 hc
    refine ev_round ?_
    simp only [law16_FormatLines_l1]
    refine ev_ifF (by omega) (ev_some ?_)
    rw [List.drop_eq_nil_of_le (by omega)] at hc
    cases hc; rfl
  | succ k ih =>
    intro i d e hi h1 h2 hc
    have hm := hl _ (lat_mem (l := ls) (i := (i : Int)) (by omega))
    rw [drop_lat ls (by omega), chk] at hc
    have ht := trim_len (lat ls (i : Int))
    refine ev_round ?_
    simp only [law16_FormatLines_l1]
    refine ev_ifT (by omega) ?_
    generalize lat ls (i : Int) = l at *
    cases ho : lineOk l d with
    | none => rw [ho] at hc; cases hc
    | some e1 =>
      rw [ho, Option.bind_some] at hc
      obtain ⟨hno, hlen, he1⟩ := lineOk_some ho
      generalize hd1 : (if trimLeftB l 32 = [125] then d - 1 else d) = d1 at *
      have hr1 : -(i : Int) - 1 ≤ d1 ∧ d1 ≤ i := by rw [← hd1]; split <;> omega
      have hr2 : -(i : Int) - 1 ≤ e1 ∧ e1 ≤ i + 1 := by rw [he1]; split <;> omega
      refine ev_jnL e1 ?_ (ev_ck (inR_of (by omega) (by omega)) ?_)
      · refine ev_ck (by omega) (ev_to _ (ev_const (trim_eq l) rfl) ?_)
        refine ev_to false ?_ (ev_ifF (by simp) ?_)
        · refine ev_ifF (fun h => hno (.inl h)) (ev_ck (by omega) (ev_to _ (ev_const (suffix_eq l _ hm) rfl) (ev_ifF (fun h => hno (.inr (.inl h))) (ev_ck (by omega) (ev_to _ (ev_const (contains_eq l) rfl) (ev_some (decide_eq_false fun h => hno (.inr (.inr h)))))))))
        · refine ev_to d1 ?_ ?_
          · rw [← hd1]
            exact ev_ifd (fun _ => ev_ck (inR_of (by omega) (by omega)) (ev_some rfl)) (fun _ => ev_some rfl)
          · refine ev_ck (by omega) (ev_ck (inR_of (by omega) (by omega)) (ev_ck (inR_of (by omega) (by omega)) (ev_ifT (by omega) ?_)))
            refine ev_to _ (ev_const (suffix_eq _ _ (by omega)) rfl) (ev_ite (fun h => ev_ck (inR_of (by omega) (by omega)) (ev_some ?_)) (fun h => ev_some ?_))
            · rw [he1, if_pos h]
            · rw [he1, if_neg h]
      · exact nat_succ (P := fun j => Ev2 (fun _ m => law16_FormatLines_l1 ls m e1 j) _) (ih (i + 1) e1 e (by omega) (by omega) (by omega) hc)
theorem lines_law {b : TBody} (hb : TBody.Bd b) : Ev2 (fun n _ => law16_FormatLines n b) (· = true) := by
  simp only [law16_FormatLines]
  refine ev_cut _ (whole1_ev hb) (fun r hr => ev_ite (fun _ => ev_cut _ awake_ev (fun r hr => ev_some hr)) (fun h => ?_))
  obtain ⟨g1, g2⟩ := hr (by simpa using h)
  have hlen := bodyT_len g1 0 (by omega) g2
  have hu := body_unl g1 0
  have hul := unl_len (linesB 0 b)
  have ha := hb.bAttrs
  have hk := hb.bBlocks
  unfold maxW at ha hk
  refine ev_to _ (body_ev g1 g2) ?_
  refine ev_ite (fun h0 => ?_) (fun h0 => ?_)
  · have hnil : linesB 0 b = [] := by
      by_cases q : linesB 0 b = []
      · exact q
      · exact absurd g1 (lines_ne q h0)
    obtain ⟨q1, q2⟩ := lines_nil hnil
    refine ev_cut (· = true) (ev_ck (inR_of (by omega) (by omega)) (ev_ifT (by rw [q1, q2]; rfl) (ev_cut _ awake_ev (fun r hr => ev_some hr)))) (fun t ht => ev_some ht)
  · have hne : linesB 0 b ≠ [] := fun q => h0 (by rw [hu, q]; rfl)
    obtain ⟨p, hp⟩ := unl_end hne
    have hsuf : hasSuffix (bodyT 0 b) [10] = true := by
      rw [hu, hp]
      exact List.isSuffixOf_iff_suffix.2 (List.suffix_append _ _)
    refine ev_to _ (ev_const (suffix_eq _ _ (by omega)) rfl) (ev_ifF (by rw [hsuf]; simp) ?_)
    have hpos : 1 ≤ (bodyT 0 b).length := by rw [hu, hp]; simp
    refine ev_ck (inR_of (by omega) (by omega)) (ev_ck (by omega) ?_)
    have hsub : sub (bodyT 0 b) 0 (((bodyT 0 b).length : Int) - 1) = (bodyT 0 b).take ((bodyT 0 b).length - 1) := by
      have e : (((bodyT 0 b).length : Int) - 1) = (((bodyT 0 b).length - 1 : Nat) : Int) := by omega
      rw [e, ← Int.natCast_zero, sub_nat]; simp
    have hsp : strings_Split (sub (bodyT 0 b) 0 (((bodyT 0 b).length : Int) - 1)) [10] = some (linesB 0 b) := by
      rw [hsub]
      unfold strings_Split
      rw [ck_pos ⟨by rw [List.length_take]; omega, by decide⟩, hu, split_unl _ (line_clean g1 0) hne]
    refine ev_to _ (ev_const hsp rfl) ?_
    rw [← hu] at hul
    have hc := lines_chk g1 0
    refine ev_jnL 0 (ev_loop (f := fun _ m => law16_FormatLines_l1 (linesB 0 b) m 0 0) (flines_l1 (linesB 0 b) (by omega) (fun l hl => by have := hul.2 l hl; omega) (linesB 0 b).length 0 0 0 (by omega) (by omega) (by omega) (by simpa using hc))) ?_
    exact ev_cut (· = true) (ev_ifT rfl (ev_cut _ awake_ev (fun r hr => ev_some hr))) (fun t ht => ev_some ht)
end Go.Ab.R06

namespace Go.Ab.R06
open Go.Proofs Go.Ab Go.Ab.RB
theorem lines_all (qs : List PV) (h : WTa tt [35] qs) : PCalls Tryz.prog 5 qs (· = .p (.val (.bool true))) := by
  match qs, h with
  | [a], ⟨⟨m, k1, k2⟩, _⟩ =>
    obtain ⟨y, e2, b2⟩ := TBody.dec m _ k1
    obtain rfl := mkA_eq e2 k2
    obtain ⟨n, r, hr, rfl⟩ := ev_get (lines_law b2)
    exact law16_FormatLines_ok n y true hr
end Go.Ab.R06
