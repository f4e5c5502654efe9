/- Plain facts of chapter 16: the text of an expression. No program in sight. -/
import Derived.Test.YtmdefcidhgbikaaGreatDoorP16h
import Derived.Lib.Join
set_option linter.unusedVariables false
set_option linter.unusedSimpArgs false
set_option linter.unnecessarySimpa false
namespace Go.Ab.R06
open Go.Ab Go.Ab.RB Go.Lib
theorem kids_facts {k n : Int} (h : ref14_kids k n = some true) : (k = 1 ∧ n = 0) ∨ (k = 2 ∧ 1 ≤ n) ∨ (k = 3 ∧ n = 0) ∨ (k = 4 ∧ n = 1) ∨ (k = 5 ∧ n = 2) ∨ (k = 6 ∧ n = 1) ∨ (k = 7 ∧ n = 2) ∨ (k = 8 ∧ n = 3) ∨ k = 9 ∨ k = 10 ∨ (k = 11 ∧ n.tmod 2 = 0) ∨ (k = 12 ∧ (n = 2 ∨ n = 3)) ∨ (k = 13 ∧ (n = 3 ∨ n = 4)) := by
  unfold ref14_kids ck at h
  by_cases h1 : k = 1
  · subst h1; simp at h; exact .inl ⟨rfl, h⟩
  by_cases h2 : k = 2
  · subst h2; simp at h; exact .inr (.inl ⟨rfl, h⟩)
  by_cases h3 : k = 3
  · subst h3; simp at h; omega
  by_cases h4 : k = 4
  · subst h4; simp at h; omega
  by_cases h5 : k = 5
  · subst h5; simp at h; omega
  by_cases h6 : k = 6
  · subst h6; simp at h; omega
  by_cases h7 : k = 7
  · subst h7; simp at h; omega
  by_cases h8 : k = 8
  · subst h8; simp at h; omega
  by_cases h9 : k = 9
  · subst h9; simp
  by_cases h10 : k = 10
  · subst h10; simp
  by_cases h11 : k = 11
  · subst h11; simp at h; simp [h]
  by_cases h12 : k = 12
  · subst h12
    by_cases q : n = 2
    · subst q; simp
    · simp [q] at h; omega
  by_cases h13 : k = 13
  · subst h13
    by_cases q : n = 3
    · subst q; simp
    · simp [q] at h; omega
  simp [h1, h2, h3, h4, h5, h6, h7, h8, h9, h10, h11, h12, h13] at h
theorem shaped_facts {e : TExpr} (h : ref14_shaped e = some true) : ref14_kids e.fKind (e.fKids.length : Int) = some true ∧
    (e.fKind = 1 → (e.fValue.fKind = 0 ∨ e.fValue.fKind = 1 ∨ e.fValue.fKind = 2 ∨ e.fValue.fKind = 3) ∧ (e.fValue.fKind = 2 → 0 ≤ e.fValue.fNum)) ∧
    (e.fKind = 6 → e.fOp = 1 ∨ e.fOp = 2) ∧ (e.fKind = 7 → 3 ≤ e.fOp ∧ e.fOp ≤ 15) := by
  unfold ref14_shaped at h
  obtain ⟨a, ha⟩ := t_kids e.fKind (e.fKids.length : Int)
  obtain ⟨b, hb⟩ := t_loop e.fKind
  obtain ⟨c, hc⟩ := t_named e.fKind
  obtain ⟨d, hd⟩ := t_zero e.fValue
  simp only [ha, hb, hc, hd, Option.bind_some] at h
  cases a with
  | false => simp at h
  | true =>
    refine ⟨ha, ?_⟩
    generalize hT : (if (!true) = true then some true else _ : Option Bool) = T at h
    cases T with
    | none => cases h
    | some t =>
      simp only [Option.bind_some] at h
      cases t with
      | true => simp at h
      | false =>
        simp only [Bool.false_eq_true, if_false] at h
        by_cases h1 : e.fKind = 1
        · rw [if_pos h1] at h
          refine ⟨fun _ => ?_, fun k => by omega, fun k => by omega⟩
          by_cases h2 : e.fOp = 0
          · rw [if_pos h2] at h
            by_cases q0 : e.fValue.fKind = 0
            · exact ⟨.inl q0, fun k => by omega⟩
            by_cases q1 : e.fValue.fKind = 1
            · exact ⟨.inr (.inl q1), fun k => by omega⟩
            by_cases q3 : e.fValue.fKind = 3
            · exact ⟨.inr (.inr (.inr q3)), fun k => by omega⟩
            by_cases q2 : e.fValue.fKind = 2
            · refine ⟨.inr (.inr (.inl q2)), fun _ => ?_⟩
              rw [if_neg q0, if_neg q1, if_neg q3, if_pos q2] at h
              simpa using h
            · rw [if_neg q0, if_neg q1, if_neg q3, if_neg q2] at h
              simp at h
          · rw [if_neg h2] at h; simp at h
        · rw [if_neg h1] at h
          refine ⟨fun k => absurd k h1, ?_⟩
          cases d with
          | false => simp at h
          | true =>
            simp only [Bool.not_true, Bool.false_eq_true, if_false] at h
            by_cases h6 : e.fKind = 6
            · rw [if_pos h6] at h
              refine ⟨fun _ => ?_, fun k => by omega⟩
              by_cases o1 : e.fOp = 1
              · exact .inl o1
              · rw [if_neg o1] at h; simp at h; exact .inr h
            · rw [if_neg h6] at h
              refine ⟨fun k => absurd k h6, fun h7 => ?_⟩
              rw [if_pos h7] at h
              by_cases o1 : 3 ≤ e.fOp
              · rw [if_pos o1] at h; simp at h; exact ⟨o1, h⟩
              · rw [if_neg o1] at h; simp at h
theorem good_lit {e : TExpr} (h : GoodE e) (h1 : e.fKind = 1) : LitV e.fValue := by
  cases h with
  | mk h _ =>
    obtain ⟨_, f1, _⟩ := shaped_facts h.1
    obtain ⟨v1, v2, v3, v4⟩ := h.2.1 h1
    refine ⟨(f1 h1).1, fun k => ⟨(f1 h1).2 k, ?_⟩, v3⟩
    have := v2 k
    unfold ref01_Valid at this
    unfold maxN
    by_cases q : (-9007199254740992) ≤ e.fValue.fNum
    · rw [if_pos q] at this; simpa using this
    · rw [if_neg q] at this; simp at this
def isPl (e : TExpr) : Bool := decide (e.fKind = 1) && decide (e.fValue.fKind = 3) && !decide (e.fValue.fStr = [])
theorem fplain (e : TExpr) : format_plain e = some (isPl e) := by
  unfold format_plain isPl
  by_cases h1 : e.fKind = 1 <;> by_cases h2 : e.fValue.fKind = 3 <;> simp [h1, h2]
theorem rplain (e : TExpr) : ref16_plain e = some (isPl e) := by
  unfold ref16_plain isPl
  by_cases h1 : e.fKind = 1 <;> by_cases h2 : e.fValue.fKind = 3 <;> simp [h1, h2]
def partT (s : Bytes) (last : Bool) : Bytes := if last = false ∧ s.getD (s.length - 1) 0 = 36 then quo (s.take (s.length - 1)) ++ [92, 117, 123, 50, 52, 125] else quo s
def tmplG (big : Bool) : List TExpr → List Bytes → Bool → Bytes
  | x :: r, t :: q, b => if (isPl x && !b && big) = true then partT x.fValue.fStr r.isEmpty ++ tmplG big r q true else ([36, 123] ++ t ++ [125]) ++ tmplG big r q false
  | _, _, _ => []
def lvl (e : TExpr) : Int := (format_level e).getD 8
def sgn (o : Int) : Bytes := (format_sign o).getD []
def atT (e : TExpr) (t : Bytes) (n : Int) : Bytes := if lvl e < n then [40] ++ t ++ [41] else t
def keyT16 (e : TExpr) (t : Bytes) : Bytes := if e.fKind = 1 ∧ e.fValue.fKind = 3 then (if identB e.fValue.fStr = true ∧ resB e.fValue.fStr = false then e.fValue.fStr else t) else if e.fKind = 2 then t else [40] ++ t ++ [41]
def mapG : List TExpr → List Bytes → List Bytes
  | x :: _ :: r, t :: u :: q => (keyT16 x t ++ [32, 61, 32] ++ u) :: mapG r q
  | _, _ => []
def loopT (e : TExpr) (ts : List Bytes) : Bytes :=
  [102, 111, 114, 32] ++ (if e.fKey = [] then [] else e.fKey ++ [44, 32]) ++ e.fName ++ [32, 105, 110, 32] ++ ts.getD 0 [] ++ [32, 58, 32] ++ ts.getD 1 [] ++
    (if e.fKind = 13 then [32, 61, 62, 32] ++ ts.getD 2 [] ++ (if 3 < ts.length then [32, 105, 102, 32] ++ ts.getD 3 [] else []) else (if 2 < ts.length then [32, 105, 102, 32] ++ ts.getD 2 [] else []))
def comb (e : TExpr) (ts : List Bytes) : Bytes :=
  if e.fKind = 1 then litT e.fValue
  else if e.fKind = 2 then [34] ++ tmplG (decide (1 < e.fKids.length)) e.fKids ts false ++ [34]
  else if e.fKind = 3 then e.fName
  else if e.fKind = 4 then atT (lat e.fKids 0) (ts.getD 0 []) 8 ++ [46] ++ e.fName
  else if e.fKind = 5 then atT (lat e.fKids 0) (ts.getD 0 []) 8 ++ [91] ++ ts.getD 1 [] ++ [93]
  else if e.fKind = 6 then sgn e.fOp ++ atT (lat e.fKids 0) (ts.getD 0 []) 7
  else if e.fKind = 7 then atT (lat e.fKids 0) (ts.getD 0 []) (lvl e) ++ [32] ++ sgn e.fOp ++ [32] ++ atT (lat e.fKids 1) (ts.getD 1 []) (lvl e + 1)
  else if e.fKind = 8 then atT (lat e.fKids 0) (ts.getD 0 []) 1 ++ [32, 63, 32] ++ ts.getD 1 [] ++ [32, 58, 32] ++ ts.getD 2 []
  else if e.fKind = 9 then e.fName ++ [40] ++ join ts [44, 32] ++ [41]
  else if e.fKind = 10 then [91] ++ join ts [44, 32] ++ [93]
  else if e.fKind = 11 then [123] ++ join (mapG e.fKids ts) [44, 32] ++ [125]
  else if e.fKind = 12 then [91] ++ loopT e ts ++ [93]
  else [123] ++ loopT e ts ++ [125]
mutual
def exprT : TExpr → Bytes
  | .mk k o n y v l a => comb (.mk k o n y v l a) (exprTL l)
def exprTL : List TExpr → List Bytes
  | [] => []
  | x :: r => exprT x :: exprTL r
end
theorem exprTL_eq : ∀ l, exprTL l = l.map exprT
  | [] => by simp only [exprTL, List.map_nil]
  | x :: r => by simp only [exprTL, List.map_cons]; rw [exprTL_eq r]
theorem exprT_eq (e : TExpr) : exprT e = comb e (e.fKids.map exprT) := by
  cases e
  simp only [exprT, exprTL_eq, TExpr.fKids]
end Go.Ab.R06
