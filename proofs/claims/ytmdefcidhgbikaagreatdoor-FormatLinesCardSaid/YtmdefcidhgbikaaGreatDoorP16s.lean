/- Plain facts of chapter 16: how many nodes a small body has. No program in sight. Plain facts of chapter 16: one body that is valid. No program in sight. Plain facts of chapter 16: the text of a body. No program in sight. Plain facts of chapter 16: the text of a body, by the program. No program in sight. Plain facts of chapter 16: the text of a body, by the program: blocks. No program in sight. Plain facts of chapter 16: the text of a body, by the reference; the law FormatTexts. No program in sight. Plain facts of chapter 16: the text of a body, by the reference: blocks; the law FormatTexts. No program in sight. -/
import Derived.Test.YtmdefcidhgbikaaGreatDoorP16r
set_option linter.unusedVariables false
set_option linter.unusedSimpArgs false
set_option linter.unnecessarySimpa false
namespace Go.Ab.R06
open Go.Ab Go.Ab.RB Go.Lib

def nodesA : List TAttribute → Nat
  | [] => 0
  | a :: r => nodesE a.fExpr + nodesA r
mutual
def nodesB : TBody → Nat
  | .mk l k => l.length + k.length + nodesA l + nodesKL k
def nodesK : TBlock → Nat
  | .mk _ ls b _ => ls.length + nodesB b
def nodesKL : List TBlock → Nat
  | [] => 0
  | x :: r => nodesK x + nodesKL r
end
theorem nodesB_eq (b : TBody) : nodesB b = b.fAttrs.length + b.fBlocks.length + nodesA b.fAttrs + nodesKL b.fBlocks := by
  cases b; simp only [nodesB, TBody.fAttrs, TBody.fBlocks]
theorem nodesK_eq (k : TBlock) : nodesK k = k.fLabels.length + nodesB k.fBody := by
  cases k; simp only [nodesK, TBlock.fLabels, TBlock.fBody]
theorem bleftN_ev : ∀ b, TBody.Bd b → ∀ (nodes levels : Int), -maxW ≤ nodes → nodes ≤ 1000 → -1000000 ≤ levels → levels ≤ 1000000 →
    Ev2 (fun n _ => ref16_left n b nodes levels) (fun r => r ≤ 1000 ∧ -maxW ≤ r ∧ (0 ≤ r → r = nodes - (nodesB b : Int))) := by
  refine TBody.Bd.ind (fun b hb ih => ?_)
  intro nodes levels h1 h2 h3 h4
  have la := hb.bAttrs
  have lb := hb.bBlocks
  have hE := nodesB_eq b
  unfold maxW at *
  refine ev_succ ?_
  simp only [ref16_left]
  refine ev_to (decide (levels < 1) || decide (nodes < (b.fAttrs.length : Int) + (b.fBlocks.length : Int))) (ev_ite (fun h => ev_some (by simp [h])) (fun h => ev_ck (inR_of (by omega) (by omega)) (ev_some (by simp [h])))) ?_
  refine ev_ite (fun _ => ev_some ⟨by decide, by decide, by omega⟩) (fun h => ?_)
  have h : ¬ levels < 1 ∧ ¬ nodes < (b.fAttrs.length : Int) + (b.fBlocks.length : Int) := by simpa using h
  refine ev_ck (inR_of (by omega) (by omega)) (ev_ck (inR_of (by omega) (by omega)) ?_)
  have loop1 : ∀ (k i : Nat) (c : Int), i + k = b.fAttrs.length → -1 ≤ c → c ≤ 1000 → Ev2 (fun n m => ref16_left_l1 n b m c (i : Int)) (fun s => match s with | .inl y => -1 ≤ y ∧ y ≤ 1000 ∧ (0 ≤ y → y = c - (nodesA (b.fAttrs.drop i) : Int)) | .inr y => y = -1) := by
    intro k
    induction k with
    | zero =>
      intro i c hi h6 h7
      refine ev_round ?_
      simp only [ref16_left_l1]
      refine ev_to false (ev_ifF (by omega) (ev_some rfl)) (ev_ifF (by simp) (ev_some ⟨h6, h7, fun _ => ?_⟩))
      rw [List.drop_eq_nil_of_le (by omega)]; simp [nodesA]
    | succ k ihk =>
      intro i c hi h6 h7
      refine ev_round ?_
      simp only [ref16_left_l1]
      refine ev_to (decide (0 ≤ c)) (ev_ifT (by omega) (ev_some rfl)) (ev_ite (fun h8 => ?_) (fun h8 => ev_some ⟨h6, h7, fun h => absurd (by simpa using h) h8⟩))
      have h8 : 0 ≤ c := by simpa using h8
      have hx : TExpr.Bd (lat b.fAttrs (i : Int)).fExpr := (hb.eAttrs _ (lat_mem (by omega))).bExpr
      refine ev_ck (by omega) (ev_ck (inR_of (by omega) (by omega)) ?_)
      refine ev_cut _ (esmall_ev hx (c + 1) (by omega) (by omega)) (fun r hr => ?_)
      refine ev_ite (fun _ => ev_some rfl) (fun h9 => ?_)
      have h9 := hr (by simpa using h9)
      refine ev_ck (by omega) (ev_to _ (enodes_ev hx (by omega)) ?_)
      refine ev_ck (inR_of (by omega) (by omega)) (ev_ck (inR_of (by omega) (by omega)) ?_)
      refine ev_mono (nat_succ (P := fun j => Ev2 (fun n m => ref16_left_l1 n b m (c - (nodesE (lat b.fAttrs (i : Int)).fExpr : Int)) j) _) (ihk (i + 1) _ (by omega) (by omega) (by omega))) (fun s hs => ?_)
      cases s with
      | inr y => exact hs
      | inl y =>
        refine ⟨hs.1, hs.2.1, fun h => ?_⟩
        rw [drop_lat b.fAttrs (i := i) (by omega)]
        have := hs.2.2 h
        simp only [nodesA]; omega
  have loop2 : ∀ (k i : Nat) (c : Int), i + k = b.fBlocks.length → -140737488351232 ≤ c → c ≤ 1000 → Ev2 (fun n m => ref16_left_l2 (ref16_left n) b levels m c (i : Int)) (fun r => r ≤ 1000 ∧ -140737488351232 ≤ r ∧ (0 ≤ r → r = c - (nodesKL (b.fBlocks.drop i) : Int))) := by
    intro k
    induction k with
    | zero =>
      intro i c hi h6 h7
      refine ev_round ?_
      simp only [ref16_left_l2]
      refine ev_to false (ev_ifF (by omega) (ev_some rfl)) (ev_ifF (by simp) (ev_some ⟨h7, h6, fun _ => ?_⟩))
      rw [List.drop_eq_nil_of_le (by omega)]; simp [nodesKL]
    | succ k ihk =>
      intro i c hi h6 h7
      refine ev_round ?_
      simp only [ref16_left_l2]
      refine ev_to (decide (0 ≤ c)) (ev_ifT (by omega) (ev_some rfl)) (ev_ite (fun h8 => ?_) (fun h8 => ev_some ⟨h7, h6, fun h => absurd (by simpa using h) h8⟩))
      have h8 : 0 ≤ c := by simpa using h8
      have hm : lat b.fBlocks (i : Int) ∈ b.fBlocks := lat_mem (by omega)
      have hx := (hb.eBlocks _ hm).bLabels
      unfold maxW at hx
      refine ev_ck (by omega) (ev_ck (by omega) (ev_ck (inR_of (by omega) (by omega)) (ev_ck (inR_of (by omega) (by omega)) ?_)))
      refine ev_cut _ (ih _ hm _ (levels - 1) (by omega) (by omega) (by omega) (by omega)) (fun r hr => ?_)
      refine ev_ck (inR_of (by omega) (by omega)) ?_
      refine ev_mono (nat_succ (P := fun j => Ev2 (fun n m => ref16_left_l2 (ref16_left n) b levels m r j) _) (ihk (i + 1) _ (by omega) (by omega) (by omega))) (fun s hs => ⟨hs.1, hs.2.1, fun h => ?_⟩)
      have a1 := hs.2.2 h
      have a2 := hr.2.2 (by omega)
      have a3 := nodesK_eq (lat b.fBlocks (i : Int))
      rw [drop_lat b.fBlocks (i := i) (by omega)]
      simp only [nodesKL]; omega
  refine ev_jn (ev_mono (ev_loop (f := fun n m => ref16_left_l1 n b m ((nodes - (b.fAttrs.length : Int)) - (b.fBlocks.length : Int)) 0) (loop1 b.fAttrs.length 0 _ (by omega) (by omega) (by omega))) (fun s hs => ?_))
  cases s with
  | inl y =>
    refine ev_cut _ (ev_loop (f := fun n m => ref16_left_l2 (ref16_left n) b levels m y 0) (loop2 b.fBlocks.length 0 y (by omega) (by have := hs.1; omega) hs.2.1)) (fun r hr => ev_some ⟨hr.1, hr.2.1, fun h => ?_⟩)
    have a1 := hr.2.2 h
    have a2 := hs.2.2 (by omega)
    simp only [List.drop_zero] at a1 a2
    omega
  | inr y => have hs : y = -1 := hs; subst hs; exact ⟨by decide, by decide, by omega⟩
theorem bsmallN_ev {b : TBody} (hb : TBody.Bd b) : Ev2 (fun n _ => ref16_Small n b 300) (fun r => r = true → nodesB b ≤ 300) := by
  simp only [ref16_Small]
  refine ev_cut _ (bleftN_ev b hb 300 40 (by unfold maxW; omega) (by decide) (by decide) (by decide)) (fun r hr => ev_some (fun h => ?_))
  have h : 0 ≤ r := by simpa using h
  have := hr.2.2 h
  omega
end Go.Ab.R06

namespace Go.Ab.R06
open Go.Ab Go.Ab.RB Go.Lib

theorem whole1_ev {b : TBody} (hb : TBody.Bd b) : Ev2 (fun n _ => law16_whole n [b]) (fun r => r = true → GoodB b ∧ nodesB b ≤ 300) := by
  simp only [law16_whole]
  have loop : Ev2 (fun n m => law16_whole_l1 n [b] m 0) (fun s => match s with | .inl _ => GoodB b ∧ nodesB b ≤ 300 | .inr y => y = false) := by
    refine ev_round ?_
    simp only [law16_whole_l1]
    refine ev_ifT (by simp) ?_
    refine ev_cut (fun u => u = false → GoodB b ∧ nodesB b ≤ 300) ?_ (fun u hu => ?_)
    · refine ev_ck (by simp) (ev_cut _ (bsmallN_ev hb) (fun r hr => ev_ite (fun _ => ev_some (by simp)) (fun h1 => ev_ck (by simp) ?_)))
      exact ev_cut _ (bCheck_ev hb) (fun q hq => ev_some (fun h2 => ⟨hq (by simpa using h2), hr (nf h1)⟩))
    · refine ev_ite (fun _ => ev_some rfl) (fun h1 => ev_ck (inR_of (by omega) (by omega)) ?_)
      refine ev_round ?_
      simp only [law16_whole_l1]
      exact ev_ifF (by simp) (ev_some (hu (by simpa using h1)))
  refine ev_jn (ev_mono (ev_loop (f := fun n m => law16_whole_l1 n [b] m 0) loop) (fun x hx => ?_))
  cases x with
  | inr y => have hx : y = false := hx; subst hx; exact fun h => absurd h (by decide)
  | inl y => exact ev_some (fun _ => hx)
end Go.Ab.R06

namespace Go.Ab.R06
open Go.Ab Go.Ab.RB Go.Lib

def blank (d : Nat) : Bytes := List.replicate (2 * d) 32
def attrT (d : Nat) (a : TAttribute) : Bytes := blank d ++ a.fName ++ [32, 61, 32] ++ exprT a.fExpr ++ [10]
def labT (ls : List Bytes) : Bytes := ls.flatMap fun s => [32] ++ quoteP s
mutual
def bodyT : Nat → TBody → Bytes
  | d, .mk l k => l.flatMap (attrT d) ++ blocksT d k
def blockT : Nat → TBlock → Bytes
  | d, .mk t ls b _ => blank d ++ t ++ labT ls ++ [32, 123, 10] ++ bodyT (d + 1) b ++ blank d ++ [125, 10]
def blocksT : Nat → List TBlock → Bytes
  | _, [] => []
  | d, x :: r => blockT d x ++ blocksT d r
end
theorem blocksT_eq (d : Nat) : ∀ l, blocksT d l = l.flatMap (blockT d)
  | [] => by simp only [blocksT, List.flatMap_nil]
  | x :: r => by simp only [blocksT, List.flatMap_cons]; rw [blocksT_eq d r]
theorem bodyT_eq (d : Nat) (b : TBody) : bodyT d b = b.fAttrs.flatMap (attrT d) ++ b.fBlocks.flatMap (blockT d) := by
  cases b; simp only [bodyT, blocksT_eq, TBody.fAttrs, TBody.fBlocks]
theorem blockT_eq (d : Nat) (k : TBlock) : blockT d k = blank d ++ k.fType ++ labT k.fLabels ++ [32, 123, 10] ++ bodyT (d + 1) k.fBody ++ blank d ++ [125, 10] := by
  cases k; simp only [blockT, TBlock.fType, TBlock.fLabels, TBlock.fBody]
theorem blank_len (d : Nat) : (blank d).length = 2 * d := by simp [blank]
theorem blank_succ (d : Nat) : blank (d + 1) = blank d ++ [32, 32] := by
  unfold blank
  rw [show 2 * (d + 1) = 2 * d + 2 by omega]
  exact (List.replicate_append_replicate (n := 2 * d) (m := 2) (a := (32 : UInt8))).symm
theorem nodesA_mem : ∀ {l : List TAttribute} {x : TAttribute}, x ∈ l → nodesE x.fExpr ≤ nodesA l
  | y :: r, x, h => by
    simp only [nodesA]
    rcases List.mem_cons.1 h with rfl | h
    · omega
    · have := nodesA_mem h; omega
theorem nodesKL_mem : ∀ {l : List TBlock} {x : TBlock}, x ∈ l → nodesK x ≤ nodesKL l
  | y :: r, x, h => by
    simp only [nodesKL]
    rcases List.mem_cons.1 h with rfl | h
    · omega
    · have := nodesKL_mem h; omega
theorem labT_len : ∀ {ls : List Bytes}, (∀ s ∈ ls, s.length ≤ 4096) → (labT ls).length ≤ 70000 * ls.length
  | [], _ => by simp [labT]
  | s :: r, h => by
    have h1 := labT_len (fun s hs => h s (List.mem_cons_of_mem _ hs) : ∀ s ∈ r, s.length ≤ 4096)
    have h2 := h s (by simp)
    have h3 := flat_len s
    have h4 : (quoteP s).length = (s.flatMap escB).length + 2 := by simp [quoteP]
    simp only [labT, List.flatMap_cons, List.length_append, List.length_cons, List.length_nil] at h1 ⊢
    omega
theorem attrs_len (d : Nat) (hd : d ≤ 1000) : ∀ {l : List TAttribute}, (∀ a ∈ l, identB a.fName = true ∧ GoodE a.fExpr ∧ nodesE a.fExpr ≤ 300) → (l.flatMap (attrT d)).length ≤ 70000 * (l.length + nodesA l)
  | [], _ => by simp
  | a :: r, h => by
    have h1 := attrs_len d hd (fun x hx => h x (List.mem_cons_of_mem _ hx) : ∀ x ∈ r, _)
    obtain ⟨h2, h3, h4⟩ := h a (by simp)
    have h5 := ident_len h2
    have h6 := (both_ev h3 h4).2.2
    have h7 := blank_len d
    simp only [List.flatMap_cons, attrT, List.length_append, List.length_cons, List.length_nil, nodesA]
    omega
theorem bodyT_len {b : TBody} (hg : GoodB b) : ∀ d, d + nodesB b ≤ 1000 → nodesB b ≤ 300 → (bodyT d b).length ≤ 70000 * nodesB b := by
  induction hg with
  | @mk b attrs blocks inner ih =>
    intro d hd hN
    have hE := nodesB_eq b
    rw [bodyT_eq, List.length_append]
    have h1 := attrs_len d (by omega) (l := b.fAttrs) (fun a ha => ⟨(attrs a ha).1, (attrs a ha).2, by have := nodesA_mem ha; omega⟩)
    have go : ∀ l : List TBlock, (∀ k ∈ l, k ∈ b.fBlocks) → (l.flatMap (blockT d)).length ≤ 70000 * (l.length + nodesKL l) := by
      intro l
      induction l with
      | nil => intro _; simp
      | cons k r ihr =>
        intro hm
        have hk := hm k (by simp)
        have h2 := ihr (fun x hx => hm x (by simp [hx]))
        have h3 := nodesKL_mem hk
        have h4 := nodesK_eq k
        have hpos := List.length_pos_iff.2 (List.ne_nil_of_mem hk)
        have h5 := ih k hk (d + 1) (by omega) (by omega)
        have h6 := labT_len (fun s hs => ((blocks k hk).2 s hs).1)
        have h7 := ident_len (blocks k hk).1
        have h8 := blank_len d
        simp only [List.flatMap_cons, blockT_eq, List.length_append, List.length_cons, List.length_nil, nodesKL] at h2 ⊢
        omega
    have h2 := go b.fBlocks (fun _ h => h)
    omega
end Go.Ab.R06

namespace Go.Ab.R06
open Go.Ab Go.Ab.RB Go.Lib

theorem fl1_ev {b : TBody} (d : Nat) (hd : d ≤ 1000) (hb : b.fAttrs.length ≤ 1000) (ha : ∀ a ∈ b.fAttrs, identB a.fName = true ∧ GoodE a.fExpr ∧ nodesE a.fExpr ≤ 300) :
    ∀ (k i : Nat) (f : Bytes), i + k = b.fAttrs.length → f.length + 70000 * ((b.fAttrs.drop i).length + nodesA (b.fAttrs.drop i)) ≤ 90000000 →
    Ev2 (fun n m => format_write_l1 n b (blank d) m (i : Int) f) (· = f ++ (b.fAttrs.drop i).flatMap (attrT d)) := by
  intro k
  induction k with
  | zero =>
    intro i f hi hf
    refine ev_round ?_
    simp only [format_write_l1]
    refine ev_ifF (by omega) (ev_some ?_)
    rw [List.drop_eq_nil_of_le (by omega)]; simp
  | succ k ih =>
    intro i f hi hf
    have hm : lat b.fAttrs (i : Int) ∈ b.fAttrs := lat_mem (by omega)
    obtain ⟨h1, h2, h3⟩ := ha _ hm
    obtain ⟨e1, _, e3⟩ := both_ev h2 h3
    have h5 := ident_len h1
    have h7 := blank_len d
    rw [drop_lat b.fAttrs (i := i) (by omega)] at hf ⊢
    simp only [nodesA, List.length_cons, List.flatMap_cons] at hf ⊢
    refine ev_round ?_
    simp only [format_write_l1]
    refine ev_ifT (by omega) (ev_ck (by omega) (ev_ck (by omega) (ev_ck (by simp only [List.length_append, List.length_cons, List.length_nil]; omega) (ev_to _ e1 ?_))))
    refine ev_ck (by simp only [List.length_append, List.length_cons, List.length_nil]; omega) (ev_ck (by simp only [List.length_append, List.length_cons, List.length_nil]; omega) ?_)
    refine ev_to _ (ev_const (wstr f _ (by simp only [List.length_append, List.length_cons, List.length_nil]; omega)) rfl) (ev_ck (inR_of (by omega) (by omega)) ?_)
    refine ev_mono (nat_succ (P := fun j => Ev2 (fun n m => format_write_l1 n b (blank d) m j (f ++ attrT d (lat b.fAttrs (i : Int)))) _) (ih (i + 1) _ (by omega) (by simp only [attrT, List.length_append, List.length_cons, List.length_nil]; omega))) (fun r hr => ?_)
    rw [hr, List.append_assoc]
theorem fl3_ev {b : TBody} (t : Nat) {ls : List Bytes} (ht : (lat b.fBlocks (t : Int)).fLabels = ls) (hn : ls.length ≤ 1000) (hs : ∀ s ∈ ls, s.length ≤ 4096) :
    ∀ (k i : Nat) (f : Bytes), i + k = ls.length → f.length + 70000 * (ls.drop i).length ≤ 90000000 → Ev2 (fun n m => format_write_l3 n b (t : Int) m (i : Int) f) (· = f ++ labT (ls.drop i)) := by
  intro k
  induction k with
  | zero =>
    intro i f hi hf
    refine ev_round ?_
    simp only [format_write_l3, ht]
    refine ev_ifF (by omega) (ev_some ?_)
    rw [List.drop_eq_nil_of_le (by omega)]; simp [labT]
  | succ k ih =>
    intro i f hi hf
    have hm : lat ls (i : Int) ∈ ls := lat_mem (by omega)
    have h1 := hs _ hm
    have h3 := flat_len (lat ls (i : Int))
    have h4 : (quoteP (lat ls (i : Int))).length = ((lat ls (i : Int)).flatMap escB).length + 2 := by simp [quoteP]
    rw [drop_lat ls (i := i) (by omega)] at hf ⊢
    simp only [List.length_cons] at hf
    refine ev_round ?_
    simp only [format_write_l3, ht]
    refine ev_ifT (by omega) (ev_ck (by omega) (ev_to _ (quote_ev _ (by omega)) (ev_ck (by simp only [List.length_cons, List.length_nil]; omega) ?_)))
    refine ev_to _ (ev_const (wstr f _ (by simp only [List.length_append, List.length_cons, List.length_nil]; omega)) rfl) (ev_ck (inR_of (by omega) (by omega)) ?_)
    refine ev_mono (nat_succ (P := fun j => Ev2 (fun n m => format_write_l3 n b (t : Int) m j (f ++ ([32] ++ quoteP (lat ls (i : Int))))) _) (ih (i + 1) _ (by omega) (by simp only [List.length_append, List.length_cons, List.length_nil]; omega))) (fun r hr => ?_)
    rw [hr]; simp [labT]
end Go.Ab.R06

namespace Go.Ab.R06
open Go.Ab Go.Ab.RB Go.Lib

theorem write_ev {b : TBody} (hg : GoodB b) : ∀ d, d + nodesB b ≤ 1000 → nodesB b ≤ 300 → ∀ f : Bytes, f.length + 70000 * nodesB b ≤ 90000000 →
    Ev2 (fun n _ => format_write n (TBuilder.mk f) b (blank d)) (· = TBuilder.mk (f ++ bodyT d b)) := by
  induction hg with
  | @mk b attrs blocks inner ih =>
    intro d hd hN f hf
    have hE := nodesB_eq b
    have h7 := blank_len d
    have ha : ∀ a ∈ b.fAttrs, identB a.fName = true ∧ GoodE a.fExpr ∧ nodesE a.fExpr ≤ 300 := fun a ha => ⟨(attrs a ha).1, (attrs a ha).2, by have := nodesA_mem ha; omega⟩
    have hal := attrs_len d (by omega) ha
    have loop : ∀ (k i : Nat) (f : Bytes), i + k = b.fBlocks.length → f.length + 70000 * ((b.fBlocks.drop i).length + nodesKL (b.fBlocks.drop i)) ≤ 90000000 →
        Ev2 (fun n m => format_write_l4 n (format_write n) b (blank d) m (i : Int) f) (· = f ++ (b.fBlocks.drop i).flatMap (blockT d)) := by
      intro k
      induction k with
      | zero =>
        intro i f hi hf
        refine ev_round ?_
        simp only [format_write_l4]
        refine ev_ifF (by omega) (ev_some ?_)
        rw [List.drop_eq_nil_of_le (by omega)]; simp
      | succ k ihk =>
        intro i f hi hf
        have hm : lat b.fBlocks (i : Int) ∈ b.fBlocks := lat_mem (by omega)
        have hn := nodesKL_mem hm
        have hq := nodesK_eq (lat b.fBlocks (i : Int))
        have h5 := ident_len (blocks _ hm).1
        have hls : ∀ s ∈ (lat b.fBlocks (i : Int)).fLabels, s.length ≤ 4096 := fun s hs => ((blocks _ hm).2 s hs).1
        have h6 := labT_len hls
        have hpos := List.length_pos_iff.2 (List.ne_nil_of_mem hm)
        have hbl := bodyT_len (inner _ hm) (d + 1) (by omega) (by omega)
        rw [drop_lat b.fBlocks (i := i) (by omega)] at hf ⊢
        simp only [nodesKL, List.length_cons, List.flatMap_cons] at hf ⊢
        refine ev_round ?_
        simp only [format_write_l4]
        refine ev_ifT (by omega) (ev_ck (by omega) (ev_ck (by omega) ?_))
        refine ev_to _ (ev_const (wstr f _ (by simp only [List.length_append]; omega)) rfl) ?_
        refine ev_to _ (ev_loop (f := fun n m => format_write_l3 n b (i : Int) m 0 (f ++ (blank d ++ (lat b.fBlocks (i : Int)).fType))) (fl3_ev i rfl (by omega) hls (lat b.fBlocks (i : Int)).fLabels.length 0 _ (by omega) (by simp only [List.drop_zero, List.length_append]; omega))) ?_
        simp only [List.drop_zero]
        refine ev_to _ (ev_const (wstr _ _ (by simp only [List.length_append, List.length_cons, List.length_nil]; omega)) rfl) (ev_ck (by simp only [List.length_cons, List.length_nil]; omega) ?_)
        simp only [← blank_succ]
        refine ev_to _ (ih _ hm (d + 1) (by omega) (by omega) _ (by simp only [List.length_append, List.length_cons, List.length_nil]; omega)) (ev_ck (by simp only [List.length_cons, List.length_nil]; omega) ?_)
        refine ev_to _ (ev_const (wstr _ _ (by simp only [List.length_append, List.length_cons, List.length_nil]; omega)) rfl) (ev_ck (inR_of (by omega) (by omega)) ?_)
        refine ev_mono (nat_succ (P := fun j => Ev2 (fun n m => format_write_l4 n (format_write n) b (blank d) m j _) _) (ihk (i + 1) _ (by omega) (by simp only [List.length_append, List.length_cons, List.length_nil]; omega))) (fun r hr => ?_)
        rw [hr, blockT_eq]; simp
    refine ev_succ ?_
    simp only [format_write]
    refine ev_to _ (ev_loop (f := fun n m => format_write_l1 n b (blank d) m 0 f) (fl1_ev d (by omega) (by omega) ha b.fAttrs.length 0 f (by omega) (by simp only [List.drop_zero]; omega))) ?_
    simp only [List.drop_zero]
    refine ev_to _ (ev_loop (f := fun n m => format_write_l4 n (format_write n) b (blank d) m 0 (f ++ b.fAttrs.flatMap (attrT d))) (loop b.fBlocks.length 0 _ (by omega) (by simp only [List.drop_zero, List.length_append]; omega))) (ev_some ?_)
    rw [bodyT_eq]; simp
theorem body_ev {b : TBody} (hg : GoodB b) (hN : nodesB b ≤ 300) : Ev2 (fun n _ => format_Body n b) (· = bodyT 0 b) := by
  simp only [format_Body]
  have hl := bodyT_len hg 0 (by omega) hN
  refine ev_to _ (write_ev hg 0 (by omega) hN [] (by simp only [List.length_nil]; omega)) ?_
  simp only [List.nil_append]
  exact ev_to _ (ev_const (bstr _ (by omega)) rfl) (ev_some rfl)
end Go.Ab.R06

namespace Go.Ab.R06
open Go.Ab Go.Ab.RB Go.Lib

theorem blanks_ev (d : Nat) (hd : d ≤ 1000) : Ev2 (fun n _ => ref16_blanks n (d : Int)) (· = blank d) := by
  simp only [ref16_blanks]
  have loop : ∀ (k i : Nat), i + k = d → Ev2 (fun _ m => ref16_blanks_l1 (d : Int) m (blank i) (i : Int)) (· = blank d) := by
    intro k
    induction k with
    | zero =>
      intro i hi
      obtain rfl : i = d := by omega
      refine ev_round ?_
      simp only [ref16_blanks_l1]
      exact ev_ifF (by omega) (ev_some rfl)
    | succ k ih =>
      intro i hi
      have h7 := blank_len i
      refine ev_round ?_
      simp only [ref16_blanks_l1]
      refine ev_ifT (by omega) (ev_ck (by simp only [List.length_cons, List.length_nil]; omega) (ev_ck (inR_of (by omega) (by omega)) ?_))
      simp only [← blank_succ]
      exact nat_succ (P := fun j => Ev2 (fun _ m => ref16_blanks_l1 (d : Int) m (blank (i + 1)) j) _) (ih (i + 1) (by omega))
  exact ev_to _ (ev_loop (f := fun _ m => ref16_blanks_l1 (d : Int) m [] 0) (loop d 0 (by omega))) (ev_some rfl)
theorem rl1_ev {b : TBody} (d : Nat) (hd : d ≤ 1000) (hb : b.fAttrs.length ≤ 1000) (ha : ∀ a ∈ b.fAttrs, identB a.fName = true ∧ GoodE a.fExpr ∧ nodesE a.fExpr ≤ 300) :
    ∀ (k i : Nat) (f : Bytes), i + k = b.fAttrs.length → f.length + 70000 * ((b.fAttrs.drop i).length + nodesA (b.fAttrs.drop i)) ≤ 90000000 →
    Ev2 (fun n m => ref16_body_l1 n b (d : Int) m f (i : Int)) (· = f ++ (b.fAttrs.drop i).flatMap (attrT d)) := by
  intro k
  induction k with
  | zero =>
    intro i f hi hf
    refine ev_round ?_
    simp only [ref16_body_l1]
    refine ev_ifF (by omega) (ev_some ?_)
    rw [List.drop_eq_nil_of_le (by omega)]; simp
  | succ k ih =>
    intro i f hi hf
    have hm : lat b.fAttrs (i : Int) ∈ b.fAttrs := lat_mem (by omega)
    obtain ⟨h1, h2, h3⟩ := ha _ hm
    obtain ⟨_, e1, e3⟩ := both_ev h2 h3
    have h5 := ident_len h1
    have h7 := blank_len d
    rw [drop_lat b.fAttrs (i := i) (by omega)] at hf ⊢
    simp only [nodesA, List.length_cons, List.flatMap_cons] at hf ⊢
    refine ev_round ?_
    simp only [ref16_body_l1]
    refine ev_ifT (by omega) (ev_to _ (blanks_ev d hd) (ev_ck (by omega) (ev_ck (by omega) (ev_ck (by simp only [List.length_append]; omega) (ev_ck (by simp only [List.length_append, List.length_cons, List.length_nil]; omega) (ev_ck (by omega) (ev_to _ e1 ?_)))))))
    refine ev_ck (by simp only [List.length_append, List.length_cons, List.length_nil]; omega) (ev_ck (by simp only [List.length_append, List.length_cons, List.length_nil]; omega) (ev_ck (inR_of (by omega) (by omega)) ?_))
    refine ev_mono (nat_succ (P := fun j => Ev2 (fun n m => ref16_body_l1 n b (d : Int) m _ j) _) (ih (i + 1) _ (by omega) (by simp only [List.length_append, List.length_cons, List.length_nil]; omega))) (fun r hr => ?_)
    rw [hr]; simp [attrT]
theorem rl3_ev {b : TBody} (t : Nat) (htl : t < b.fBlocks.length) {ls : List Bytes} (ht : (lat b.fBlocks (t : Int)).fLabels = ls) (hn : ls.length ≤ 1000) (hs : ∀ s ∈ ls, s.length ≤ 4096) :
    ∀ (k i : Nat) (f : Bytes), i + k = ls.length → f.length + 70000 * (ls.drop i).length ≤ 90000000 → Ev2 (fun n m => ref16_body_l3 n b (t : Int) m f (i : Int)) (· = f ++ labT (ls.drop i)) := by
  intro k
  induction k with
  | zero =>
    intro i f hi hf
    refine ev_round ?_
    simp only [ref16_body_l3, ht]
    refine ev_ck (by omega) (ev_ifF (by omega) (ev_some ?_))
    rw [List.drop_eq_nil_of_le (by omega)]; simp [labT]
  | succ k ih =>
    intro i f hi hf
    have hm : lat ls (i : Int) ∈ ls := lat_mem (by omega)
    have h1 := hs _ hm
    have h3 := flat_len (lat ls (i : Int))
    have h4 : (quoteP (lat ls (i : Int))).length = ((lat ls (i : Int)).flatMap escB).length + 2 := by simp [quoteP]
    rw [drop_lat ls (i := i) (by omega)] at hf ⊢
    simp only [List.length_cons] at hf
    refine ev_round ?_
    simp only [ref16_body_l3, ht]
    refine ev_ck (by omega) (ev_ifT (by omega) (ev_ck (by simp only [List.length_cons, List.length_nil]; omega) (ev_ck (by omega) (ev_ck (by omega) (ev_to _ (rquote_ev _ (by omega)) (ev_ck (by simp only [List.length_append, List.length_cons, List.length_nil]; omega) (ev_ck (inR_of (by omega) (by omega)) ?_)))))))
    refine ev_mono (nat_succ (P := fun j => Ev2 (fun n m => ref16_body_l3 n b (t : Int) m _ j) _) (ih (i + 1) _ (by omega) (by simp only [List.length_append, List.length_cons, List.length_nil]; omega))) (fun r hr => ?_)
    rw [hr]; simp [labT]
end Go.Ab.R06

namespace Go.Ab.R06
open Go.Ab Go.Ab.RB Go.Lib

theorem rbody_ev {b : TBody} (hg : GoodB b) : ∀ d, d + nodesB b ≤ 1000 → nodesB b ≤ 300 → Ev2 (fun n _ => ref16_body n b (d : Int)) (· = bodyT d b) := by
  induction hg with
  | @mk b attrs blocks inner ih =>
    intro d hd hN
    have hE := nodesB_eq b
    have h7 := blank_len d
    have ha : ∀ a ∈ b.fAttrs, identB a.fName = true ∧ GoodE a.fExpr ∧ nodesE a.fExpr ≤ 300 := fun a ha => ⟨(attrs a ha).1, (attrs a ha).2, by have := nodesA_mem ha; omega⟩
    have hal := attrs_len d (by omega) ha
    have loop : ∀ (k i : Nat) (f : Bytes), i + k = b.fBlocks.length → f.length + 70000 * ((b.fBlocks.drop i).length + nodesKL (b.fBlocks.drop i)) ≤ 90000000 →
        Ev2 (fun n m => ref16_body_l4 n (ref16_body n) b (d : Int) m f (i : Int)) (· = f ++ (b.fBlocks.drop i).flatMap (blockT d)) := by
      intro k
      induction k with
      | zero =>
        intro i f hi hf
        refine ev_round ?_
        simp only [ref16_body_l4]
        refine ev_ifF (by omega) (ev_some ?_)
        rw [List.drop_eq_nil_of_le (by omega)]; simp
      | succ k ihk =>
        intro i f hi hf
        have hm : lat b.fBlocks (i : Int) ∈ b.fBlocks := lat_mem (by omega)
        have hn := nodesKL_mem hm
        have hq := nodesK_eq (lat b.fBlocks (i : Int))
        have h5 := ident_len (blocks _ hm).1
        have hls : ∀ s ∈ (lat b.fBlocks (i : Int)).fLabels, s.length ≤ 4096 := fun s hs => ((blocks _ hm).2 s hs).1
        have h6 := labT_len hls
        have hpos := List.length_pos_iff.2 (List.ne_nil_of_mem hm)
        have hbl := bodyT_len (inner _ hm) (d + 1) (by omega) (by omega)
        rw [drop_lat b.fBlocks (i := i) (by omega)] at hf ⊢
        simp only [nodesKL, List.length_cons, List.flatMap_cons] at hf ⊢
        refine ev_round ?_
        simp only [ref16_body_l4]
        refine ev_ifT (by omega) (ev_to _ (blanks_ev d (by omega)) (ev_ck (by omega) (ev_ck (by omega) (ev_ck (by simp only [List.length_append]; omega) ?_))))
        refine ev_to _ (ev_loop (f := fun n m => ref16_body_l3 n b (i : Int) m (f ++ blank d ++ (lat b.fBlocks (i : Int)).fType) 0) (rl3_ev i (by omega) rfl (by omega) hls (lat b.fBlocks (i : Int)).fLabels.length 0 _ (by omega) (by simp only [List.drop_zero, List.length_append]; omega))) ?_
        simp only [List.drop_zero]
        refine ev_ck (by simp only [List.length_append, List.length_cons, List.length_nil]; omega) (ev_ck (by omega) (ev_ck (inR_of (by omega) (by omega)) ?_))
        have e1 : (d : Int) + 1 = ((d + 1 : Nat) : Int) := by omega
        rw [e1]
        refine ev_to _ (ih _ hm (d + 1) (by omega) (by omega)) (ev_ck (by simp only [List.length_append, List.length_cons, List.length_nil]; omega) (ev_to _ (blanks_ev d (by omega)) ?_))
        refine ev_ck (by simp only [List.length_append, List.length_cons, List.length_nil]; omega) (ev_ck (by simp only [List.length_append, List.length_cons, List.length_nil]; omega) (ev_ck (inR_of (by omega) (by omega)) ?_))
        refine ev_mono (nat_succ (P := fun j => Ev2 (fun n m => ref16_body_l4 n (ref16_body n) b (d : Int) m _ j) _) (ihk (i + 1) _ (by omega) (by simp only [List.length_append, List.length_cons, List.length_nil]; omega))) (fun r hr => ?_)
        rw [hr, blockT_eq]; simp
    refine ev_succ ?_
    simp only [ref16_body]
    refine ev_to _ (ev_loop (f := fun n m => ref16_body_l1 n b (d : Int) m [] 0) (rl1_ev d (by omega) (by omega) ha b.fAttrs.length 0 [] (by omega) (by simp only [List.drop_zero, List.length_nil]; omega))) ?_
    simp only [List.drop_zero, List.nil_append]
    refine ev_to _ (ev_loop (f := fun n m => ref16_body_l4 n (ref16_body n) b (d : Int) m (b.fAttrs.flatMap (attrT d)) 0) (loop b.fBlocks.length 0 _ (by omega) (by simp only [List.drop_zero]; omega))) (ev_some ?_)
    rw [bodyT_eq]; simp
end Go.Ab.R06
