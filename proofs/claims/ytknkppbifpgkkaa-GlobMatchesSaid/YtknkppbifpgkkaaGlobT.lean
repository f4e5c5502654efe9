/- Plain: what the printed functions of package glob, of its reference and of its laws compute. -/
import Derived.Test.YtknkppbifpgkkaaGlobR
import Derived.Test.YtknkppbifpgkkaaGlobU
import Derived.Test.YtknkppbifpgkkaaAbS
set_option linter.unusedVariables false
set_option linter.unusedSimpArgs false
set_option linter.unnecessarySimpa false
namespace Go.Ab.Glob
open Go.Ab

/-! ### splits -/
theorem splits_l1_eq (rec : Bytes → Bytes → Option Bool) (s rest : Bytes) (all : Bool) (hs : s.length ≤ 65536)
    (hr : ∀ k, k ≤ s.length → rec rest (s.drop k) = some (splB rest (s.drop k))) : ∀ (m k : Nat), StarI all rest s k → s.length + 1 - k < m →
    (law05_splits_l1 rec s rest all m (k : Int) = some (.inr (starB all rest s))) ∨ (law05_splits_l1 rec s rest all m (k : Int) = some (.inl ()) ∧ starB all rest s = false) := by
  intro m
  induction m with
  | zero => intro k _ h; omega
  | succ m ih =>
    intro k hI hm
    rw [law05_splits_l1]
    by_cases hk : k ≤ s.length
    · rw [if_pos (by omega), ck_pos (by omega), sub_from, Int.toNat_natCast, hr k hk, bd_some]
      cases hb : splB rest (s.drop k)
      · have hnext : ∀ (hd : all = true ∨ (k < s.length → s.getD k 0 ≠ 46)), (law05_splits_l1 rec s rest all m ((k : Int) + 1) = some (.inr (starB all rest s))) ∨ (law05_splits_l1 rec s rest all m ((k : Int) + 1) = some (.inl ()) ∧ starB all rest s = false) := by
          intro hd
          have := ih (k + 1) (star_next hI hk hb hd) (by have := hI.1; omega)
          rwa [Int.natCast_add] at this
        rw [if_neg (by simp)]
        by_cases hlt : k < s.length
        · rw [if_pos (by omega), ck_pos (by omega), byt_nat]
          have h46 : ((s.getD k 0).toNat : Int) = 46 ↔ s.getD k 0 = 46 := byte_eq (s.getD k 0) 46
          by_cases hd : s.getD k 0 = 46
          · rw [if_pos (by rw [hd]; rfl), bd_some]
            cases all with
            | true =>
              rw [if_neg (by simp), ck_pos (inR_of (by omega) (by omega))]
              exact hnext (.inl rfl)
            | false =>
              rw [if_pos (by simp)]
              exact .inl (by rw [star_stop hI hb hlt hd])
          · rw [if_neg (fun h => hd (h46.1 h)), bd_some, if_neg (by simp), ck_pos (inR_of (by omega) (by omega))]
            exact hnext (.inr fun _ => hd)
        · rw [if_neg (by omega), bd_some, if_neg (by simp), ck_pos (inR_of (by omega) (by omega))]
          exact hnext (.inr fun h => absurd h hlt)
      · rw [if_pos rfl]
        exact .inl (by rw [star_yes hI hk hb])
    · rw [if_neg (by omega)]
      exact .inr ⟨rfl, star_end hI hk⟩

open Classical in
theorem splB_of {p s : Bytes} {b : Bool} (h : Spl p s ↔ b = true) : splB p s = b := by
  unfold splB
  rw [Bool.eq_iff_iff, decide_eq_true_iff]; exact h
open Classical in
theorem starB_of {all : Bool} {rest p s : Bytes} (h : Star all rest s ↔ Spl p s) : starB all rest s = splB p s := by
  unfold starB splB
  rw [Bool.eq_iff_iff, decide_eq_true_iff, decide_eq_true_iff]; exact h

theorem splits_eq : ∀ (n : Nat) (p s : Bytes), p.length + s.length + 3 ≤ n → p.length ≤ 65536 → s.length ≤ 65536 → law05_splits n p s = some (splB p s) := by
  intro n
  induction n with
  | zero => intro p s h; omega
  | succ n ih =>
    intro p s hn hp hs
    cases p with
    | nil =>
      rw [law05_splits, if_pos rfl]
      rw [splB_of (b := decide (s = [])) (by simp [spl_nil])]
    | cons c q =>
      simp only [List.length_cons] at hn hp
      have hlen : ((c :: q).length : Int) = (q.length : Int) + 1 := by simp
      have hq : sub (c :: q) 1 ((c :: q).length : Int) = q := by rw [sub_from]; rfl
      have hc0 : byt (c :: q) 0 = (c.toNat : Int) := rfl
      rw [law05_splits, if_neg (by simp), ck_pos (by omega), hc0, hq]
      by_cases hc : c = 42
      · subst hc
        have loop : ∀ (all : Bool) (rest : Bytes), rest.length ≤ q.length → (Star all rest s ↔ Spl (42 :: q) s) →
            (jn (law05_splits_l1 (law05_splits n) s rest all n 0) fun _ => some false) = some (splB (42 :: q) s) := by
          intro all rest hrest hst
          rw [← starB_of hst]
          rcases splits_l1_eq (law05_splits n) s rest all hs (fun k hk => ih rest (s.drop k) (by simp only [List.length_drop]; omega) (by omega) (by simp only [List.length_drop]; omega)) n 0 (starI_zero _ _ _) (by omega) with h | ⟨h, h2⟩
          · have h : law05_splits_l1 (law05_splits n) s rest all n 0 = _ := h
            rw [h, jn_inr]
          · have h : law05_splits_l1 (law05_splits n) s rest all n 0 = _ := h
            rw [h, jn_inl, h2]
        rw [if_pos (show ((42 : UInt8).toNat : Int) = 42 from rfl), ck_pos (by omega)]
        cases q with
        | nil =>
          rw [if_pos rfl, bd_some, if_neg (by simp), bd_some]
          refine loop false [] (Nat.le_refl _) ?_
          rw [spl_one _ _ (by simp)]
          simp [Star]
        | cons d q =>
          have hlen2 : ((d :: q).length : Int) = (q.length : Int) + 1 := by simp
          have hd0 : byt (d :: q) 0 = (d.toNat : Int) := rfl
          rw [if_neg (by simp), ck_pos (by omega), bd_some, hd0]
          by_cases hd : d = 42
          · subst hd
            have hq2 : sub (42 :: q) 1 ((42 :: q).length : Int) = q := by rw [sub_from]; rfl
            rw [if_pos (by simp), ck_pos (by omega), hq2, bd_some]
            refine loop true q (by simp) ?_
            rw [spl_two]
            simp [Star]
          · have hne : ¬ (d.toNat : Int) = 42 := fun h => hd ((byte_eq d 42).1 h)
            rw [if_neg (by simp only [decide_eq_true_iff]; exact hne), bd_some]
            refine loop false (d :: q) (Nat.le_refl _) ?_
            rw [spl_one _ _ (by simp [hd])]
            simp [Star]
      · have hne : ¬ (c.toNat : Int) = 42 := fun h => hc ((byte_eq c 42).1 h)
        rw [if_neg hne]
        cases s with
        | nil =>
          rw [if_pos rfl, bd_some, splB_of (b := false) (by simp [spl_lit hc])]
        | cons d s =>
          have hlen2 : ((d :: s).length : Int) = (s.length : Int) + 1 := by simp
          have hd0 : byt (d :: s) 0 = (d.toNat : Int) := rfl
          have hs2 : sub (d :: s) 1 ((d :: s).length : Int) = s := by rw [sub_from]; rfl
          simp only [List.length_cons] at hs hn
          rw [if_neg (by simp), hd0]
          by_cases hd : d = c
          · subst hd
            rw [if_pos rfl, ck_pos (by omega), ck_pos (by omega), ck_pos (by omega), ck_pos (by omega), hs2, ih q s (by omega) (by omega) (by omega), bd_some, bd_some]
            congr 1
            refine (splB_of (b := splB q s) ?_).symm
            rw [spl_lit hc]
            constructor
            · rintro ⟨s', h1, h2⟩
              injection h1 with _ h1; subst h1
              rw [splB_of (b := true) (by simpa using h2)]
            · intro h; exact ⟨s, rfl, splB_true h⟩
          · rw [if_neg (fun h => hd ((byte_eq d c).1 h)), ck_pos (by omega), ck_pos (by omega), bd_some, splB_of (b := false)]
            rw [spl_lit hc]
            simp only [Bool.false_eq_true, iff_false, not_exists, not_and]
            intro s' h1; injection h1 with h1 _; exact absurd h1 hd

theorem law_splits (p s : Bytes) : law05_GlobSplits 200 p s = some true := by
  unfold law05_GlobSplits
  by_cases hp : 60 < (p.length : Int)
  · rw [if_pos hp, bd_some, if_pos rfl]
  rw [if_neg hp]
  by_cases hs : 40 < (s.length : Int)
  · rw [if_pos hs, bd_some, if_pos rfl]
  rw [if_neg hs, ck_pos (by omega)]
  by_cases hg : 4 < rgN p p.length
  · rw [if_pos hg, bd_some, if_pos rfl]
  rw [if_neg hg, ck_pos (by omega), bd_some]
  by_cases hc : check p = 0
  · rw [if_neg (by simp [hc]), ck_pos (by omega), splits_eq 200 p s (by omega) (by omega) (by omega), bd_some]
    have he : matchL p s = splB p s := by
      rw [splB_of (b := matchL p s)]
      rw [matchL_iff]; simp [hc]
    rw [he, if_pos (by simp), bd_some]
  · rw [if_pos (by simp [hc])]

/-! ### The reference's table -/
theorem getD_set_b (r : List Bool) (n k : Nat) (b : Bool) (hn : n < r.length) : (r.set n b).getD k false = if k = n then b else r.getD k false := by
  rw [List.getD_eq_getElem?_getD, List.getD_eq_getElem?_getD, List.getElem?_set]
  by_cases e : n = k
  · subst e; simp [hn]
  · rw [if_neg e, if_neg (fun h => e h.symm)]

/-- What a step makes of a place. -/
def stp (l : List Bool) (s : Bytes) (b : Int) (any all : Bool) : Nat → Bool
  | 0 => any && l.getD 0 false
  | k + 1 => if any = true then l.getD (k + 1) false || (stp l s b any all k && (all || !decide (((s.getD k 0).toNat : Int) = 46))) else l.getD k false && decide (((s.getD k 0).toNat : Int) = b)

theorem step_l1_eq (l : List Bool) (s : Bytes) (b : Int) (any all : Bool) (hl : l.length = s.length + 1) (hs : s.length ≤ 65536) : ∀ (m i : Nat) (o : List Bool), o.length = l.length → i ≤ l.length → l.length - i < m →
    (∀ k, k < i → o.getD k false = stp l s b any all k) →
    ∃ o', ref05_step_l1 l s b any all m (i : Int) o = some o' ∧ o'.length = l.length ∧ ∀ k, k < l.length → o'.getD k false = stp l s b any all k := by
  intro m
  induction m with
  | zero => intro i o _ _ h; omega
  | succ m ih =>
    intro i o ho hi hm hk
    rw [ref05_step_l1]
    by_cases hlt : i < l.length
    · rw [if_pos (by omega)]
      have next : ∀ v, v = stp l s b any all i → ∃ o', (ck (inR ((i : Int) + 1)) <| ref05_step_l1 l s b any all m ((i : Int) + 1) (o.set (i : Int).toNat v)) = some o' ∧ o'.length = l.length ∧ ∀ k, k < l.length → o'.getD k false = stp l s b any all k := by
        intro v hv
        rw [ck_pos (inR_of (by omega) (by omega)), Int.toNat_natCast]
        have := ih (i + 1) (o.set i v) (by simpa using ho) (by omega) (by omega) (fun k h => by
          rw [getD_set_b _ _ _ _ (by omega)]
          by_cases e : k = i
          · rw [if_pos e, hv, e]
          · rw [if_neg e]; exact hk k (by omega))
        rwa [Int.natCast_add] at this
      have hla : ∀ k : Nat, lat l (k : Int) = l.getD k false := fun k => rfl
      have hlo : ∀ k : Nat, lat o (k : Int) = o.getD k false := fun k => rfl
      cases i with
      | zero =>
        have z : ((0 : Nat) : Int) = 0 := rfl
        cases any with
        | true =>
          rw [if_pos rfl, ck_pos (by omega), hla]
          cases hb : l.getD 0 false
          · rw [if_neg (by simp), if_neg (by omega), ck_pos (by omega), bd_some]
            exact next false (by simp only [stp, hb]; rfl)
          · rw [if_pos rfl, ck_pos (by omega), bd_some]
            exact next true (by simp only [stp, hb]; rfl)
        | false =>
          rw [if_neg (by simp), if_neg (by omega), ck_pos (by omega), bd_some]
          exact next false rfl
      | succ j =>
        have e1 : ((j + 1 : Nat) : Int) - 1 = (j : Int) := by omega
        have hoj := hk j (by omega)
        cases any with
        | true =>
          rw [if_pos rfl, ck_pos (by omega), hla]
          cases hb : l.getD (j + 1) false
          · rw [if_neg (by simp), if_pos (by omega), e1, ck_pos (inR_of (by omega) (by omega)), ck_pos (by omega), hlo, hoj]
            cases hp : stp l s b true all j
            · rw [if_neg (by simp), ck_pos (by omega), bd_some]
              exact next false (by simp only [stp, hb, hp]; rfl)
            · rw [if_pos rfl]
              cases all with
              | true =>
                rw [if_pos rfl, ck_pos (by omega), bd_some]
                exact next true (by simp only [stp, hb, hp]; rfl)
              | false =>
                rw [if_neg (by simp), ck_pos (inR_of (by omega) (by omega)), ck_pos (by omega), ck_pos (by omega), bd_some, byt_nat]
                exact next _ (by simp only [stp, hb, hp]; simp)
          · rw [if_pos rfl, ck_pos (by omega), bd_some]
            exact next true (by simp only [stp, hb]; rfl)
        | false =>
          rw [if_neg (by simp), if_pos (by omega), e1, ck_pos (inR_of (by omega) (by omega)), ck_pos (by omega), hla]
          cases hb : l.getD j false
          · rw [if_neg (by simp), ck_pos (by omega), bd_some]
            exact next false (by simp only [stp, hb]; rfl)
          · rw [if_pos rfl, ck_pos (inR_of (by omega) (by omega)), ck_pos (by omega), ck_pos (by omega), bd_some, byt_nat]
            exact next _ (by simp only [stp, hb]; simp)
    · rw [if_neg (by omega)]
      exact ⟨o, rfl, ho, fun k h => hk k (by omega)⟩

theorem step_eq (n : Nat) (l : List Bool) (s : Bytes) (b : Int) (any all : Bool) (hl : l.length = s.length + 1) (hs : s.length ≤ 65536) (hn : s.length + 2 ≤ n) :
    ∃ o, ref05_step n l s b any all = some o ∧ o.length = l.length ∧ ∀ k, k < l.length → o.getD k false = stp l s b any all k := by
  unfold ref05_step
  rw [ck_pos (by omega)]
  obtain ⟨o, h1, h2, h3⟩ := step_l1_eq l s b any all hl hs n 0 (List.replicate (l.length : Int).toNat false) (by simp) (Nat.zero_le _) (by omega) (fun k h => absurd h (Nat.not_lt_zero k))
  have h1 : ref05_step_l1 l s b any all n 0 (List.replicate (l.length : Int).toNat false) = some o := h1
  rw [h1, bd_some]
  exact ⟨o, rfl, h2, h3⟩

theorem stp_spr (l : List Bool) (s : Bytes) (b : Int) (all : Bool) (hl : l.length = s.length + 1) : ∀ k, k ≤ s.length → (stp l s b true all k = true ↔ (spr s all l s.length).getD k false = true) := by
  intro k
  induction k with
  | zero =>
    intro _
    rw [spr_iff s all l hl _ (Nat.le_refl _), if_pos (Nat.zero_le _)]
    simp only [stp, Bool.true_and]
    constructor
    · intro h; exact ⟨0, Nat.le_refl _, h, .inr fun i h1 h2 => by omega⟩
    · rintro ⟨j, h1, h2, _⟩
      obtain rfl : j = 0 := by omega
      exact h2
  | succ k ih =>
    intro hk
    have ih := ih (by omega)
    rw [spr_iff s all l hl _ (Nat.le_refl _), if_pos (by omega)] at ih
    rw [spr_iff s all l hl _ (Nat.le_refl _), if_pos hk]
    have h46 : (((s.getD k 0).toNat : Int) = 46) ↔ s.getD k 0 = 46 := byte_eq (s.getD k 0) 46
    simp only [stp, if_true, Bool.or_eq_true, Bool.and_eq_true, Bool.not_eq_true', decide_eq_false_iff_not, h46]
    rw [ih]
    constructor
    · rintro (h | ⟨⟨j, h1, h2, h3⟩, h4⟩)
      · exact ⟨k + 1, Nat.le_refl _, h, .inr fun i h1 h2 => by omega⟩
      · refine ⟨j, by omega, h2, ?_⟩
        rcases h4 with h4 | h4
        · exact .inl h4
        · rcases h3 with h3 | h3
          · exact .inl h3
          · refine .inr fun i h5 h6 => ?_
            by_cases e : i = k
            · subst e; exact h4
            · exact h3 i h5 (by omega)
    · rintro ⟨j, h1, h2, h3⟩
      by_cases e : j = k + 1
      · subst e; exact .inl h2
      · refine .inr ⟨⟨j, by omega, h2, ?_⟩, ?_⟩
        · rcases h3 with h3 | h3
          · exact .inl h3
          · exact .inr fun i h5 h6 => h3 i h5 (by omega)
        · rcases h3 with h3 | h3
          · exact .inl h3
          · exact .inr (h3 k (by omega) (by omega))

theorem acc_congr {p s : Bytes} {r r' : List Bool} (h : ∀ k, k ≤ s.length → (r.getD k false = true ↔ r'.getD k false = true)) : Acc p s r ↔ Acc p s r' := by
  constructor
  · rintro ⟨k, h1, h2, h3⟩; exact ⟨k, h1, (h k h1).1 h2, h3⟩
  · rintro ⟨k, h1, h2, h3⟩; exact ⟨k, h1, (h k h1).2 h2, h3⟩

theorem match_l1_eq (n : Nat) (p s : Bytes) (hp : p.length ≤ 65536) (hs : s.length ≤ 65536) (hn : s.length + 2 ≤ n) : ∀ (m i : Nat) (l : List Bool), i ≤ p.length → p.length - i < m → l.length = s.length + 1 →
    ∃ o, ref05_Match_l1 n p s m l (i : Int) = some o ∧ o.length = s.length + 1 ∧ (o.getD s.length false = true ↔ Acc (p.drop i) s l) := by
  intro m
  induction m with
  | zero => intro i l _ h; omega
  | succ m ih =>
    intro i l hi hm hl
    rw [ref05_Match_l1]
    by_cases hlt : i < p.length
    · rw [if_pos (by omega), ck_pos (by omega), byt_nat]
      have hdr := drop_cons p i hlt
      have hst : (((p.getD i 0).toNat : Int) = 42) ↔ p.getD i 0 = 42 := byte_eq (p.getD i 0) 42
      by_cases hc : p.getD i 0 = 42
      · have hc' := hst.2 hc
        rw [if_pos hc', ck_pos (inR_of (by omega) (by omega))]
        -- one or two
        have one : p.getD (i + 1) 0 ≠ 42 ∨ p.length ≤ i + 1 → (p.drop (i + 1)).head? ≠ some 42 := by
          intro h e
          rw [List.head?_drop] at e
          rcases h with h | h
          · rw [List.getD_eq_getElem?_getD, e] at h; exact h rfl
          · rw [List.getElem?_eq_none (by omega)] at e; cases e
        have end1 : (p.drop (i + 1)).head? ≠ some 42 → ∃ o, (((ck ((0 : Int) ≤ (i : Int) ∧ (i : Int) < (p.length : Int)) <|
              (ref05_step n l s ((p.getD i 0).toNat : Int) (decide (((p.getD i 0).toNat : Int) = 42)) false).bind fun r51 =>
              if (false : Bool) = true then ck (inR ((i : Int) + 1)) <| some (r51, (i : Int) + 1) else some (r51, (i : Int)) : Option ((List Bool) × Int)).bind fun q63 =>
              ck (inR (q63.2 + 1)) <| ref05_Match_l1 n p s m q63.1 (q63.2 + 1))) = some o ∧ o.length = s.length + 1 ∧ (o.getD s.length false = true ↔ Acc (p.drop i) s l) := by
          intro hh
          obtain ⟨o, h1, h2, h3⟩ := step_eq n l s ((p.getD i 0).toNat : Int) (decide (((p.getD i 0).toNat : Int) = 42)) false hl hs hn
          rw [ck_pos (by omega), h1, bd_some, if_neg (by simp), bd_some]
          dsimp only
          rw [ck_pos (inR_of (by omega) (by omega))]
          obtain ⟨o', k1, k2, k3⟩ := ih (i + 1) o (by omega) (by omega) (by omega)
          rw [Int.natCast_add] at k1
          refine ⟨o', k1, k2, k3.trans ?_⟩
          rw [hdr, hc, acc_one _ _ _ hl hh]
          refine acc_congr fun k hk => ?_
          rw [h3 k (by omega), decide_eq_true hc']
          exact stp_spr l s _ false hl k hk
        by_cases hlt2 : i + 1 < p.length
        · have c1 : ((i : Int) + 1) = ((i + 1 : Nat) : Int) := by omega
          rw [if_pos (by omega), ck_pos (inR_of (by omega) (by omega)), ck_pos (by omega), bd_some]
          have hst2 : byt p ((i : Int) + 1) = 42 ↔ p.getD (i + 1) 0 = 42 := by rw [c1, byt_nat]; exact byte_eq (p.getD (i + 1) 0) 42
          by_cases hc2 : p.getD (i + 1) 0 = 42
          · rw [decide_eq_true (hst2.2 hc2)]
            obtain ⟨o, h1, h2, h3⟩ := step_eq n l s ((p.getD i 0).toNat : Int) (decide (((p.getD i 0).toNat : Int) = 42)) true hl hs hn
            rw [ck_pos (by omega), h1, bd_some, if_pos rfl, ck_pos (inR_of (by omega) (by omega)), bd_some]
            dsimp only
            rw [ck_pos (inR_of (by omega) (by omega))]
            obtain ⟨o', k1, k2, k3⟩ := ih (i + 2) o (by omega) (by omega) (by omega)
            rw [Int.natCast_add] at k1
            refine ⟨o', ?_, k2, k3.trans ?_⟩
            · rw [show (i : Int) + 1 + 1 = (i : Int) + ((2 : Nat) : Int) by omega]; exact k1
            · rw [hdr, hc, drop_cons p (i + 1) hlt2, hc2, acc_two _ _ _ hl]
              refine acc_congr fun k hk => ?_
              rw [h3 k (by omega), decide_eq_true hc']
              exact stp_spr l s _ true hl k hk
          · rw [decide_eq_false (fun h => hc2 (hst2.1 h))]
            exact end1 (one (.inl hc2))
        · rw [if_neg (by omega), bd_some]
          exact end1 (one (.inr (by omega)))
      · have hc' : ¬ (((p.getD i 0).toNat : Int) = 42) := fun h => hc (hst.1 h)
        rw [if_neg hc', bd_some]
        obtain ⟨o, h1, h2, h3⟩ := step_eq n l s ((p.getD i 0).toNat : Int) (decide (((p.getD i 0).toNat : Int) = 42)) false hl hs hn
        rw [ck_pos (by omega), h1, bd_some, if_neg (by simp), bd_some]
        dsimp only
        rw [ck_pos (inR_of (by omega) (by omega))]
        obtain ⟨o', k1, k2, k3⟩ := ih (i + 1) o (by omega) (by omega) (by omega)
        rw [Int.natCast_add] at k1
        refine ⟨o', k1, k2, k3.trans ?_⟩
        rw [hdr, acc_lit hc _ _ _ hl]
        refine acc_congr fun k hk => ?_
        rw [h3 k (by omega), decide_eq_false hc', nxt_iff s _ l hl _ (Nat.le_refl _)]
        cases k with
        | zero => simp [stp]
        | succ k =>
          simp only [stp, Bool.false_eq_true, if_false, Bool.and_eq_true, decide_eq_true_iff, byte_eq]
          constructor
          · rintro ⟨h4, h5⟩; exact ⟨k, by omega, rfl, h4, h5⟩
          · rintro ⟨j, h4, h5, h6, h7⟩
            obtain rfl : k = j := by omega
            exact ⟨h6, h7⟩
    · rw [if_neg (by omega)]
      obtain rfl : i = p.length := by omega
      refine ⟨l, rfl, hl, ?_⟩
      rw [List.drop_length, acc_nil]

theorem acc_ini (p s : Bytes) : Acc p s (ini s) ↔ Spl p s := by
  have hg : ∀ k, (ini s).getD k false = true ↔ k = 0 := by
    intro k
    unfold ini
    rw [getD_set _ _ _ (by simp)]
    by_cases e : k = 0
    · simp [e]
    · rw [if_neg e, List.getD_eq_getElem?_getD, List.getElem?_replicate]
      split <;> simp [e]
  constructor
  · rintro ⟨k, _, h2, h3⟩
    obtain rfl := (hg k).1 h2
    simpa using h3
  · intro h; exact ⟨0, Nat.zero_le _, (hg 0).2 rfl, by simpa using h⟩

theorem refmatch_eq (n : Nat) (p s : Bytes) (hp : p.length ≤ 65536) (hs : s.length ≤ 65536) (hn : p.length + s.length + 3 ≤ n) : ref05_Match n p s = some (matchL p s) := by
  unfold ref05_Match
  rw [ck_pos hp]
  by_cases hc : rcheck p = 0
  · rw [if_pos hc, ck_pos (inR_of (by omega) (by omega)), ck_pos (by omega)]
    have ht : ((s.length : Int) + 1).toNat = s.length + 1 := by omega
    rw [ht, ck_pos (by simp)]
    obtain ⟨o, h1, h2, h3⟩ := match_l1_eq n p s hp hs (by omega) n 0 (ini s) (Nat.zero_le _) (by omega) (by simp [ini])
    have h1 : ref05_Match_l1 n p s n ((List.replicate (s.length + 1) false).set (0 : Int).toNat true) 0 = some o := h1
    rw [h1, bd_some, ck_pos (by omega)]
    congr 1
    have h4 : lat o (s.length : Int) = o.getD s.length false := rfl
    rw [h4, Bool.eq_iff_iff, h3, List.drop_zero, acc_ini, matchL_iff, check_eq]
    simp [hc]
  · rw [if_neg hc]
    congr 1
    cases hm : matchL p s with
    | false => rfl
    | true =>
      have := ((matchL_iff p s).1 hm).1
      rw [check_eq] at this
      exact absurd this hc

/-! ### Lists of patterns -/
theorem lat_mem (ps : List Bytes) (i : Nat) (h : i < ps.length) : lat ps (i : Int) ∈ ps := by
  rw [lat_nat, List.getD_eq_getElem?_getD, List.getElem?_eq_getElem h]
  exact List.getElem_mem h

theorem any_drop (ps : List Bytes) (s : Bytes) (i : Nat) (h : i < ps.length) : anyL (ps.drop i) s = (matchL (lat ps (i : Int)) s || anyL (ps.drop (i + 1)) s) := by
  have : lat ps (i : Int) = ps[i] := by
    rw [lat_nat, List.getD_eq_getElem?_getD, List.getElem?_eq_getElem h]; rfl
  rw [List.drop_eq_getElem_cons h, this]
  rfl

theorem glob_any_l1 (ps : List Bytes) (s : Bytes) (hl : ps.length ≤ 65536) (hp : ∀ p ∈ ps, p.length ≤ 65536) (hs : s.length ≤ 32768) : ∀ (m i : Nat), i ≤ ps.length → ps.length - i < m →
    glob_Any_l1 ps s m (i : Int) = if anyL (ps.drop i) s = true then some (.inr true) else some (.inl ()) := by
  intro m
  induction m with
  | zero => intro i _ h; omega
  | succ m ih =>
    intro i hi hm
    rw [glob_Any_l1]
    by_cases hlt : i < ps.length
    · rw [if_pos (by omega), ck_pos (by omega), ck_pos ⟨hp _ (lat_mem ps i hlt), hs⟩, any_drop ps s i hlt]
      cases hb : matchL (lat ps (i : Int)) s
      · rw [if_neg (by simp), ck_pos (inR_of (by omega) (by omega))]
        have := ih (i + 1) (by omega) (by omega)
        rw [Int.natCast_add] at this
        rw [show ((1 : Nat) : Int) = 1 from rfl] at this
        rw [this, Bool.false_or]
      · rw [if_pos rfl, Bool.true_or, if_pos rfl]
    · rw [if_neg (by omega)]
      obtain rfl : i = ps.length := by omega
      rw [List.drop_length]; rfl

theorem glob_any_eq (n : Nat) (ps : List Bytes) (s : Bytes) (hl : ps.length ≤ 65536) (hp : ∀ p ∈ ps, p.length ≤ 65536) (hs : s.length ≤ 32768) (hn : ps.length + 1 ≤ n) : glob_Any n ps s = some (anyL ps s) := by
  unfold glob_Any
  have h := glob_any_l1 ps s hl hp hs n 0 (Nat.zero_le _) (by omega)
  have h : glob_Any_l1 ps s n 0 = _ := h
  rw [h, List.drop_zero]
  cases anyL ps s <;> rfl

theorem ref_any_l1 (n : Nat) (ps : List Bytes) (s : Bytes) (hl : ps.length ≤ 65536) (hp : ∀ p ∈ ps, p.length ≤ 1100) (hs : s.length ≤ 300) (hn : 2000 ≤ n) : ∀ (m i : Nat), i ≤ ps.length → ps.length - i < m →
    ref05_Any_l1 n ps s m (i : Int) = if anyL (ps.drop i) s = true then some (.inr true) else some (.inl ()) := by
  intro m
  induction m with
  | zero => intro i _ h; omega
  | succ m ih =>
    intro i hi hm
    rw [ref05_Any_l1]
    by_cases hlt : i < ps.length
    · have hb := hp _ (lat_mem ps i hlt)
      rw [if_pos (by omega), ck_pos (by omega), refmatch_eq n _ s (by omega) (by omega) (by omega), bd_some, any_drop ps s i hlt]
      cases hb : matchL (lat ps (i : Int)) s
      · rw [if_neg (by simp), ck_pos (inR_of (by omega) (by omega))]
        have := ih (i + 1) (by omega) (by omega)
        rw [Int.natCast_add] at this
        rw [show ((1 : Nat) : Int) = 1 from rfl] at this
        rw [this, Bool.false_or]
      · rw [if_pos rfl, Bool.true_or, if_pos rfl]
    · rw [if_neg (by omega)]
      obtain rfl : i = ps.length := by omega
      rw [List.drop_length]; rfl

theorem ref_any_eq (n : Nat) (ps : List Bytes) (s : Bytes) (hl : ps.length ≤ 65536) (hp : ∀ p ∈ ps, p.length ≤ 1100) (hs : s.length ≤ 300) (hn : 2000 ≤ n) (hn2 : ps.length + 1 ≤ n) : ref05_Any n ps s = some (anyL ps s) := by
  unfold ref05_Any
  have h := ref_any_l1 n ps s hl hp hs hn n 0 (Nat.zero_le _) (by omega)
  have h : ref05_Any_l1 n ps s n 0 = _ := h
  rw [h, List.drop_zero]
  cases anyL ps s <;> rfl

theorem law_l1 (n : Nat) (ps : List Bytes) (s : Bytes) (hl : ps.length ≤ 6) (hs : s.length ≤ 300) (hn : 2000 ≤ n) : ∀ (m i : Nat), i ≤ ps.length → ps.length - i < m →
    law05_GlobMatches_l1 n ps s m (i : Int) = some (.inr true) ∨ (law05_GlobMatches_l1 n ps s m (i : Int) = some (.inl ()) ∧ ∀ p ∈ ps.drop i, p.length ≤ 1100) := by
  intro m
  induction m with
  | zero => intro i _ h; omega
  | succ m ih =>
    intro i hi hm
    rw [law05_GlobMatches_l1]
    by_cases hlt : i < ps.length
    · rw [if_pos (by omega)]
      by_cases hb : 1100 < ((lat ps (i : Int)).length : Int)
      · rw [if_pos hb, ck_pos (by omega), bd_some, if_pos rfl, ck_pos (by omega), if_pos hb, bd_some]
        exact .inl rfl
      · rw [if_neg hb, ck_pos (by omega), ck_pos (by omega), ck_pos (by omega), ck_pos (by omega), refmatch_eq n _ s (by omega) (by omega) (by omega), bd_some, bd_some, if_neg (by simp), ck_pos (inR_of (by omega) (by omega))]
        have := ih (i + 1) (by omega) (by omega)
        rw [Int.natCast_add] at this
        rw [show ((1 : Nat) : Int) = 1 from rfl] at this
        rcases this with h | ⟨h, h2⟩
        · exact .inl h
        · refine .inr ⟨h, fun p hp => ?_⟩
          rw [List.drop_eq_getElem_cons hlt] at hp
          rcases List.mem_cons.1 hp with rfl | hp
          · have : lat ps (i : Int) = ps[i] := by
              rw [lat_nat, List.getD_eq_getElem?_getD, List.getElem?_eq_getElem hlt]; rfl
            rw [← this]; omega
          · exact h2 p hp
    · rw [if_neg (by omega)]
      obtain rfl : i = ps.length := by omega
      exact .inr ⟨rfl, by simp⟩

theorem law_matches (ps : List Bytes) (s : Bytes) : law05_GlobMatches 3000 ps s = some true := by
  unfold law05_GlobMatches
  by_cases hp : 6 < (ps.length : Int)
  · rw [if_pos hp, bd_some, if_pos rfl]
  rw [if_neg hp, bd_some]
  by_cases hs : 300 < (s.length : Int)
  · rw [if_pos (by simpa using hs)]
  rw [if_neg (by simpa using hs)]
  rcases law_l1 3000 ps s (by omega) (by omega) (by omega) 3000 0 (Nat.zero_le _) (by omega) with h | ⟨h, h2⟩
  · have h : law05_GlobMatches_l1 3000 ps s 3000 0 = _ := h
    rw [h, jn_inr]
  · have h : law05_GlobMatches_l1 3000 ps s 3000 0 = _ := h
    rw [List.drop_zero] at h2
    rw [h, jn_inl, glob_any_eq 3000 ps s (by omega) (fun p hp => Nat.le_trans (h2 p hp) (by omega)) (by omega) (by omega), bd_some,
      ref_any_eq 3000 ps s (by omega) h2 (by omega) (by omega) (by omega), bd_some, if_pos (by simp), bd_some]

open Go.Proofs in
theorem splits_row (p s : Bytes) : PCalls Try.prog 5 [eS p, eS s] (· = .p (.val (.bool true))) := law05_GlobSplits_ok 200 p s true (law_splits p s)
open Go.Proofs in
theorem matches_row (ps : List Bytes) (s : Bytes) : PCalls Try.prog 4 [eL eS ps, eS s] (· = .p (.val (.bool true))) := law05_GlobMatches_ok 3000 ps s true (law_matches ps s)

end Go.Ab.Glob
