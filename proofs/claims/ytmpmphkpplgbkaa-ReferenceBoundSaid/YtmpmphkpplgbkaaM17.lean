/- More fuel, the same answer: what the examples reach. -/
import Derived.Test.YtmpmphkpplgbkaaR17t
import Derived.Test.YtmpmphkpplgbkaaAbLe
set_option linter.unusedVariables false
set_option linter.unusedSimpArgs false
set_option linter.unnecessarySimpa false
namespace Go.Ab.R17
open Go.Ab

theorem rev_l1_le : ∀ (m m' : Nat), m ≤ m' → ∀ (i j : Int) (l : List TExpr), Le (rev_l1 m i j l) (rev_l1 m' i j l) := by
 intro m
 induction m with
 | zero => intro m' _ i j l; exact le_none _
 | succ m ih =>
 intro m' hm i j l
 cases m' with
 | zero => omega
 | succ m' =>
 simp only [rev_l1]
 repeat' (with_reducible (first | exact le_refl _ | apply ih | refine le_ck ?_ | refine le_ite ?_ ?_ | omega))
theorem reverse_E_le {n n' : Nat} (hn : n ≤ n') {l : List TExpr} : Le (reverse_E n l) (reverse_E n' l) := by
 simp only [reverse_E]
 exact le_ck (rev_l1_le _ _ hn _ _ _)
theorem reference_chain_l1_le : ∀ (m m' : Nat), m ≤ m' → ∀ y0 y1 y2 y3 y4 y5 y6 y7 y8 y9 y10 y11, Le (reference_chain_l1 m y0 y1 y2 y3 y4 y5 y6 y7 y8 y9 y10 y11) (reference_chain_l1 m' y0 y1 y2 y3 y4 y5 y6 y7 y8 y9 y10 y11) := by
 intro m
 induction m with
 | zero => intro m' _ y0 y1 y2 y3 y4 y5 y6 y7 y8 y9 y10 y11; exact le_none _
 | succ m ih =>
 intro m' hm y0 y1 y2 y3 y4 y5 y6 y7 y8 y9 y10 y11
 cases m' with
 | zero => omega
 | succ m' =>
 simp only [reference_chain_l1]
 repeat' (with_reducible (first | exact le_refl _ | apply ih | refine le_ck ?_ | refine le_ite ?_ ?_ | refine le_bind ?_ (fun _ => ?_) | omega))
theorem reference_chain_le {n n' : Nat} (hn : n ≤ n') {e : TExpr} : Le (reference_chain n e) (reference_chain n' e) := by
 simp only [reference_chain]
 exact le_bind (reference_chain_l1_le _ _ hn _ _ _ _ _ _ _ _ _ _ _ _) fun _ => le_bind (reverse_E_le hn) fun _ => le_refl _


theorem slices_IndexFunc_api_Expr_api_Expr_l1_le {s_0 : List TExpr} {f_1 f_1' : TExpr → Option Bool} (h_f_1 : ∀ x0, Le (f_1 x0) (f_1' x0)) : ∀ (m m' : Nat), m ≤ m' → ∀ (y0 : Int), Le (slices_IndexFunc_api_Expr_api_Expr_l1 s_0 f_1 m y0) (slices_IndexFunc_api_Expr_api_Expr_l1 s_0 f_1' m' y0) := by
 intro m
 induction m with
 | zero => intro m' _ y0; exact le_none _
 | succ m ih =>
 intro m' hm y0
 cases m' with
 | zero => omega
 | succ m' =>
 simp only [slices_IndexFunc_api_Expr_api_Expr_l1]
 repeat' (with_reducible (first | exact le_refl _ | apply ih | apply h_f_1 | refine le_ck ?_ | refine le_ite ?_ ?_ | refine le_bind ?_ (fun _ => ?_) | refine le_jn ?_ (fun _ => ?_) | omega | intro _))

theorem slices_IndexFunc_api_Expr_api_Expr_le {n n' : Nat} (hn : n ≤ n') {s_0 : List TExpr} {f_1 f_1' : TExpr → Option Bool} (h_f_1 : ∀ x0, Le (f_1 x0) (f_1' x0)) : Le (slices_IndexFunc_api_Expr_api_Expr n s_0 f_1) (slices_IndexFunc_api_Expr_api_Expr n' s_0 f_1') := by
 simp only [slices_IndexFunc_api_Expr_api_Expr]
 repeat' (with_reducible (first | exact le_refl _ | apply h_f_1 | apply slices_IndexFunc_api_Expr_api_Expr_l1_le | refine le_ck ?_ | refine le_ite ?_ ?_ | refine le_bind ?_ (fun _ => ?_) | refine le_jn ?_ (fun _ => ?_) | omega | intro _))

theorem slices_ContainsFunc_api_Expr_api_Expr_le {n n' : Nat} (hn : n ≤ n') {s_0 : List TExpr} {f_1 f_1' : TExpr → Option Bool} (h_f_1 : ∀ x0, Le (f_1 x0) (f_1' x0)) : Le (slices_ContainsFunc_api_Expr_api_Expr n s_0 f_1) (slices_ContainsFunc_api_Expr_api_Expr n' s_0 f_1') := by
 simp only [slices_ContainsFunc_api_Expr_api_Expr]
 repeat' (with_reducible (first | exact le_refl _ | apply h_f_1 | apply slices_IndexFunc_api_Expr_api_Expr_le | refine le_ck ?_ | refine le_ite ?_ ?_ | refine le_bind ?_ (fun _ => ?_) | refine le_jn ?_ (fun _ => ?_) | omega | intro _))

theorem reference_Parse_le {n n' : Nat} (hn : n ≤ n') {e_0 : TExpr} : Le (reference_Parse n e_0) (reference_Parse n' e_0) := by
 simp only [reference_Parse]
 repeat' (with_reducible (first | exact le_refl _ | apply reference_chain_le | apply slices_ContainsFunc_api_Expr_api_Expr_le | refine le_ck ?_ | refine le_ite ?_ ?_ | refine le_bind ?_ (fun _ => ?_) | refine le_jn ?_ (fun _ => ?_) | omega | intro _))

theorem slices_Index_string_string_l1_le {s_0 : List Bytes} {v_1 : Bytes} : ∀ (m m' : Nat), m ≤ m' → ∀ (y0 : Int), Le (slices_Index_string_string_l1 s_0 v_1 m y0) (slices_Index_string_string_l1 s_0 v_1 m' y0) := by
 intro m
 induction m with
 | zero => intro m' _ y0; exact le_none _
 | succ m ih =>
 intro m' hm y0
 cases m' with
 | zero => omega
 | succ m' =>
 simp only [slices_Index_string_string_l1]
 repeat' (with_reducible (first | exact le_refl _ | apply ih | refine le_ck ?_ | refine le_ite ?_ ?_ | refine le_bind ?_ (fun _ => ?_) | refine le_jn ?_ (fun _ => ?_) | omega | intro _))

theorem slices_Index_string_string_le {n n' : Nat} (hn : n ≤ n') {s_0 : List Bytes} {v_1 : Bytes} : Le (slices_Index_string_string n s_0 v_1) (slices_Index_string_string n' s_0 v_1) := by
 simp only [slices_Index_string_string]
 repeat' (with_reducible (first | exact le_refl _ | apply slices_Index_string_string_l1_le | refine le_ck ?_ | refine le_ite ?_ ?_ | refine le_bind ?_ (fun _ => ?_) | refine le_jn ?_ (fun _ => ?_) | omega | intro _))

theorem slices_Contains_string_string_le {n n' : Nat} (hn : n ≤ n') {s_0 : List Bytes} {v_1 : Bytes} : Le (slices_Contains_string_string n s_0 v_1) (slices_Contains_string_string n' s_0 v_1) := by
 simp only [slices_Contains_string_string]
 repeat' (with_reducible (first | exact le_refl _ | apply slices_Index_string_string_le | refine le_ck ?_ | refine le_ite ?_ ?_ | refine le_bind ?_ (fun _ => ?_) | refine le_jn ?_ (fun _ => ?_) | omega | intro _))

theorem slices_IndexFunc_api_Ref_api_Ref_l1_le {s_0 : List TRef} {f_1 f_1' : TRef → Option Bool} (h_f_1 : ∀ x0, Le (f_1 x0) (f_1' x0)) : ∀ (m m' : Nat), m ≤ m' → ∀ (y0 : Int), Le (slices_IndexFunc_api_Ref_api_Ref_l1 s_0 f_1 m y0) (slices_IndexFunc_api_Ref_api_Ref_l1 s_0 f_1' m' y0) := by
 intro m
 induction m with
 | zero => intro m' _ y0; exact le_none _
 | succ m ih =>
 intro m' hm y0
 cases m' with
 | zero => omega
 | succ m' =>
 simp only [slices_IndexFunc_api_Ref_api_Ref_l1]
 repeat' (with_reducible (first | exact le_refl _ | apply ih | apply h_f_1 | refine le_ck ?_ | refine le_ite ?_ ?_ | refine le_bind ?_ (fun _ => ?_) | refine le_jn ?_ (fun _ => ?_) | omega | intro _))

theorem slices_IndexFunc_api_Ref_api_Ref_le {n n' : Nat} (hn : n ≤ n') {s_0 : List TRef} {f_1 f_1' : TRef → Option Bool} (h_f_1 : ∀ x0, Le (f_1 x0) (f_1' x0)) : Le (slices_IndexFunc_api_Ref_api_Ref n s_0 f_1) (slices_IndexFunc_api_Ref_api_Ref n' s_0 f_1') := by
 simp only [slices_IndexFunc_api_Ref_api_Ref]
 repeat' (with_reducible (first | exact le_refl _ | apply h_f_1 | apply slices_IndexFunc_api_Ref_api_Ref_l1_le | refine le_ck ?_ | refine le_ite ?_ ?_ | refine le_bind ?_ (fun _ => ?_) | refine le_jn ?_ (fun _ => ?_) | omega | intro _))

theorem slices_ContainsFunc_api_Ref_api_Ref_le {n n' : Nat} (hn : n ≤ n') {s_0 : List TRef} {f_1 f_1' : TRef → Option Bool} (h_f_1 : ∀ x0, Le (f_1 x0) (f_1' x0)) : Le (slices_ContainsFunc_api_Ref_api_Ref n s_0 f_1) (slices_ContainsFunc_api_Ref_api_Ref n' s_0 f_1') := by
 simp only [slices_ContainsFunc_api_Ref_api_Ref]
 repeat' (with_reducible (first | exact le_refl _ | apply h_f_1 | apply slices_IndexFunc_api_Ref_api_Ref_le | refine le_ck ?_ | refine le_ite ?_ ?_ | refine le_bind ?_ (fun _ => ?_) | refine le_jn ?_ (fun _ => ?_) | omega | intro _))

theorem reference_finder_add_le {n n' : Nat} (hn : n ≤ n') {f_0 : Tfinder} {r_1 : TRef} : Le (reference_finder_add n f_0 r_1) (reference_finder_add n' f_0 r_1) := by
 simp only [reference_finder_add]
 repeat' (with_reducible (first | exact le_refl _ | apply slices_ContainsFunc_api_Ref_api_Ref_le | refine le_ck ?_ | refine le_ite ?_ ?_ | refine le_bind ?_ (fun _ => ?_) | refine le_jn ?_ (fun _ => ?_) | omega | intro _))

theorem reference_finder_expr_l1_le {r_reference_finder_expr r_reference_finder_expr' : Tfinder → TExpr → (List Bytes) → Option Tfinder} (h_reference_finder_expr : ∀ x0 x1 x2, Le (r_reference_finder_expr x0 x1 x2) (r_reference_finder_expr' x0 x1 x2)) {e_1 : TExpr} {bound_2 : List Bytes} {inner15 : List Bytes} : ∀ (m m' : Nat), m ≤ m' → ∀ (y0 : Int) (y1 : List TRef), Le (reference_finder_expr_l1 r_reference_finder_expr e_1 bound_2 inner15 m y0 y1) (reference_finder_expr_l1 r_reference_finder_expr' e_1 bound_2 inner15 m' y0 y1) := by
 intro m
 induction m with
 | zero => intro m' _ y0 y1; exact le_none _
 | succ m ih =>
 intro m' hm y0 y1
 cases m' with
 | zero => omega
 | succ m' =>
 simp only [reference_finder_expr_l1]
 repeat' (with_reducible (first | exact le_refl _ | apply ih | apply h_reference_finder_expr | refine le_ck ?_ | refine le_ite ?_ ?_ | refine le_bind ?_ (fun _ => ?_) | refine le_jn ?_ (fun _ => ?_) | omega | intro _))

theorem reference_finder_expr_l2_le {r_reference_finder_expr r_reference_finder_expr' : Tfinder → TExpr → (List Bytes) → Option Tfinder} (h_reference_finder_expr : ∀ x0 x1 x2, Le (r_reference_finder_expr x0 x1 x2) (r_reference_finder_expr' x0 x1 x2)) {e_1 : TExpr} {bound_2 : List Bytes} : ∀ (m m' : Nat), m ≤ m' → ∀ (y0 : Int) (y1 : List TRef), Le (reference_finder_expr_l2 r_reference_finder_expr e_1 bound_2 m y0 y1) (reference_finder_expr_l2 r_reference_finder_expr' e_1 bound_2 m' y0 y1) := by
 intro m
 induction m with
 | zero => intro m' _ y0 y1; exact le_none _
 | succ m ih =>
 intro m' hm y0 y1
 cases m' with
 | zero => omega
 | succ m' =>
 simp only [reference_finder_expr_l2]
 repeat' (with_reducible (first | exact le_refl _ | apply ih | apply h_reference_finder_expr | refine le_ck ?_ | refine le_ite ?_ ?_ | refine le_bind ?_ (fun _ => ?_) | refine le_jn ?_ (fun _ => ?_) | omega | intro _))

theorem reference_finder_chain_l1_le {r_reference_finder_expr r_reference_finder_expr' : Tfinder → TExpr → (List Bytes) → Option Tfinder} (h_reference_finder_expr : ∀ x0 x1 x2, Le (r_reference_finder_expr x0 x1 x2) (r_reference_finder_expr' x0 x1 x2)) {bound_2 : List Bytes} {r1 : TExpr × (List TExpr)} : ∀ (m m' : Nat), m ≤ m' → ∀ (y0 : Int) (y1 : List TRef), Le (reference_finder_chain_l1 r_reference_finder_expr bound_2 r1 m y0 y1) (reference_finder_chain_l1 r_reference_finder_expr' bound_2 r1 m' y0 y1) := by
 intro m
 induction m with
 | zero => intro m' _ y0 y1; exact le_none _
 | succ m ih =>
 intro m' hm y0 y1
 cases m' with
 | zero => omega
 | succ m' =>
 simp only [reference_finder_chain_l1]
 repeat' (with_reducible (first | exact le_refl _ | apply ih | apply h_reference_finder_expr | refine le_ck ?_ | refine le_ite ?_ ?_ | refine le_bind ?_ (fun _ => ?_) | refine le_jn ?_ (fun _ => ?_) | omega | intro _))

theorem reference_finder_expr_les (n : Nat) : ∀ n' : Nat, n ≤ n' → (∀ (f_0 : Tfinder) (e_1 : TExpr) (bound_2 : List Bytes), Le (reference_finder_expr n f_0 e_1 bound_2) (reference_finder_expr n' f_0 e_1 bound_2)) ∧ (∀ (f_0 : Tfinder) (e_1 : TExpr) (bound_2 : List Bytes), Le (reference_finder_chain n f_0 e_1 bound_2) (reference_finder_chain n' f_0 e_1 bound_2)) := by
 induction n with
 | zero => exact fun n' _ => ⟨(by intro f_0 e_1 bound_2; exact le_none _), (by intro f_0 e_1 bound_2; exact le_none _)⟩
 | succ n ih =>
 intro n' hn
 cases n' with
 | zero => omega
 | succ n' =>
 have hn' : n ≤ n' := by omega
 obtain ⟨ih_reference_finder_expr_le, ih_reference_finder_chain_le⟩ := ih n' hn'
 refine ⟨?_, ?_⟩
 ·intro f_0 e_1 bound_2
  simp only [reference_finder_expr]
  repeat' (with_reducible (first | exact le_refl _ | apply ih_reference_finder_expr_le | apply ih_reference_finder_chain_le | apply reference_finder_expr_l1_le | apply reference_finder_expr_l2_le | refine le_ck ?_ | refine le_ite ?_ ?_ | refine le_bind ?_ (fun _ => ?_) | refine le_jn ?_ (fun _ => ?_) | omega | intro _))
 ·intro f_0 e_1 bound_2
  simp only [reference_finder_chain]
  repeat' (with_reducible (first | exact le_refl _ | apply ih_reference_finder_expr_le | apply ih_reference_finder_chain_le | apply reference_chain_le | apply slices_Contains_string_string_le | apply reference_finder_add_le | apply reference_finder_chain_l1_le | refine le_ck ?_ | refine le_ite ?_ ?_ | refine le_bind ?_ (fun _ => ?_) | refine le_jn ?_ (fun _ => ?_) | omega | intro _))

theorem reference_finder_expr_le {n n' : Nat} (hn : n ≤ n') : ∀ (f_0 : Tfinder) (e_1 : TExpr) (bound_2 : List Bytes), Le (reference_finder_expr n f_0 e_1 bound_2) (reference_finder_expr n' f_0 e_1 bound_2) := (reference_finder_expr_les n n' hn).1

theorem reference_finder_chain_le {n n' : Nat} (hn : n ≤ n') : ∀ (f_0 : Tfinder) (e_1 : TExpr) (bound_2 : List Bytes), Le (reference_finder_chain n f_0 e_1 bound_2) (reference_finder_chain n' f_0 e_1 bound_2) := (reference_finder_expr_les n n' hn).2

theorem reference_Of_le {n n' : Nat} (hn : n ≤ n') {e_0 : TExpr} : Le (reference_Of n e_0) (reference_Of n' e_0) := by
 simp only [reference_Of]
 repeat' (with_reducible (first | exact le_refl _ | apply reference_finder_expr_le | refine le_ck ?_ | refine le_ite ?_ ?_ | refine le_bind ?_ (fun _ => ?_) | refine le_jn ?_ (fun _ => ?_) | omega | intro _))

theorem law17_awake_le {n n' : Nat} (hn : n ≤ n') : Le (law17_awake n) (law17_awake n') := by
 simp only [law17_awake]
 repeat' (with_reducible (first | exact le_refl _ | apply reference_Of_le | apply reference_Parse_le | refine le_ck ?_ | refine le_ite ?_ ?_ | refine le_bind ?_ (fun _ => ?_) | refine le_jn ?_ (fun _ => ?_) | omega | intro _))

end Go.Ab.R17
