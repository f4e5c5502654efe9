/- More fuel, the same answer: what the examples reach. -/
import Derived.Test.YtmdefcidhgbikaaGreatDoorR16e
import Derived.Test.YtmdefcidhgbikaaGreatDoorAbMc
import Derived.Test.YtmdefcidhgbikaaGreatDoorAbEv
set_option linter.unusedVariables false
set_option linter.unusedSimpArgs false
set_option linter.unnecessarySimpa false
namespace Go.Ab.R06
open Go.Ab
theorem strlit_Quote_l1_le {s_0 : Bytes} : ∀ (m m' : Nat), m ≤ m' → ∀ (y0 : Int) (y1 : List UInt8), Le (strlit_Quote_l1 s_0 m y0 y1) (strlit_Quote_l1 s_0 m' y0 y1) := by
 intro m
 induction m with
 | zero => intro m' _ y0 y1; exact le_none _
 | succ m ih =>
 intro m' hm y0 y1
 cases m' with
 | zero => omega
 | succ m' =>
 simp only [strlit_Quote_l1]
 repeat' (with_reducible (first | exact le_refl _ | apply ih | refine le_ck ?_ | refine le_ite ?_ ?_ | refine le_bind ?_ (fun _ => ?_) | refine le_jn ?_ (fun _ => ?_) | omega | intro _))
theorem strlit_Quote_le {n n' : Nat} (hn : n ≤ n') {s_0 : Bytes} : Le (strlit_Quote n s_0) (strlit_Quote n' s_0) := by
 simp only [strlit_Quote]
 repeat' (with_reducible (first | exact le_refl _ | apply strlit_Quote_l1_le | refine le_ck ?_ | refine le_ite ?_ ?_ | refine le_bind ?_ (fun _ => ?_) | refine le_jn ?_ (fun _ => ?_) | omega | intro _))
theorem format_quoted_le {n n' : Nat} (hn : n ≤ n') {s_0 : Bytes} : Le (format_quoted n s_0) (format_quoted n' s_0) := by
 simp only [format_quoted]
 repeat' (with_reducible (first | exact le_refl _ | apply strlit_Quote_le | refine le_ck ?_ | refine le_ite ?_ ?_ | refine le_bind ?_ (fun _ => ?_) | refine le_jn ?_ (fun _ => ?_) | omega | intro _))
theorem format_literal_le {n n' : Nat} (hn : n ≤ n') {v_0 : TValue} : Le (format_literal n v_0) (format_literal n' v_0) := by
 simp only [format_literal]
 repeat' (with_reducible (first | exact le_refl _ | apply format_quoted_le | refine le_ck ?_ | refine le_ite ?_ ?_ | refine le_bind ?_ (fun _ => ?_) | refine le_jn ?_ (fun _ => ?_) | omega | intro _))
theorem format_bare_l1_le {s_0 : Bytes} : ∀ (m m' : Nat), m ≤ m' → ∀ (y0 : Int), Le (format_bare_l1 s_0 m y0) (format_bare_l1 s_0 m' y0) := by
 intro m
 induction m with
 | zero => intro m' _ y0; exact le_none _
 | succ m ih =>
 intro m' hm y0
 cases m' with
 | zero => omega
 | succ m' =>
 simp only [format_bare_l1]
 repeat' (with_reducible (first | exact le_refl _ | apply ih | refine le_ck ?_ | refine le_ite ?_ ?_ | refine le_bind ?_ (fun _ => ?_) | refine le_jn ?_ (fun _ => ?_) | omega | intro _))
theorem format_bare_le {n n' : Nat} (hn : n ≤ n') {s_0 : Bytes} : Le (format_bare n s_0) (format_bare n' s_0) := by
 simp only [format_bare]
 repeat' (with_reducible (first | exact le_refl _ | apply format_bare_l1_le | refine le_ck ?_ | refine le_ite ?_ ?_ | refine le_bind ?_ (fun _ => ?_) | refine le_jn ?_ (fun _ => ?_) | omega | intro _))
theorem format_template_l1_le {n n' : Nat} (hn : n ≤ n') {r_format_Expr r_format_Expr' : TExpr → Option Bytes} (h_format_Expr : ∀ x0, Le (r_format_Expr x0) (r_format_Expr' x0)) {l_0 : List TExpr} : ∀ (m m' : Nat), m ≤ m' → ∀ (y0 : Bool) (y1 : Int) (y2 : List UInt8), Le (format_template_l1 n r_format_Expr l_0 m y0 y1 y2) (format_template_l1 n' r_format_Expr' l_0 m' y0 y1 y2) := by
 intro m
 induction m with
 | zero => intro m' _ y0 y1 y2; exact le_none _
 | succ m ih =>
 intro m' hm y0 y1 y2
 cases m' with
 | zero => omega
 | succ m' =>
 simp only [format_template_l1]
 repeat' (with_reducible (first | exact le_refl _ | apply ih | apply h_format_Expr | apply format_quoted_le | refine le_ck ?_ | refine le_ite ?_ ?_ | refine le_bind ?_ (fun _ => ?_) | refine le_jn ?_ (fun _ => ?_) | omega | intro _))
theorem format_list_l1_le {r_format_Expr r_format_Expr' : TExpr → Option Bytes} (h_format_Expr : ∀ x0, Le (r_format_Expr x0) (r_format_Expr' x0)) {l_0 : List TExpr} : ∀ (m m' : Nat), m ≤ m' → ∀ (y0 : List Bytes) (y1 : Int), Le (format_list_l1 r_format_Expr l_0 m y0 y1) (format_list_l1 r_format_Expr' l_0 m' y0 y1) := by
 intro m
 induction m with
 | zero => intro m' _ y0 y1; exact le_none _
 | succ m ih =>
 intro m' hm y0 y1
 cases m' with
 | zero => omega
 | succ m' =>
 simp only [format_list_l1]
 repeat' (with_reducible (first | exact le_refl _ | apply ih | apply h_format_Expr | refine le_ck ?_ | refine le_ite ?_ ?_ | refine le_bind ?_ (fun _ => ?_) | refine le_jn ?_ (fun _ => ?_) | omega | intro _))
theorem format_mapping_l1_le {r_format_Expr r_format_Expr' : TExpr → Option Bytes} (h_format_Expr : ∀ x0, Le (r_format_Expr x0) (r_format_Expr' x0)) {r_format_key r_format_key' : TExpr → Option Bytes} (h_format_key : ∀ x0, Le (r_format_key x0) (r_format_key' x0)) {l_0 : List TExpr} : ∀ (m m' : Nat), m ≤ m' → ∀ (y0 : List Bytes) (y1 : Int), Le (format_mapping_l1 r_format_Expr r_format_key l_0 m y0 y1) (format_mapping_l1 r_format_Expr' r_format_key' l_0 m' y0 y1) := by
 intro m
 induction m with
 | zero => intro m' _ y0 y1; exact le_none _
 | succ m ih =>
 intro m' hm y0 y1
 cases m' with
 | zero => omega
 | succ m' =>
 simp only [format_mapping_l1]
 repeat' (with_reducible (first | exact le_refl _ | apply ih | apply h_format_Expr | apply h_format_key | refine le_ck ?_ | refine le_ite ?_ ?_ | refine le_bind ?_ (fun _ => ?_) | refine le_jn ?_ (fun _ => ?_) | omega | intro _))
theorem format_Expr_les (n : Nat) : ∀ n' : Nat, n ≤ n' → (∀ (e_0 : TExpr), Le (format_Expr n e_0) (format_Expr n' e_0)) ∧ (∀ (l_0 : List TExpr), Le (format_template n l_0) (format_template n' l_0)) ∧ (∀ (l_0 : List TExpr), Le (format_list n l_0) (format_list n' l_0)) ∧ (∀ (l_0 : List TExpr), Le (format_mapping n l_0) (format_mapping n' l_0)) ∧ (∀ (e_0 : TExpr) (n_1 : Int), Le (format_at n e_0 n_1) (format_at n' e_0 n_1)) ∧ (∀ (e_0 : TExpr), Le (format_loop n e_0) (format_loop n' e_0)) ∧ (∀ (e_0 : TExpr), Le (format_key n e_0) (format_key n' e_0)) := by
 induction n with
 | zero => exact fun n' _ => ⟨(by intro e_0; exact le_none _), (by intro l_0; exact le_none _), (by intro l_0; exact le_none _), (by intro l_0; exact le_none _), (by intro e_0 n_1; exact le_none _), (by intro e_0; exact le_none _), (by intro e_0; exact le_none _)⟩
 | succ n ih =>
 intro n' hn
 cases n' with
 | zero => omega
 | succ n' =>
 have hn' : n ≤ n' := by omega
 obtain ⟨ih_format_Expr_le, ih_format_template_le, ih_format_list_le, ih_format_mapping_le, ih_format_at_le, ih_format_loop_le, ih_format_key_le⟩ := ih n' hn'
 refine ⟨?_, ?_, ?_, ?_, ?_, ?_, ?_⟩
 ·intro e_0
  simp only [format_Expr]
  repeat' (with_reducible (first | exact le_refl _ | apply ih_format_Expr_le | apply ih_format_template_le | apply ih_format_list_le | apply ih_format_mapping_le | apply ih_format_at_le | apply ih_format_loop_le | apply ih_format_key_le | apply format_literal_le | refine le_ck ?_ | refine le_ite ?_ ?_ | refine le_bind ?_ (fun _ => ?_) | refine le_jn ?_ (fun _ => ?_) | omega | intro _))
 ·intro l_0
  simp only [format_template]
  repeat' (with_reducible (first | exact le_refl _ | apply ih_format_Expr_le | apply ih_format_template_le | apply ih_format_list_le | apply ih_format_mapping_le | apply ih_format_at_le | apply ih_format_loop_le | apply ih_format_key_le | apply format_template_l1_le | refine le_ck ?_ | refine le_ite ?_ ?_ | refine le_bind ?_ (fun _ => ?_) | refine le_jn ?_ (fun _ => ?_) | omega | intro _))
 ·intro l_0
  simp only [format_list]
  repeat' (with_reducible (first | exact le_refl _ | apply ih_format_Expr_le | apply ih_format_template_le | apply ih_format_list_le | apply ih_format_mapping_le | apply ih_format_at_le | apply ih_format_loop_le | apply ih_format_key_le | apply format_list_l1_le | refine le_ck ?_ | refine le_ite ?_ ?_ | refine le_bind ?_ (fun _ => ?_) | refine le_jn ?_ (fun _ => ?_) | omega | intro _))
 ·intro l_0
  simp only [format_mapping]
  repeat' (with_reducible (first | exact le_refl _ | apply ih_format_Expr_le | apply ih_format_template_le | apply ih_format_list_le | apply ih_format_mapping_le | apply ih_format_at_le | apply ih_format_loop_le | apply ih_format_key_le | apply format_mapping_l1_le | refine le_ck ?_ | refine le_ite ?_ ?_ | refine le_bind ?_ (fun _ => ?_) | refine le_jn ?_ (fun _ => ?_) | omega | intro _))
 ·intro e_0 n_1
  simp only [format_at]
  repeat' (with_reducible (first | exact le_refl _ | apply ih_format_Expr_le | apply ih_format_template_le | apply ih_format_list_le | apply ih_format_mapping_le | apply ih_format_at_le | apply ih_format_loop_le | apply ih_format_key_le | refine le_ck ?_ | refine le_ite ?_ ?_ | refine le_bind ?_ (fun _ => ?_) | refine le_jn ?_ (fun _ => ?_) | omega | intro _))
 ·intro e_0
  simp only [format_loop]
  repeat' (with_reducible (first | exact le_refl _ | apply ih_format_Expr_le | apply ih_format_template_le | apply ih_format_list_le | apply ih_format_mapping_le | apply ih_format_at_le | apply ih_format_loop_le | apply ih_format_key_le | refine le_ck ?_ | refine le_ite ?_ ?_ | refine le_bind ?_ (fun _ => ?_) | refine le_jn ?_ (fun _ => ?_) | omega | intro _))
 ·intro e_0
  simp only [format_key]
  repeat' (with_reducible (first | exact le_refl _ | apply ih_format_Expr_le | apply ih_format_template_le | apply ih_format_list_le | apply ih_format_mapping_le | apply ih_format_at_le | apply ih_format_loop_le | apply ih_format_key_le | apply format_bare_le | refine le_ck ?_ | refine le_ite ?_ ?_ | refine le_bind ?_ (fun _ => ?_) | refine le_jn ?_ (fun _ => ?_) | omega | intro _))
theorem format_Expr_le {n n' : Nat} (hn : n ≤ n') : ∀ (e_0 : TExpr), Le (format_Expr n e_0) (format_Expr n' e_0) := (format_Expr_les n n' hn).1
theorem format_write_l1_le {n n' : Nat} (hn : n ≤ n') {b_1 : TBody} {indent_2 : Bytes} : ∀ (m m' : Nat), m ≤ m' → ∀ (y0 : Int) (y1 : List UInt8), Le (format_write_l1 n b_1 indent_2 m y0 y1) (format_write_l1 n' b_1 indent_2 m' y0 y1) := by
 intro m
 induction m with
 | zero => intro m' _ y0 y1; exact le_none _
 | succ m ih =>
 intro m' hm y0 y1
 cases m' with
 | zero => omega
 | succ m' =>
 simp only [format_write_l1]
 repeat' (with_reducible (first | exact le_refl _ | apply ih | apply format_Expr_le | refine le_ck ?_ | refine le_ite ?_ ?_ | refine le_bind ?_ (fun _ => ?_) | refine le_jn ?_ (fun _ => ?_) | omega | intro _))
theorem format_write_l3_le {n n' : Nat} (hn : n ≤ n') {b_1 : TBody} {t69 : Int} : ∀ (m m' : Nat), m ≤ m' → ∀ (y0 : Int) (y1 : List UInt8), Le (format_write_l3 n b_1 t69 m y0 y1) (format_write_l3 n' b_1 t69 m' y0 y1) := by
 intro m
 induction m with
 | zero => intro m' _ y0 y1; exact le_none _
 | succ m ih =>
 intro m' hm y0 y1
 cases m' with
 | zero => omega
 | succ m' =>
 simp only [format_write_l3]
 repeat' (with_reducible (first | exact le_refl _ | apply ih | apply strlit_Quote_le | refine le_ck ?_ | refine le_ite ?_ ?_ | refine le_bind ?_ (fun _ => ?_) | refine le_jn ?_ (fun _ => ?_) | omega | intro _))
theorem format_write_l4_le {n n' : Nat} (hn : n ≤ n') {r_format_write r_format_write' : TBuilder → TBody → Bytes → Option TBuilder} (h_format_write : ∀ x0 x1 x2, Le (r_format_write x0 x1 x2) (r_format_write' x0 x1 x2)) {b_1 : TBody} {indent_2 : Bytes} : ∀ (m m' : Nat), m ≤ m' → ∀ (y0 : Int) (y1 : List UInt8), Le (format_write_l4 n r_format_write b_1 indent_2 m y0 y1) (format_write_l4 n' r_format_write' b_1 indent_2 m' y0 y1) := by
 intro m
 induction m with
 | zero => intro m' _ y0 y1; exact le_none _
 | succ m ih =>
 intro m' hm y0 y1
 cases m' with
 | zero => omega
 | succ m' =>
 simp only [format_write_l4]
 repeat' (with_reducible (first | exact le_refl _ | apply ih | apply h_format_write | apply format_write_l3_le | refine le_ck ?_ | refine le_ite ?_ ?_ | refine le_bind ?_ (fun _ => ?_) | refine le_jn ?_ (fun _ => ?_) | omega | intro _))
theorem format_write_le' (n : Nat) : ∀ n' : Nat, n ≤ n' → (∀ (w_0 : TBuilder) (b_1 : TBody) (indent_2 : Bytes), Le (format_write n w_0 b_1 indent_2) (format_write n' w_0 b_1 indent_2)) := by
 induction n with
 | zero => exact fun n' _ => (by intro w_0 b_1 indent_2; exact le_none _)
 | succ n ih =>
 intro n' hn
 cases n' with
 | zero => omega
 | succ n' =>
 have hn' : n ≤ n' := by omega
 have ih_format_write_le := ih n' hn'
 intro w_0 b_1 indent_2
 simp only [format_write]
 repeat' (with_reducible (first | exact le_refl _ | apply ih_format_write_le | apply format_write_l1_le | apply format_write_l4_le | refine le_ck ?_ | refine le_ite ?_ ?_ | refine le_bind ?_ (fun _ => ?_) | refine le_jn ?_ (fun _ => ?_) | omega | intro _))
theorem format_write_le {n n' : Nat} (hn : n ≤ n') : ∀ (w_0 : TBuilder) (b_1 : TBody) (indent_2 : Bytes), Le (format_write n w_0 b_1 indent_2) (format_write n' w_0 b_1 indent_2) := (format_write_le' n n' hn)
theorem format_Body_le {n n' : Nat} (hn : n ≤ n') {b_0 : TBody} : Le (format_Body n b_0) (format_Body n' b_0) := by
 simp only [format_Body]
 repeat' (with_reducible (first | exact le_refl _ | apply format_write_le | refine le_ck ?_ | refine le_ite ?_ ?_ | refine le_bind ?_ (fun _ => ?_) | refine le_jn ?_ (fun _ => ?_) | omega | intro _))
theorem slices_Equal_string_string_l1_le {s1_0 : List Bytes} {s2_1 : List Bytes} : ∀ (m m' : Nat), m ≤ m' → ∀ (y0 : Int), Le (slices_Equal_string_string_l1 s1_0 s2_1 m y0) (slices_Equal_string_string_l1 s1_0 s2_1 m' y0) := by
 intro m
 induction m with
 | zero => intro m' _ y0; exact le_none _
 | succ m ih =>
 intro m' hm y0
 cases m' with
 | zero => omega
 | succ m' =>
 simp only [slices_Equal_string_string_l1]
 repeat' (with_reducible (first | exact le_refl _ | apply ih | refine le_ck ?_ | refine le_ite ?_ ?_ | refine le_bind ?_ (fun _ => ?_) | refine le_jn ?_ (fun _ => ?_) | omega | intro _))
theorem slices_Equal_string_string_le {n n' : Nat} (hn : n ≤ n') {s1_0 : List Bytes} {s2_1 : List Bytes} : Le (slices_Equal_string_string n s1_0 s2_1) (slices_Equal_string_string n' s1_0 s2_1) := by
 simp only [slices_Equal_string_string]
 repeat' (with_reducible (first | exact le_refl _ | apply slices_Equal_string_string_l1_le | refine le_ck ?_ | refine le_ite ?_ ?_ | refine le_bind ?_ (fun _ => ?_) | refine le_jn ?_ (fun _ => ?_) | omega | intro _))
theorem slices_EqualFunc_api_Value_api_Value_api_Value_api_Value_l1_le {s1_0 : List TValue} {s2_1 : List TValue} {eq_2 eq_2' : TValue → TValue → Option Bool} (h_eq_2 : ∀ x0 x1, Le (eq_2 x0 x1) (eq_2' x0 x1)) : ∀ (m m' : Nat), m ≤ m' → ∀ (y0 : Int), Le (slices_EqualFunc_api_Value_api_Value_api_Value_api_Value_l1 s1_0 s2_1 eq_2 m y0) (slices_EqualFunc_api_Value_api_Value_api_Value_api_Value_l1 s1_0 s2_1 eq_2' m' y0) := by
 intro m
 induction m with
 | zero => intro m' _ y0; exact le_none _
 | succ m ih =>
 intro m' hm y0
 cases m' with
 | zero => omega
 | succ m' =>
 simp only [slices_EqualFunc_api_Value_api_Value_api_Value_api_Value_l1]
 repeat' (with_reducible (first | exact le_refl _ | apply ih | apply h_eq_2 | refine le_ck ?_ | refine le_ite ?_ ?_ | refine le_bind ?_ (fun _ => ?_) | refine le_jn ?_ (fun _ => ?_) | omega | intro _))
theorem slices_EqualFunc_api_Value_api_Value_api_Value_api_Value_le {n n' : Nat} (hn : n ≤ n') {s1_0 : List TValue} {s2_1 : List TValue} {eq_2 eq_2' : TValue → TValue → Option Bool} (h_eq_2 : ∀ x0 x1, Le (eq_2 x0 x1) (eq_2' x0 x1)) : Le (slices_EqualFunc_api_Value_api_Value_api_Value_api_Value n s1_0 s2_1 eq_2) (slices_EqualFunc_api_Value_api_Value_api_Value_api_Value n' s1_0 s2_1 eq_2') := by
 simp only [slices_EqualFunc_api_Value_api_Value_api_Value_api_Value]
 repeat' (with_reducible (first | exact le_refl _ | apply h_eq_2 | apply slices_EqualFunc_api_Value_api_Value_api_Value_api_Value_l1_le | refine le_ck ?_ | refine le_ite ?_ ?_ | refine le_bind ?_ (fun _ => ?_) | refine le_jn ?_ (fun _ => ?_) | omega | intro _))
theorem value_Equal_le' (n : Nat) : ∀ n' : Nat, n ≤ n' → (∀ (a_0 : TValue) (b_1 : TValue), Le (value_Equal n a_0 b_1) (value_Equal n' a_0 b_1)) := by
 induction n with
 | zero => exact fun n' _ => (by intro a_0 b_1; exact le_none _)
 | succ n ih =>
 intro n' hn
 cases n' with
 | zero => omega
 | succ n' =>
 have hn' : n ≤ n' := by omega
 have ih_value_Equal_le := ih n' hn'
 intro a_0 b_1
 simp only [value_Equal]
 repeat' (with_reducible (first | exact le_refl _ | apply ih_value_Equal_le | apply slices_Equal_string_string_le | apply slices_EqualFunc_api_Value_api_Value_api_Value_api_Value_le | refine le_ck ?_ | refine le_ite ?_ ?_ | refine le_bind ?_ (fun _ => ?_) | refine le_jn ?_ (fun _ => ?_) | omega | intro _))
theorem value_Equal_le {n n' : Nat} (hn : n ≤ n') : ∀ (a_0 : TValue) (b_1 : TValue), Le (value_Equal n a_0 b_1) (value_Equal n' a_0 b_1) := (value_Equal_le' n n' hn)
theorem slices_EqualFunc_api_Expr_api_Expr_api_Expr_api_Expr_l1_le {s1_0 : List TExpr} {s2_1 : List TExpr} {eq_2 eq_2' : TExpr → TExpr → Option Bool} (h_eq_2 : ∀ x0 x1, Le (eq_2 x0 x1) (eq_2' x0 x1)) : ∀ (m m' : Nat), m ≤ m' → ∀ (y0 : Int), Le (slices_EqualFunc_api_Expr_api_Expr_api_Expr_api_Expr_l1 s1_0 s2_1 eq_2 m y0) (slices_EqualFunc_api_Expr_api_Expr_api_Expr_api_Expr_l1 s1_0 s2_1 eq_2' m' y0) := by
 intro m
 induction m with
 | zero => intro m' _ y0; exact le_none _
 | succ m ih =>
 intro m' hm y0
 cases m' with
 | zero => omega
 | succ m' =>
 simp only [slices_EqualFunc_api_Expr_api_Expr_api_Expr_api_Expr_l1]
 repeat' (with_reducible (first | exact le_refl _ | apply ih | apply h_eq_2 | refine le_ck ?_ | refine le_ite ?_ ?_ | refine le_bind ?_ (fun _ => ?_) | refine le_jn ?_ (fun _ => ?_) | omega | intro _))
theorem slices_EqualFunc_api_Expr_api_Expr_api_Expr_api_Expr_le {n n' : Nat} (hn : n ≤ n') {s1_0 : List TExpr} {s2_1 : List TExpr} {eq_2 eq_2' : TExpr → TExpr → Option Bool} (h_eq_2 : ∀ x0 x1, Le (eq_2 x0 x1) (eq_2' x0 x1)) : Le (slices_EqualFunc_api_Expr_api_Expr_api_Expr_api_Expr n s1_0 s2_1 eq_2) (slices_EqualFunc_api_Expr_api_Expr_api_Expr_api_Expr n' s1_0 s2_1 eq_2') := by
 simp only [slices_EqualFunc_api_Expr_api_Expr_api_Expr_api_Expr]
 repeat' (with_reducible (first | exact le_refl _ | apply h_eq_2 | apply slices_EqualFunc_api_Expr_api_Expr_api_Expr_api_Expr_l1_le | refine le_ck ?_ | refine le_ite ?_ ?_ | refine le_bind ?_ (fun _ => ?_) | refine le_jn ?_ (fun _ => ?_) | omega | intro _))
theorem format_EqualExpr_le' (n : Nat) : ∀ n' : Nat, n ≤ n' → (∀ (a_0 : TExpr) (b_1 : TExpr), Le (format_EqualExpr n a_0 b_1) (format_EqualExpr n' a_0 b_1)) := by
 induction n with
 | zero => exact fun n' _ => (by intro a_0 b_1; exact le_none _)
 | succ n ih =>
 intro n' hn
 cases n' with
 | zero => omega
 | succ n' =>
 have hn' : n ≤ n' := by omega
 have ih_format_EqualExpr_le := ih n' hn'
 intro a_0 b_1
 simp only [format_EqualExpr]
 repeat' (with_reducible (first | exact le_refl _ | apply ih_format_EqualExpr_le | apply value_Equal_le | apply slices_EqualFunc_api_Expr_api_Expr_api_Expr_api_Expr_le | refine le_ck ?_ | refine le_ite ?_ ?_ | refine le_bind ?_ (fun _ => ?_) | refine le_jn ?_ (fun _ => ?_) | omega | intro _))
theorem format_EqualExpr_le {n n' : Nat} (hn : n ≤ n') : ∀ (a_0 : TExpr) (b_1 : TExpr), Le (format_EqualExpr n a_0 b_1) (format_EqualExpr n' a_0 b_1) := (format_EqualExpr_le' n n' hn)
theorem slices_EqualFunc_api_Attribute_api_Attribute_api_Attribute_api_Attribute_l1_le {s1_0 : List TAttribute} {s2_1 : List TAttribute} {eq_2 eq_2' : TAttribute → TAttribute → Option Bool} (h_eq_2 : ∀ x0 x1, Le (eq_2 x0 x1) (eq_2' x0 x1)) : ∀ (m m' : Nat), m ≤ m' → ∀ (y0 : Int), Le (slices_EqualFunc_api_Attribute_api_Attribute_api_Attribute_api_Attribute_l1 s1_0 s2_1 eq_2 m y0) (slices_EqualFunc_api_Attribute_api_Attribute_api_Attribute_api_Attribute_l1 s1_0 s2_1 eq_2' m' y0) := by
 intro m
 induction m with
 | zero => intro m' _ y0; exact le_none _
 | succ m ih =>
 intro m' hm y0
 cases m' with
 | zero => omega
 | succ m' =>
 simp only [slices_EqualFunc_api_Attribute_api_Attribute_api_Attribute_api_Attribute_l1]
 repeat' (with_reducible (first | exact le_refl _ | apply ih | apply h_eq_2 | refine le_ck ?_ | refine le_ite ?_ ?_ | refine le_bind ?_ (fun _ => ?_) | refine le_jn ?_ (fun _ => ?_) | omega | intro _))
theorem slices_EqualFunc_api_Attribute_api_Attribute_api_Attribute_api_Attribute_le {n n' : Nat} (hn : n ≤ n') {s1_0 : List TAttribute} {s2_1 : List TAttribute} {eq_2 eq_2' : TAttribute → TAttribute → Option Bool} (h_eq_2 : ∀ x0 x1, Le (eq_2 x0 x1) (eq_2' x0 x1)) : Le (slices_EqualFunc_api_Attribute_api_Attribute_api_Attribute_api_Attribute n s1_0 s2_1 eq_2) (slices_EqualFunc_api_Attribute_api_Attribute_api_Attribute_api_Attribute n' s1_0 s2_1 eq_2') := by
 simp only [slices_EqualFunc_api_Attribute_api_Attribute_api_Attribute_api_Attribute]
 repeat' (with_reducible (first | exact le_refl _ | apply h_eq_2 | apply slices_EqualFunc_api_Attribute_api_Attribute_api_Attribute_api_Attribute_l1_le | refine le_ck ?_ | refine le_ite ?_ ?_ | refine le_bind ?_ (fun _ => ?_) | refine le_jn ?_ (fun _ => ?_) | omega | intro _))
theorem format_EqualBody_1_le {n n' : Nat} (hn : n ≤ n') {x_0 : TAttribute} {y_1 : TAttribute} : Le (format_EqualBody_1 n x_0 y_1) (format_EqualBody_1 n' x_0 y_1) := by
 simp only [format_EqualBody_1]
 repeat' (with_reducible (first | exact le_refl _ | apply format_EqualExpr_le | refine le_ck ?_ | refine le_ite ?_ ?_ | refine le_bind ?_ (fun _ => ?_) | refine le_jn ?_ (fun _ => ?_) | omega | intro _))
theorem slices_EqualFunc_api_Block_api_Block_api_Block_api_Block_l1_le {s1_0 : List TBlock} {s2_1 : List TBlock} {eq_2 eq_2' : TBlock → TBlock → Option Bool} (h_eq_2 : ∀ x0 x1, Le (eq_2 x0 x1) (eq_2' x0 x1)) : ∀ (m m' : Nat), m ≤ m' → ∀ (y0 : Int), Le (slices_EqualFunc_api_Block_api_Block_api_Block_api_Block_l1 s1_0 s2_1 eq_2 m y0) (slices_EqualFunc_api_Block_api_Block_api_Block_api_Block_l1 s1_0 s2_1 eq_2' m' y0) := by
 intro m
 induction m with
 | zero => intro m' _ y0; exact le_none _
 | succ m ih =>
 intro m' hm y0
 cases m' with
 | zero => omega
 | succ m' =>
 simp only [slices_EqualFunc_api_Block_api_Block_api_Block_api_Block_l1]
 repeat' (with_reducible (first | exact le_refl _ | apply ih | apply h_eq_2 | refine le_ck ?_ | refine le_ite ?_ ?_ | refine le_bind ?_ (fun _ => ?_) | refine le_jn ?_ (fun _ => ?_) | omega | intro _))
theorem slices_EqualFunc_api_Block_api_Block_api_Block_api_Block_le {n n' : Nat} (hn : n ≤ n') {s1_0 : List TBlock} {s2_1 : List TBlock} {eq_2 eq_2' : TBlock → TBlock → Option Bool} (h_eq_2 : ∀ x0 x1, Le (eq_2 x0 x1) (eq_2' x0 x1)) : Le (slices_EqualFunc_api_Block_api_Block_api_Block_api_Block n s1_0 s2_1 eq_2) (slices_EqualFunc_api_Block_api_Block_api_Block_api_Block n' s1_0 s2_1 eq_2') := by
 simp only [slices_EqualFunc_api_Block_api_Block_api_Block_api_Block]
 repeat' (with_reducible (first | exact le_refl _ | apply h_eq_2 | apply slices_EqualFunc_api_Block_api_Block_api_Block_api_Block_l1_le | refine le_ck ?_ | refine le_ite ?_ ?_ | refine le_bind ?_ (fun _ => ?_) | refine le_jn ?_ (fun _ => ?_) | omega | intro _))
theorem format_EqualBody_les (n : Nat) : ∀ n' : Nat, n ≤ n' → (∀ (a_0 : TBody) (b_1 : TBody), Le (format_EqualBody n a_0 b_1) (format_EqualBody n' a_0 b_1)) ∧ (∀ (x_0 : TBlock) (y_1 : TBlock), Le (format_EqualBody_2 n x_0 y_1) (format_EqualBody_2 n' x_0 y_1)) := by
 induction n with
 | zero => exact fun n' _ => ⟨(by intro a_0 b_1; exact le_none _), (by intro x_0 y_1; exact le_none _)⟩
 | succ n ih =>
 intro n' hn
 cases n' with
 | zero => omega
 | succ n' =>
 have hn' : n ≤ n' := by omega
 obtain ⟨ih_format_EqualBody_le, ih_format_EqualBody_2_le⟩ := ih n' hn'
 refine ⟨?_, ?_⟩
 ·intro a_0 b_1
  simp only [format_EqualBody]
  repeat' (with_reducible (first | exact le_refl _ | apply ih_format_EqualBody_le | apply ih_format_EqualBody_2_le | apply slices_EqualFunc_api_Attribute_api_Attribute_api_Attribute_api_Attribute_le | apply format_EqualBody_1_le | apply slices_EqualFunc_api_Block_api_Block_api_Block_api_Block_le | refine le_ck ?_ | refine le_ite ?_ ?_ | refine le_bind ?_ (fun _ => ?_) | refine le_jn ?_ (fun _ => ?_) | omega | intro _))
 ·intro x_0 y_1
  simp only [format_EqualBody_2]
  repeat' (with_reducible (first | exact le_refl _ | apply ih_format_EqualBody_le | apply ih_format_EqualBody_2_le | apply slices_Equal_string_string_le | refine le_ck ?_ | refine le_ite ?_ ?_ | refine le_bind ?_ (fun _ => ?_) | refine le_jn ?_ (fun _ => ?_) | omega | intro _))
theorem format_EqualBody_le {n n' : Nat} (hn : n ≤ n') : ∀ (a_0 : TBody) (b_1 : TBody), Le (format_EqualBody n a_0 b_1) (format_EqualBody n' a_0 b_1) := (format_EqualBody_les n n' hn).1
theorem law16_awake_le {n n' : Nat} (hn : n ≤ n') : Le (law16_awake n) (law16_awake n') := by
 simp only [law16_awake]
 repeat' (with_reducible (first | exact le_refl _ | apply format_Expr_le | apply format_Body_le | apply format_EqualExpr_le | apply format_EqualBody_le | refine le_ck ?_ | refine le_ite ?_ ?_ | refine le_bind ?_ (fun _ => ?_) | refine le_jn ?_ (fun _ => ?_) | omega | intro _))
open Go.Ab Go.Ab.RB
set_option maxRecDepth 100000 in
theorem awake_some : law16_awake 40 = some true := by decide +kernel
theorem awake_ev : Ev2 (fun n _ => law16_awake n) (· = true) := ev_once 40 awake_some (fun n hn => law16_awake_le hn) rfl
end Go.Ab.R06
