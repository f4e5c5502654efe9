/- More fuel, the same answer: what the examples reach. -/
import Derived.Test.YtapfhipodpbflaaGreatDoorR46e
import Derived.Test.YtapfhipodpbflaaGreatDoorAbMc
import Derived.Test.YtapfhipodpbflaaGreatDoorAbEv
set_option linter.unusedVariables false
set_option linter.unusedSimpArgs false
set_option linter.unnecessarySimpa false
namespace Go.Ab.R06
open Go.Ab


theorem slices_BinarySearch_string_string_l1_le {x_0 : List Bytes} {target_1 : Bytes} : ∀ (m m' : Nat), m ≤ m' → ∀ (y0 : Int) (y1 : Int), Le (slices_BinarySearch_string_string_l1 x_0 target_1 m y0 y1) (slices_BinarySearch_string_string_l1 x_0 target_1 m' y0 y1) := by
 intro m
 induction m with
 | zero => intro m' _ y0 y1; exact le_none _
 | succ m ih =>
 intro m' hm y0 y1
 cases m' with
 | zero => omega
 | succ m' =>
 simp only [slices_BinarySearch_string_string_l1]
 repeat' (with_reducible (first | exact le_refl _ | apply ih | refine le_ck ?_ | refine le_ite ?_ ?_ | refine le_bind ?_ (fun _ => ?_) | refine le_jn ?_ (fun _ => ?_) | omega | intro _))

theorem slices_BinarySearch_string_string_le {n n' : Nat} (hn : n ≤ n') {x_0 : List Bytes} {target_1 : Bytes} : Le (slices_BinarySearch_string_string n x_0 target_1) (slices_BinarySearch_string_string n' x_0 target_1) := by
 simp only [slices_BinarySearch_string_string]
 repeat' (with_reducible (first | exact le_refl _ | apply slices_BinarySearch_string_string_l1_le | refine le_ck ?_ | refine le_ite ?_ ?_ | refine le_bind ?_ (fun _ => ?_) | refine le_jn ?_ (fun _ => ?_) | omega | intro _))

theorem value_copies_l1_le {r_value_copied r_value_copied' : TValue → Option TValue} (h_value_copied : ∀ x0, Le (r_value_copied x0) (r_value_copied' x0)) {l_0 : List TValue} : ∀ (m m' : Nat), m ≤ m' → ∀ (y0 : List TValue) (y1 : Int), Le (value_copies_l1 r_value_copied l_0 m y0 y1) (value_copies_l1 r_value_copied' l_0 m' y0 y1) := by
 intro m
 induction m with
 | zero => intro m' _ y0 y1; exact le_none _
 | succ m ih =>
 intro m' hm y0 y1
 cases m' with
 | zero => omega
 | succ m' =>
 simp only [value_copies_l1]
 repeat' (with_reducible (first | exact le_refl _ | apply ih | apply h_value_copied | refine le_ck ?_ | refine le_ite ?_ ?_ | refine le_bind ?_ (fun _ => ?_) | refine le_jn ?_ (fun _ => ?_) | omega | intro _))

theorem value_copied_les (n : Nat) : ∀ n' : Nat, n ≤ n' → (∀ (v_0 : TValue), Le (value_copied n v_0) (value_copied n' v_0)) ∧ (∀ (l_0 : List TValue), Le (value_copies n l_0) (value_copies n' l_0)) := by
 induction n with
 | zero => exact fun n' _ => ⟨(by intro v_0; exact le_none _), (by intro l_0; exact le_none _)⟩
 | succ n ih =>
 intro n' hn
 cases n' with
 | zero => omega
 | succ n' =>
 have hn' : n ≤ n' := by omega
 obtain ⟨ih_value_copied_le, ih_value_copies_le⟩ := ih n' hn'
 refine ⟨?_, ?_⟩
 ·intro v_0
  simp only [value_copied]
  repeat' (with_reducible (first | exact le_refl _ | apply ih_value_copied_le | apply ih_value_copies_le | refine le_ck ?_ | refine le_ite ?_ ?_ | refine le_bind ?_ (fun _ => ?_) | refine le_jn ?_ (fun _ => ?_) | omega | intro _))
 ·intro l_0
  simp only [value_copies]
  repeat' (with_reducible (first | exact le_refl _ | apply ih_value_copied_le | apply ih_value_copies_le | apply value_copies_l1_le | refine le_ck ?_ | refine le_ite ?_ ?_ | refine le_bind ?_ (fun _ => ?_) | refine le_jn ?_ (fun _ => ?_) | omega | intro _))

theorem value_copied_le {n n' : Nat} (hn : n ≤ n') : ∀ (v_0 : TValue), Le (value_copied n v_0) (value_copied n' v_0) := (value_copied_les n n' hn).1

theorem value_copies_le {n n' : Nat} (hn : n ≤ n') : ∀ (l_0 : List TValue), Le (value_copies n l_0) (value_copies n' l_0) := (value_copied_les n n' hn).2

theorem value_Get_le {n n' : Nat} (hn : n ≤ n') {v_0 : TValue} {key_1 : Bytes} : Le (value_Get n v_0 key_1) (value_Get n' v_0 key_1) := by
 simp only [value_Get]
 repeat' (with_reducible (first | exact le_refl _ | apply slices_BinarySearch_string_string_le | apply value_copied_le | refine le_ck ?_ | refine le_ite ?_ ?_ | refine le_bind ?_ (fun _ => ?_) | refine le_jn ?_ (fun _ => ?_) | omega | intro _))

theorem schema_copied_l1_le {r_schema_copied r_schema_copied' : TValue → Option TValue} (h_schema_copied : ∀ x0, Le (r_schema_copied x0) (r_schema_copied' x0)) : ∀ (m m' : Nat), m ≤ m' → Le (schema_copied_l1 r_schema_copied m ) (schema_copied_l1 r_schema_copied' m' ) := by
 intro m
 induction m with
 | zero => intro m' _ ; exact le_none _
 | succ m ih =>
 intro m' hm 
 cases m' with
 | zero => omega
 | succ m' =>
 simp only [schema_copied_l1]
 repeat' (with_reducible (first | exact le_refl _ | apply ih | apply h_schema_copied | refine le_ck ?_ | refine le_ite ?_ ?_ | refine le_bind ?_ (fun _ => ?_) | refine le_jn ?_ (fun _ => ?_) | omega | intro _))

theorem schema_copied_l2_le {r_schema_copied r_schema_copied' : TValue → Option TValue} (h_schema_copied : ∀ x0, Le (r_schema_copied x0) (r_schema_copied' x0)) {v_0 : TValue} : ∀ (m m' : Nat), m ≤ m' → ∀ (y0 : Int) (y1 : List TValue), Le (schema_copied_l2 r_schema_copied v_0 m y0 y1) (schema_copied_l2 r_schema_copied' v_0 m' y0 y1) := by
 intro m
 induction m with
 | zero => intro m' _ y0 y1; exact le_none _
 | succ m ih =>
 intro m' hm y0 y1
 cases m' with
 | zero => omega
 | succ m' =>
 simp only [schema_copied_l2]
 repeat' (with_reducible (first | exact le_refl _ | apply ih | apply h_schema_copied | refine le_ck ?_ | refine le_ite ?_ ?_ | refine le_bind ?_ (fun _ => ?_) | refine le_jn ?_ (fun _ => ?_) | omega | intro _))

theorem schema_copied_le' (n : Nat) : ∀ n' : Nat, n ≤ n' → (∀ (v_0 : TValue), Le (schema_copied n v_0) (schema_copied n' v_0)) := by
 induction n with
 | zero => exact fun n' _ => (by intro v_0; exact le_none _)
 | succ n ih =>
 intro n' hn
 cases n' with
 | zero => omega
 | succ n' =>
 have hn' : n ≤ n' := by omega
 have ih_schema_copied_le := ih n' hn'
 intro v_0
 simp only [schema_copied]
 repeat' (with_reducible (first | exact le_refl _ | apply ih_schema_copied_le | apply schema_copied_l1_le | apply schema_copied_l2_le | refine le_ck ?_ | refine le_ite ?_ ?_ | refine le_bind ?_ (fun _ => ?_) | refine le_jn ?_ (fun _ => ?_) | omega | intro _))

theorem schema_copied_le {n n' : Nat} (hn : n ≤ n') : ∀ (v_0 : TValue), Le (schema_copied n v_0) (schema_copied n' v_0) := (schema_copied_le' n n' hn)

theorem value_Put_le {n n' : Nat} (hn : n ≤ n') {v_0 : TValue} {key_1 : Bytes} {x_2 : TValue} : Le (value_Put n v_0 key_1 x_2) (value_Put n' v_0 key_1 x_2) := by
 simp only [value_Put]
 repeat' (with_reducible (first | exact le_refl _ | apply value_copied_le | apply slices_BinarySearch_string_string_le | refine le_ck ?_ | refine le_ite ?_ ?_ | refine le_bind ?_ (fun _ => ?_) | refine le_jn ?_ (fun _ => ?_) | omega | intro _))

theorem schema_hidden_l1_le {n n' : Nat} (hn : n ≤ n') {l_1 : List TAttr} : ∀ (m m' : Nat), m ≤ m' → ∀ (y0 : Int) (y1 : Int) (y2 : Int) (y3 : Bytes) (y4 : List TValue) (y5 : List Bytes), Le (schema_hidden_l1 n l_1 m y0 y1 y2 y3 y4 y5) (schema_hidden_l1 n' l_1 m' y0 y1 y2 y3 y4 y5) := by
 intro m
 induction m with
 | zero => intro m' _ y0 y1 y2 y3 y4 y5; exact le_none _
 | succ m ih =>
 intro m' hm y0 y1 y2 y3 y4 y5
 cases m' with
 | zero => omega
 | succ m' =>
 simp only [schema_hidden_l1]
 repeat' (with_reducible (first | exact le_refl _ | apply ih | apply value_Get_le | apply value_Put_le | refine le_ck ?_ | refine le_ite ?_ ?_ | refine le_bind ?_ (fun _ => ?_) | refine le_jn ?_ (fun _ => ?_) | omega | intro _))

theorem schema_hidden_le {n n' : Nat} (hn : n ≤ n') {v_0 : TValue} {l_1 : List TAttr} : Le (schema_hidden n v_0 l_1) (schema_hidden n' v_0 l_1) := by
 simp only [schema_hidden]
 repeat' (with_reducible (first | exact le_refl _ | apply schema_hidden_l1_le | refine le_ck ?_ | refine le_ite ?_ ?_ | refine le_bind ?_ (fun _ => ?_) | refine le_jn ?_ (fun _ => ?_) | omega | intro _))

theorem schema_Mask_l2_le {r52 : TValue × Bool} : ∀ (m m' : Nat), m ≤ m' → ∀ (y0 : Int), Le (schema_Mask_l2 r52 m y0) (schema_Mask_l2 r52 m' y0) := by
 intro m
 induction m with
 | zero => intro m' _ y0; exact le_none _
 | succ m ih =>
 intro m' hm y0
 cases m' with
 | zero => omega
 | succ m' =>
 simp only [schema_Mask_l2]
 repeat' (with_reducible (first | exact le_refl _ | apply ih | refine le_ck ?_ | refine le_ite ?_ ?_ | refine le_bind ?_ (fun _ => ?_) | refine le_jn ?_ (fun _ => ?_) | omega | intro _))

theorem schema_Mask_l3_le {n n' : Nat} (hn : n ≤ n') {s_0 : TSchema} : ∀ (m m' : Nat), m ≤ m' → ∀ (y0 : Int) (y1 : Int) (y2 : Int) (y3 : Bytes) (y4 : List TValue) (y5 : List Bytes), Le (schema_Mask_l3 n s_0 m y0 y1 y2 y3 y4 y5) (schema_Mask_l3 n' s_0 m' y0 y1 y2 y3 y4 y5) := by
 intro m
 induction m with
 | zero => intro m' _ y0 y1 y2 y3 y4 y5; exact le_none _
 | succ m ih =>
 intro m' hm y0 y1 y2 y3 y4 y5
 cases m' with
 | zero => omega
 | succ m' =>
 simp only [schema_Mask_l3]
 repeat' (with_reducible (first | exact le_refl _ | apply ih | apply value_Get_le | apply schema_Mask_l2_le | apply value_Put_le | refine le_ck ?_ | refine le_ite ?_ ?_ | refine le_bind ?_ (fun _ => ?_) | refine le_jn ?_ (fun _ => ?_) | omega | intro _))

theorem schema_Mask_le {n n' : Nat} (hn : n ≤ n') {s_0 : TSchema} {v_1 : TValue} : Le (schema_Mask n s_0 v_1) (schema_Mask n' s_0 v_1) := by
 simp only [schema_Mask]
 repeat' (with_reducible (first | exact le_refl _ | apply schema_copied_le | apply schema_hidden_le | apply schema_Mask_l3_le | refine le_ck ?_ | refine le_ite ?_ ?_ | refine le_bind ?_ (fun _ => ?_) | refine le_jn ?_ (fun _ => ?_) | omega | intro _))

theorem schema_typed_l1_le {r_schema_typed r_schema_typed' : TType → Option TType} (h_schema_typed : ∀ x0, Le (r_schema_typed x0) (r_schema_typed' x0)) : ∀ (m m' : Nat), m ≤ m' → Le (schema_typed_l1 r_schema_typed m ) (schema_typed_l1 r_schema_typed' m' ) := by
 intro m
 induction m with
 | zero => intro m' _ ; exact le_none _
 | succ m ih =>
 intro m' hm 
 cases m' with
 | zero => omega
 | succ m' =>
 simp only [schema_typed_l1]
 repeat' (with_reducible (first | exact le_refl _ | apply ih | apply h_schema_typed | refine le_ck ?_ | refine le_ite ?_ ?_ | refine le_bind ?_ (fun _ => ?_) | refine le_jn ?_ (fun _ => ?_) | omega | intro _))

theorem schema_typed_l2_le {r_schema_typed r_schema_typed' : TType → Option TType} (h_schema_typed : ∀ x0, Le (r_schema_typed x0) (r_schema_typed' x0)) {t_0 : TType} : ∀ (m m' : Nat), m ≤ m' → ∀ (y0 : Int) (y1 : List TType), Le (schema_typed_l2 r_schema_typed t_0 m y0 y1) (schema_typed_l2 r_schema_typed' t_0 m' y0 y1) := by
 intro m
 induction m with
 | zero => intro m' _ y0 y1; exact le_none _
 | succ m ih =>
 intro m' hm y0 y1
 cases m' with
 | zero => omega
 | succ m' =>
 simp only [schema_typed_l2]
 repeat' (with_reducible (first | exact le_refl _ | apply ih | apply h_schema_typed | refine le_ck ?_ | refine le_ite ?_ ?_ | refine le_bind ?_ (fun _ => ?_) | refine le_jn ?_ (fun _ => ?_) | omega | intro _))

theorem schema_typed_le' (n : Nat) : ∀ n' : Nat, n ≤ n' → (∀ (t_0 : TType), Le (schema_typed n t_0) (schema_typed n' t_0)) := by
 induction n with
 | zero => exact fun n' _ => (by intro t_0; exact le_none _)
 | succ n ih =>
 intro n' hn
 cases n' with
 | zero => omega
 | succ n' =>
 have hn' : n ≤ n' := by omega
 have ih_schema_typed_le := ih n' hn'
 intro t_0
 simp only [schema_typed]
 repeat' (with_reducible (first | exact le_refl _ | apply ih_schema_typed_le | apply schema_typed_l1_le | apply schema_typed_l2_le | refine le_ck ?_ | refine le_ite ?_ ?_ | refine le_bind ?_ (fun _ => ?_) | refine le_jn ?_ (fun _ => ?_) | omega | intro _))

theorem schema_typed_le {n n' : Nat} (hn : n ≤ n') : ∀ (t_0 : TType), Le (schema_typed n t_0) (schema_typed n' t_0) := (schema_typed_le' n n' hn)

theorem schema_object_l1_le {n n' : Nat} (hn : n ≤ n') {l_0 : List TAttr} : ∀ (m m' : Nat), m ≤ m' → ∀ (y0 : Int) (y1 : List TType) (y2 : List Bytes), Le (schema_object_l1 n l_0 m y0 y1 y2) (schema_object_l1 n' l_0 m' y0 y1 y2) := by
 intro m
 induction m with
 | zero => intro m' _ y0 y1 y2; exact le_none _
 | succ m ih =>
 intro m' hm y0 y1 y2
 cases m' with
 | zero => omega
 | succ m' =>
 simp only [schema_object_l1]
 repeat' (with_reducible (first | exact le_refl _ | apply ih | apply schema_typed_le | refine le_ck ?_ | refine le_ite ?_ ?_ | refine le_bind ?_ (fun _ => ?_) | refine le_jn ?_ (fun _ => ?_) | omega | intro _))

theorem schema_object_le {n n' : Nat} (hn : n ≤ n') {l_0 : List TAttr} : Le (schema_object n l_0) (schema_object n' l_0) := by
 simp only [schema_object]
 repeat' (with_reducible (first | exact le_refl _ | apply schema_object_l1_le | refine le_ck ?_ | refine le_ite ?_ ?_ | refine le_bind ?_ (fun _ => ?_) | refine le_jn ?_ (fun _ => ?_) | omega | intro _))

theorem schema_Type_l1_le {n n' : Nat} (hn : n ≤ n') {s_0 : TSchema} {r1 : TType} : ∀ (m m' : Nat), m ≤ m' → Le (schema_Type_l1 n s_0 r1 m ) (schema_Type_l1 n' s_0 r1 m' ) := by
 intro m
 induction m with
 | zero => intro m' _ ; exact le_none _
 | succ m ih =>
 intro m' hm 
 cases m' with
 | zero => omega
 | succ m' =>
 simp only [schema_Type_l1]
 repeat' (with_reducible (first | exact le_refl _ | apply ih | apply slices_BinarySearch_string_string_le | refine le_ck ?_ | refine le_ite ?_ ?_ | refine le_bind ?_ (fun _ => ?_) | refine le_jn ?_ (fun _ => ?_) | omega | intro _))

theorem schema_Type_le {n n' : Nat} (hn : n ≤ n') {s_0 : TSchema} : Le (schema_Type n s_0) (schema_Type n' s_0) := by
 simp only [schema_Type]
 repeat' (with_reducible (first | exact le_refl _ | apply schema_object_le | apply schema_Type_l1_le | refine le_ck ?_ | refine le_ite ?_ ?_ | refine le_bind ?_ (fun _ => ?_) | refine le_jn ?_ (fun _ => ?_) | omega | intro _))

theorem strlit_Quote_l1_le {s_0 : Bytes} : ∀ (m m' : Nat), m ≤ m' → ∀ (y0 : Int) (y1 : List UInt8), Le (strlit_Quote_l1 s_0 m y0 y1) (strlit_Quote_l1 s_0 m' y0 y1) := by
 intro m
 induction m with
 | zero => intro m' _ y0 y1; exact le_none _
 | succ m ih =>
 intro m' hm y0 y1
 cases m' with
 | zero => omega
 | succ m' =>
 simp only [strlit_Quote_l1]
 repeat' (with_reducible (first | exact le_refl _ | apply ih | refine le_ck ?_ | refine le_ite ?_ ?_ | refine le_bind ?_ (fun _ => ?_) | refine le_jn ?_ (fun _ => ?_) | omega | intro _))

theorem strlit_Quote_le {n n' : Nat} (hn : n ≤ n') {s_0 : Bytes} : Le (strlit_Quote n s_0) (strlit_Quote n' s_0) := by
 simp only [strlit_Quote]
 repeat' (with_reducible (first | exact le_refl _ | apply strlit_Quote_l1_le | refine le_ck ?_ | refine le_ite ?_ ?_ | refine le_bind ?_ (fun _ => ?_) | refine le_jn ?_ (fun _ => ?_) | omega | intro _))

theorem valuetext_simple_le {n n' : Nat} (hn : n ≤ n') {v_0 : TValue} : Le (valuetext_simple n v_0) (valuetext_simple n' v_0) := by
 simp only [valuetext_simple]
 repeat' (with_reducible (first | exact le_refl _ | apply strlit_Quote_le | refine le_ck ?_ | refine le_ite ?_ ?_ | refine le_bind ?_ (fun _ => ?_) | refine le_jn ?_ (fun _ => ?_) | omega | intro _))

theorem valuetext_label_le {n n' : Nat} (hn : n ≤ n') {v_0 : TValue} {i_1 : Int} : Le (valuetext_label n v_0 i_1) (valuetext_label n' v_0 i_1) := by
 simp only [valuetext_label]
 repeat' (with_reducible (first | exact le_refl _ | apply strlit_Quote_le | refine le_ck ?_ | refine le_ite ?_ ?_ | refine le_bind ?_ (fun _ => ?_) | refine le_jn ?_ (fun _ => ?_) | omega | intro _))

theorem valuetext_write_l1_le {n n' : Nat} (hn : n ≤ n') {r_valuetext_write r_valuetext_write' : TBuilder → TValue → Option TBuilder} (h_valuetext_write : ∀ x0 x1, Le (r_valuetext_write x0 x1) (r_valuetext_write' x0 x1)) {v_1 : TValue} : ∀ (m m' : Nat), m ≤ m' → ∀ (y0 : Int) (y1 : List UInt8), Le (valuetext_write_l1 n r_valuetext_write v_1 m y0 y1) (valuetext_write_l1 n' r_valuetext_write' v_1 m' y0 y1) := by
 intro m
 induction m with
 | zero => intro m' _ y0 y1; exact le_none _
 | succ m ih =>
 intro m' hm y0 y1
 cases m' with
 | zero => omega
 | succ m' =>
 simp only [valuetext_write_l1]
 repeat' (with_reducible (first | exact le_refl _ | apply ih | apply h_valuetext_write | apply valuetext_label_le | refine le_ck ?_ | refine le_ite ?_ ?_ | refine le_bind ?_ (fun _ => ?_) | refine le_jn ?_ (fun _ => ?_) | omega | intro _))

theorem valuetext_write_le' (n : Nat) : ∀ n' : Nat, n ≤ n' → (∀ (b_0 : TBuilder) (v_1 : TValue), Le (valuetext_write n b_0 v_1) (valuetext_write n' b_0 v_1)) := by
 induction n with
 | zero => exact fun n' _ => (by intro b_0 v_1; exact le_none _)
 | succ n ih =>
 intro n' hn
 cases n' with
 | zero => omega
 | succ n' =>
 have hn' : n ≤ n' := by omega
 have ih_valuetext_write_le := ih n' hn'
 intro b_0 v_1
 simp only [valuetext_write]
 repeat' (with_reducible (first | exact le_refl _ | apply ih_valuetext_write_le | apply valuetext_simple_le | apply valuetext_write_l1_le | refine le_ck ?_ | refine le_ite ?_ ?_ | refine le_bind ?_ (fun _ => ?_) | refine le_jn ?_ (fun _ => ?_) | omega | intro _))

theorem valuetext_write_le {n n' : Nat} (hn : n ≤ n') : ∀ (b_0 : TBuilder) (v_1 : TValue), Le (valuetext_write n b_0 v_1) (valuetext_write n' b_0 v_1) := (valuetext_write_le' n n' hn)

theorem valuetext_Format_le {n n' : Nat} (hn : n ≤ n') {v_0 : TValue} : Le (valuetext_Format n v_0) (valuetext_Format n' v_0) := by
 simp only [valuetext_Format]
 repeat' (with_reducible (first | exact le_refl _ | apply valuetext_write_le | refine le_ck ?_ | refine le_ite ?_ ?_ | refine le_bind ?_ (fun _ => ?_) | refine le_jn ?_ (fun _ => ?_) | omega | intro _))

theorem explain_values_l1_le {n n' : Nat} (hn : n ≤ n') {r1 : TValue} {r3 : TType} : ∀ (m m' : Nat), m ≤ m' → ∀ (y0 : List Bytes) (y1 : Int), Le (explain_values_l1 n r1 r3 m y0 y1) (explain_values_l1 n' r1 r3 m' y0 y1) := by
 intro m
 induction m with
 | zero => intro m' _ y0 y1; exact le_none _
 | succ m ih =>
 intro m' hm y0 y1
 cases m' with
 | zero => omega
 | succ m' =>
 simp only [explain_values_l1]
 repeat' (with_reducible (first | exact le_refl _ | apply ih | apply value_Get_le | apply valuetext_Format_le | refine le_ck ?_ | refine le_ite ?_ ?_ | refine le_bind ?_ (fun _ => ?_) | refine le_jn ?_ (fun _ => ?_) | omega | intro _))

theorem explain_values_le {n n' : Nat} (hn : n ≤ n') {s_0 : TSchema} {v_1 : TValue} : Le (explain_values n s_0 v_1) (explain_values n' s_0 v_1) := by
 simp only [explain_values]
 repeat' (with_reducible (first | exact le_refl _ | apply schema_Mask_le | apply schema_Type_le | apply explain_values_l1_le | refine le_ck ?_ | refine le_ite ?_ ?_ | refine le_bind ?_ (fun _ => ?_) | refine le_jn ?_ (fun _ => ?_) | omega | intro _))

theorem schema_names_le {n n' : Nat} (hn : n ≤ n') {s_0 : TSchema} : Le (schema_names n s_0) (schema_names n' s_0) := by
 simp only [schema_names]
 repeat' (with_reducible (first | exact le_refl _ | apply schema_Type_le | refine le_ck ?_ | refine le_ite ?_ ?_ | refine le_bind ?_ (fun _ => ?_) | refine le_jn ?_ (fun _ => ?_) | omega | intro _))

theorem slices_Equal_string_string_l1_le {s1_0 : List Bytes} {s2_1 : List Bytes} : ∀ (m m' : Nat), m ≤ m' → ∀ (y0 : Int), Le (slices_Equal_string_string_l1 s1_0 s2_1 m y0) (slices_Equal_string_string_l1 s1_0 s2_1 m' y0) := by
 intro m
 induction m with
 | zero => intro m' _ y0; exact le_none _
 | succ m ih =>
 intro m' hm y0
 cases m' with
 | zero => omega
 | succ m' =>
 simp only [slices_Equal_string_string_l1]
 repeat' (with_reducible (first | exact le_refl _ | apply ih | refine le_ck ?_ | refine le_ite ?_ ?_ | refine le_bind ?_ (fun _ => ?_) | refine le_jn ?_ (fun _ => ?_) | omega | intro _))

theorem slices_Equal_string_string_le {n n' : Nat} (hn : n ≤ n') {s1_0 : List Bytes} {s2_1 : List Bytes} : Le (slices_Equal_string_string n s1_0 s2_1) (slices_Equal_string_string n' s1_0 s2_1) := by
 simp only [slices_Equal_string_string]
 repeat' (with_reducible (first | exact le_refl _ | apply slices_Equal_string_string_l1_le | refine le_ck ?_ | refine le_ite ?_ ?_ | refine le_bind ?_ (fun _ => ?_) | refine le_jn ?_ (fun _ => ?_) | omega | intro _))

theorem slices_EqualFunc_api_Value_api_Value_api_Value_api_Value_l1_le {s1_0 : List TValue} {s2_1 : List TValue} {eq_2 eq_2' : TValue → TValue → Option Bool} (h_eq_2 : ∀ x0 x1, Le (eq_2 x0 x1) (eq_2' x0 x1)) : ∀ (m m' : Nat), m ≤ m' → ∀ (y0 : Int), Le (slices_EqualFunc_api_Value_api_Value_api_Value_api_Value_l1 s1_0 s2_1 eq_2 m y0) (slices_EqualFunc_api_Value_api_Value_api_Value_api_Value_l1 s1_0 s2_1 eq_2' m' y0) := by
 intro m
 induction m with
 | zero => intro m' _ y0; exact le_none _
 | succ m ih =>
 intro m' hm y0
 cases m' with
 | zero => omega
 | succ m' =>
 simp only [slices_EqualFunc_api_Value_api_Value_api_Value_api_Value_l1]
 repeat' (with_reducible (first | exact le_refl _ | apply ih | apply h_eq_2 | refine le_ck ?_ | refine le_ite ?_ ?_ | refine le_bind ?_ (fun _ => ?_) | refine le_jn ?_ (fun _ => ?_) | omega | intro _))

theorem slices_EqualFunc_api_Value_api_Value_api_Value_api_Value_le {n n' : Nat} (hn : n ≤ n') {s1_0 : List TValue} {s2_1 : List TValue} {eq_2 eq_2' : TValue → TValue → Option Bool} (h_eq_2 : ∀ x0 x1, Le (eq_2 x0 x1) (eq_2' x0 x1)) : Le (slices_EqualFunc_api_Value_api_Value_api_Value_api_Value n s1_0 s2_1 eq_2) (slices_EqualFunc_api_Value_api_Value_api_Value_api_Value n' s1_0 s2_1 eq_2') := by
 simp only [slices_EqualFunc_api_Value_api_Value_api_Value_api_Value]
 repeat' (with_reducible (first | exact le_refl _ | apply h_eq_2 | apply slices_EqualFunc_api_Value_api_Value_api_Value_api_Value_l1_le | refine le_ck ?_ | refine le_ite ?_ ?_ | refine le_bind ?_ (fun _ => ?_) | refine le_jn ?_ (fun _ => ?_) | omega | intro _))

theorem value_Equal_le' (n : Nat) : ∀ n' : Nat, n ≤ n' → (∀ (a_0 : TValue) (b_1 : TValue), Le (value_Equal n a_0 b_1) (value_Equal n' a_0 b_1)) := by
 induction n with
 | zero => exact fun n' _ => (by intro a_0 b_1; exact le_none _)
 | succ n ih =>
 intro n' hn
 cases n' with
 | zero => omega
 | succ n' =>
 have hn' : n ≤ n' := by omega
 have ih_value_Equal_le := ih n' hn'
 intro a_0 b_1
 simp only [value_Equal]
 repeat' (with_reducible (first | exact le_refl _ | apply ih_value_Equal_le | apply slices_Equal_string_string_le | apply slices_EqualFunc_api_Value_api_Value_api_Value_api_Value_le | refine le_ck ?_ | refine le_ite ?_ ?_ | refine le_bind ?_ (fun _ => ?_) | refine le_jn ?_ (fun _ => ?_) | omega | intro _))

theorem value_Equal_le {n n' : Nat} (hn : n ≤ n') : ∀ (a_0 : TValue) (b_1 : TValue), Le (value_Equal n a_0 b_1) (value_Equal n' a_0 b_1) := (value_Equal_le' n n' hn)

theorem slices_IndexFunc_api_Value_api_Value_l1_le {s_0 : List TValue} {f_1 f_1' : TValue → Option Bool} (h_f_1 : ∀ x0, Le (f_1 x0) (f_1' x0)) : ∀ (m m' : Nat), m ≤ m' → ∀ (y0 : Int), Le (slices_IndexFunc_api_Value_api_Value_l1 s_0 f_1 m y0) (slices_IndexFunc_api_Value_api_Value_l1 s_0 f_1' m' y0) := by
 intro m
 induction m with
 | zero => intro m' _ y0; exact le_none _
 | succ m ih =>
 intro m' hm y0
 cases m' with
 | zero => omega
 | succ m' =>
 simp only [slices_IndexFunc_api_Value_api_Value_l1]
 repeat' (with_reducible (first | exact le_refl _ | apply ih | apply h_f_1 | refine le_ck ?_ | refine le_ite ?_ ?_ | refine le_bind ?_ (fun _ => ?_) | refine le_jn ?_ (fun _ => ?_) | omega | intro _))

theorem slices_IndexFunc_api_Value_api_Value_le {n n' : Nat} (hn : n ≤ n') {s_0 : List TValue} {f_1 f_1' : TValue → Option Bool} (h_f_1 : ∀ x0, Le (f_1 x0) (f_1' x0)) : Le (slices_IndexFunc_api_Value_api_Value n s_0 f_1) (slices_IndexFunc_api_Value_api_Value n' s_0 f_1') := by
 simp only [slices_IndexFunc_api_Value_api_Value]
 repeat' (with_reducible (first | exact le_refl _ | apply h_f_1 | apply slices_IndexFunc_api_Value_api_Value_l1_le | refine le_ck ?_ | refine le_ite ?_ ?_ | refine le_bind ?_ (fun _ => ?_) | refine le_jn ?_ (fun _ => ?_) | omega | intro _))

theorem slices_ContainsFunc_api_Value_api_Value_le {n n' : Nat} (hn : n ≤ n') {s_0 : List TValue} {f_1 f_1' : TValue → Option Bool} (h_f_1 : ∀ x0, Le (f_1 x0) (f_1' x0)) : Le (slices_ContainsFunc_api_Value_api_Value n s_0 f_1) (slices_ContainsFunc_api_Value_api_Value n' s_0 f_1') := by
 simp only [slices_ContainsFunc_api_Value_api_Value]
 repeat' (with_reducible (first | exact le_refl _ | apply h_f_1 | apply slices_IndexFunc_api_Value_api_Value_le | refine le_ck ?_ | refine le_ite ?_ ?_ | refine le_bind ?_ (fun _ => ?_) | refine le_jn ?_ (fun _ => ?_) | omega | intro _))

theorem value_Known_les (n : Nat) : ∀ n' : Nat, n ≤ n' → (∀ (v_0 : TValue), Le (value_Known n v_0) (value_Known n' v_0)) ∧ (∀ (x_0 : TValue), Le (value_Known_1 n x_0) (value_Known_1 n' x_0)) := by
 induction n with
 | zero => exact fun n' _ => ⟨(by intro v_0; exact le_none _), (by intro x_0; exact le_none _)⟩
 | succ n ih =>
 intro n' hn
 cases n' with
 | zero => omega
 | succ n' =>
 have hn' : n ≤ n' := by omega
 obtain ⟨ih_value_Known_le, ih_value_Known_1_le⟩ := ih n' hn'
 refine ⟨?_, ?_⟩
 ·intro v_0
  simp only [value_Known]
  repeat' (with_reducible (first | exact le_refl _ | apply ih_value_Known_le | apply ih_value_Known_1_le | apply slices_ContainsFunc_api_Value_api_Value_le | refine le_ck ?_ | refine le_ite ?_ ?_ | refine le_bind ?_ (fun _ => ?_) | refine le_jn ?_ (fun _ => ?_) | omega | intro _))
 ·intro x_0
  simp only [value_Known_1]
  repeat' (with_reducible (first | exact le_refl _ | apply ih_value_Known_le | apply ih_value_Known_1_le | refine le_ck ?_ | refine le_ite ?_ ?_ | refine le_bind ?_ (fun _ => ?_) | refine le_jn ?_ (fun _ => ?_) | omega | intro _))

theorem value_Known_le {n n' : Nat} (hn : n ≤ n') : ∀ (v_0 : TValue), Le (value_Known n v_0) (value_Known n' v_0) := (value_Known_les n n' hn).1

theorem value_Known_1_le {n n' : Nat} (hn : n ≤ n') : ∀ (x_0 : TValue), Le (value_Known_1 n x_0) (value_Known_1 n' x_0) := (value_Known_les n n' hn).2

theorem schema_differ_le {n n' : Nat} (hn : n ≤ n') {a_0 : TValue} {b_1 : TValue} : Le (schema_differ n a_0 b_1) (schema_differ n' a_0 b_1) := by
 simp only [schema_differ]
 repeat' (with_reducible (first | exact le_refl _ | apply value_Equal_le | apply value_Known_le | refine le_ck ?_ | refine le_ite ?_ ?_ | refine le_bind ?_ (fun _ => ?_) | refine le_jn ?_ (fun _ => ?_) | omega | intro _))

theorem schema_get_le {n n' : Nat} (hn : n ≤ n') {v_0 : TValue} {name_1 : Bytes} : Le (schema_get n v_0 name_1) (schema_get n' v_0 name_1) := by
 simp only [schema_get]
 repeat' (with_reducible (first | exact le_refl _ | apply value_Get_le | refine le_ck ?_ | refine le_ite ?_ ?_ | refine le_bind ?_ (fun _ => ?_) | refine le_jn ?_ (fun _ => ?_) | omega | intro _))

theorem schema_Changed_l1_le {n n' : Nat} (hn : n ≤ n') {before_1 : TValue} {after_2 : TValue} {r1 : (List Bytes)} : ∀ (m m' : Nat), m ≤ m' → ∀ (y0 : List Bytes) (y1 : Int), Le (schema_Changed_l1 n before_1 after_2 r1 m y0 y1) (schema_Changed_l1 n' before_1 after_2 r1 m' y0 y1) := by
 intro m
 induction m with
 | zero => intro m' _ y0 y1; exact le_none _
 | succ m ih =>
 intro m' hm y0 y1
 cases m' with
 | zero => omega
 | succ m' =>
 simp only [schema_Changed_l1]
 repeat' (with_reducible (first | exact le_refl _ | apply ih | apply schema_get_le | apply schema_differ_le | refine le_ck ?_ | refine le_ite ?_ ?_ | refine le_bind ?_ (fun _ => ?_) | refine le_jn ?_ (fun _ => ?_) | omega | intro _))

theorem schema_Changed_le {n n' : Nat} (hn : n ≤ n') {s_0 : TSchema} {before_1 : TValue} {after_2 : TValue} : Le (schema_Changed n s_0 before_1 after_2) (schema_Changed n' s_0 before_1 after_2) := by
 simp only [schema_Changed]
 repeat' (with_reducible (first | exact le_refl _ | apply schema_names_le | apply schema_Changed_l1_le | refine le_ck ?_ | refine le_ite ?_ ?_ | refine le_bind ?_ (fun _ => ?_) | refine le_jn ?_ (fun _ => ?_) | omega | intro _))

theorem explain_shown_le {n n' : Nat} (hn : n ≤ n') {v_0 : TValue} {name_1 : Bytes} : Le (explain_shown n v_0 name_1) (explain_shown n' v_0 name_1) := by
 simp only [explain_shown]
 repeat' (with_reducible (first | exact le_refl _ | apply value_Get_le | apply valuetext_Format_le | refine le_ck ?_ | refine le_ite ?_ ?_ | refine le_bind ?_ (fun _ => ?_) | refine le_jn ?_ (fun _ => ?_) | omega | intro _))

theorem slices_Index_string_string_l1_le {s_0 : List Bytes} {v_1 : Bytes} : ∀ (m m' : Nat), m ≤ m' → ∀ (y0 : Int), Le (slices_Index_string_string_l1 s_0 v_1 m y0) (slices_Index_string_string_l1 s_0 v_1 m' y0) := by
 intro m
 induction m with
 | zero => intro m' _ y0; exact le_none _
 | succ m ih =>
 intro m' hm y0
 cases m' with
 | zero => omega
 | succ m' =>
 simp only [slices_Index_string_string_l1]
 repeat' (with_reducible (first | exact le_refl _ | apply ih | refine le_ck ?_ | refine le_ite ?_ ?_ | refine le_bind ?_ (fun _ => ?_) | refine le_jn ?_ (fun _ => ?_) | omega | intro _))

theorem slices_Index_string_string_le {n n' : Nat} (hn : n ≤ n') {s_0 : List Bytes} {v_1 : Bytes} : Le (slices_Index_string_string n s_0 v_1) (slices_Index_string_string n' s_0 v_1) := by
 simp only [slices_Index_string_string]
 repeat' (with_reducible (first | exact le_refl _ | apply slices_Index_string_string_l1_le | refine le_ck ?_ | refine le_ite ?_ ?_ | refine le_bind ?_ (fun _ => ?_) | refine le_jn ?_ (fun _ => ?_) | omega | intro _))

theorem slices_Contains_string_string_le {n n' : Nat} (hn : n ≤ n') {s_0 : List Bytes} {v_1 : Bytes} : Le (slices_Contains_string_string n s_0 v_1) (slices_Contains_string_string n' s_0 v_1) := by
 simp only [slices_Contains_string_string]
 repeat' (with_reducible (first | exact le_refl _ | apply slices_Index_string_string_le | refine le_ck ?_ | refine le_ite ?_ ?_ | refine le_bind ?_ (fun _ => ?_) | refine le_jn ?_ (fun _ => ?_) | omega | intro _))

theorem explain_differences_l1_le {n n' : Nat} (hn : n ≤ n') {replace_3 : List Bytes} {r1 : TValue} {r3 : TValue} {r5 : (List Bytes)} : ∀ (m m' : Nat), m ≤ m' → ∀ (y0 : List Bytes) (y1 : Int), Le (explain_differences_l1 n replace_3 r1 r3 r5 m y0 y1) (explain_differences_l1 n' replace_3 r1 r3 r5 m' y0 y1) := by
 intro m
 induction m with
 | zero => intro m' _ y0 y1; exact le_none _
 | succ m ih =>
 intro m' hm y0 y1
 cases m' with
 | zero => omega
 | succ m' =>
 simp only [explain_differences_l1]
 repeat' (with_reducible (first | exact le_refl _ | apply ih | apply explain_shown_le | apply slices_Contains_string_string_le | refine le_ck ?_ | refine le_ite ?_ ?_ | refine le_bind ?_ (fun _ => ?_) | refine le_jn ?_ (fun _ => ?_) | omega | intro _))

theorem explain_differences_le {n n' : Nat} (hn : n ≤ n') {s_0 : TSchema} {before_1 : TValue} {after_2 : TValue} {replace_3 : List Bytes} : Le (explain_differences n s_0 before_1 after_2 replace_3) (explain_differences n' s_0 before_1 after_2 replace_3) := by
 simp only [explain_differences]
 repeat' (with_reducible (first | exact le_refl _ | apply schema_Mask_le | apply schema_Changed_le | apply explain_differences_l1_le | refine le_ck ?_ | refine le_ite ?_ ?_ | refine le_bind ?_ (fun _ => ?_) | refine le_jn ?_ (fun _ => ?_) | omega | intro _))

theorem explain_Change_le {n n' : Nat} (hn : n ≤ n') {c_0 : TChange} {s_1 : TSchema} : Le (explain_Change n c_0 s_1) (explain_Change n' c_0 s_1) := by
 simp only [explain_Change]
 repeat' (with_reducible (first | exact le_refl _ | apply explain_values_le | apply explain_differences_le | refine le_ck ?_ | refine le_ite ?_ ?_ | refine le_bind ?_ (fun _ => ?_) | refine le_jn ?_ (fun _ => ?_) | omega | intro _))

theorem slices_IndexFunc_api_Change_api_Change_l1_le {s_0 : List TChange} {f_1 f_1' : TChange → Option Bool} (h_f_1 : ∀ x0, Le (f_1 x0) (f_1' x0)) : ∀ (m m' : Nat), m ≤ m' → ∀ (y0 : Int), Le (slices_IndexFunc_api_Change_api_Change_l1 s_0 f_1 m y0) (slices_IndexFunc_api_Change_api_Change_l1 s_0 f_1' m' y0) := by
 intro m
 induction m with
 | zero => intro m' _ y0; exact le_none _
 | succ m ih =>
 intro m' hm y0
 cases m' with
 | zero => omega
 | succ m' =>
 simp only [slices_IndexFunc_api_Change_api_Change_l1]
 repeat' (with_reducible (first | exact le_refl _ | apply ih | apply h_f_1 | refine le_ck ?_ | refine le_ite ?_ ?_ | refine le_bind ?_ (fun _ => ?_) | refine le_jn ?_ (fun _ => ?_) | omega | intro _))

theorem slices_IndexFunc_api_Change_api_Change_le {n n' : Nat} (hn : n ≤ n') {s_0 : List TChange} {f_1 f_1' : TChange → Option Bool} (h_f_1 : ∀ x0, Le (f_1 x0) (f_1' x0)) : Le (slices_IndexFunc_api_Change_api_Change n s_0 f_1) (slices_IndexFunc_api_Change_api_Change n' s_0 f_1') := by
 simp only [slices_IndexFunc_api_Change_api_Change]
 repeat' (with_reducible (first | exact le_refl _ | apply h_f_1 | apply slices_IndexFunc_api_Change_api_Change_l1_le | refine le_ck ?_ | refine le_ite ?_ ?_ | refine le_bind ?_ (fun _ => ?_) | refine le_jn ?_ (fun _ => ?_) | omega | intro _))

theorem slices_ContainsFunc_api_Change_api_Change_le {n n' : Nat} (hn : n ≤ n') {s_0 : List TChange} {f_1 f_1' : TChange → Option Bool} (h_f_1 : ∀ x0, Le (f_1 x0) (f_1' x0)) : Le (slices_ContainsFunc_api_Change_api_Change n s_0 f_1) (slices_ContainsFunc_api_Change_api_Change n' s_0 f_1') := by
 simp only [slices_ContainsFunc_api_Change_api_Change]
 repeat' (with_reducible (first | exact le_refl _ | apply h_f_1 | apply slices_IndexFunc_api_Change_api_Change_le | refine le_ck ?_ | refine le_ite ?_ ?_ | refine le_bind ?_ (fun _ => ?_) | refine le_jn ?_ (fun _ => ?_) | omega | intro _))

theorem diff_Counts_l1_le {l_0 : List TChange} : ∀ (m m' : Nat), m ≤ m' → ∀ (y0 : Int) (y1 : Int) (y2 : Int) (y3 : Int) (y4 : Int), Le (diff_Counts_l1 l_0 m y0 y1 y2 y3 y4) (diff_Counts_l1 l_0 m' y0 y1 y2 y3 y4) := by
 intro m
 induction m with
 | zero => intro m' _ y0 y1 y2 y3 y4; exact le_none _
 | succ m ih =>
 intro m' hm y0 y1 y2 y3 y4
 cases m' with
 | zero => omega
 | succ m' =>
 simp only [diff_Counts_l1]
 repeat' (with_reducible (first | exact le_refl _ | apply ih | refine le_ck ?_ | refine le_ite ?_ ?_ | refine le_bind ?_ (fun _ => ?_) | refine le_jn ?_ (fun _ => ?_) | omega | intro _))

theorem diff_Counts_le {n n' : Nat} (hn : n ≤ n') {l_0 : List TChange} : Le (diff_Counts n l_0) (diff_Counts n' l_0) := by
 simp only [diff_Counts]
 repeat' (with_reducible (first | exact le_refl _ | apply diff_Counts_l1_le | refine le_ck ?_ | refine le_ite ?_ ?_ | refine le_bind ?_ (fun _ => ?_) | refine le_jn ?_ (fun _ => ?_) | omega | intro _))

theorem explain_Summary_l1_le {n n' : Nat} (hn : n ≤ n') {p_0 : TPlan} : ∀ (m m' : Nat), m ≤ m' → ∀ (y0 : Bool) (y1 : Int), Le (explain_Summary_l1 n p_0 m y0 y1) (explain_Summary_l1 n' p_0 m' y0 y1) := by
 intro m
 induction m with
 | zero => intro m' _ y0 y1; exact le_none _
 | succ m ih =>
 intro m' hm y0 y1
 cases m' with
 | zero => omega
 | succ m' =>
 simp only [explain_Summary_l1]
 repeat' (with_reducible (first | exact le_refl _ | apply ih | apply value_Equal_le | refine le_ck ?_ | refine le_ite ?_ ?_ | refine le_bind ?_ (fun _ => ?_) | refine le_jn ?_ (fun _ => ?_) | omega | intro _))

theorem explain_Summary_le {n n' : Nat} (hn : n ≤ n') {p_0 : TPlan} : Le (explain_Summary n p_0) (explain_Summary n' p_0) := by
 simp only [explain_Summary]
 repeat' (with_reducible (first | exact le_refl _ | apply slices_ContainsFunc_api_Change_api_Change_le | apply explain_Summary_l1_le | apply diff_Counts_le | refine le_ck ?_ | refine le_ite ?_ ?_ | refine le_bind ?_ (fun _ => ?_) | refine le_jn ?_ (fun _ => ?_) | omega | intro _))

theorem explain_typed_l1_le {types_0 : List TResourceType} {name_1 : Bytes} : ∀ (m m' : Nat), m ≤ m' → ∀ (y0 : Int), Le (explain_typed_l1 types_0 name_1 m y0) (explain_typed_l1 types_0 name_1 m' y0) := by
 intro m
 induction m with
 | zero => intro m' _ y0; exact le_none _
 | succ m ih =>
 intro m' hm y0
 cases m' with
 | zero => omega
 | succ m' =>
 simp only [explain_typed_l1]
 repeat' (with_reducible (first | exact le_refl _ | apply ih | refine le_ck ?_ | refine le_ite ?_ ?_ | refine le_bind ?_ (fun _ => ?_) | refine le_jn ?_ (fun _ => ?_) | omega | intro _))

theorem explain_typed_le {n n' : Nat} (hn : n ≤ n') {types_0 : List TResourceType} {name_1 : Bytes} : Le (explain_typed n types_0 name_1) (explain_typed n' types_0 name_1) := by
 simp only [explain_typed]
 repeat' (with_reducible (first | exact le_refl _ | apply explain_typed_l1_le | refine le_ck ?_ | refine le_ite ?_ ?_ | refine le_bind ?_ (fun _ => ?_) | refine le_jn ?_ (fun _ => ?_) | omega | intro _))

theorem explain_secret_le {n n' : Nat} (hn : n ≤ n') {v_0 : TValue} {sensitive_1 : Bool} : Le (explain_secret n v_0 sensitive_1) (explain_secret n' v_0 sensitive_1) := by
 simp only [explain_secret]
 repeat' (with_reducible (first | exact le_refl _ | apply valuetext_Format_le | refine le_ck ?_ | refine le_ite ?_ ?_ | refine le_bind ?_ (fun _ => ?_) | refine le_jn ?_ (fun _ => ?_) | omega | intro _))

theorem explain_Plan_l1_le {p_0 : TPlan} : ∀ (m m' : Nat), m ≤ m' → Le (explain_Plan_l1 p_0 m ) (explain_Plan_l1 p_0 m' ) := by
 intro m
 induction m with
 | zero => intro m' _ ; exact le_none _
 | succ m ih =>
 intro m' hm 
 cases m' with
 | zero => omega
 | succ m' =>
 simp only [explain_Plan_l1]
 repeat' (with_reducible (first | exact le_refl _ | apply ih | refine le_ck ?_ | refine le_ite ?_ ?_ | refine le_bind ?_ (fun _ => ?_) | refine le_jn ?_ (fun _ => ?_) | omega | intro _))

theorem explain_Plan_l2_le {p_0 : TPlan} : ∀ (m m' : Nat), m ≤ m' → ∀ (y0 : List Bytes) (y1 : Int), Le (explain_Plan_l2 p_0 m y0 y1) (explain_Plan_l2 p_0 m' y0 y1) := by
 intro m
 induction m with
 | zero => intro m' _ y0 y1; exact le_none _
 | succ m ih =>
 intro m' hm y0 y1
 cases m' with
 | zero => omega
 | succ m' =>
 simp only [explain_Plan_l2]
 repeat' (with_reducible (first | exact le_refl _ | apply ih | refine le_ck ?_ | refine le_ite ?_ ?_ | refine le_bind ?_ (fun _ => ?_) | refine le_jn ?_ (fun _ => ?_) | omega | intro _))

theorem explain_Plan_l3_le {n n' : Nat} (hn : n ≤ n') {p_0 : TPlan} {types_1 : List TResourceType} : ∀ (m m' : Nat), m ≤ m' → ∀ (y0 : List Bytes) (y1 : Int), Le (explain_Plan_l3 n p_0 types_1 m y0 y1) (explain_Plan_l3 n' p_0 types_1 m' y0 y1) := by
 intro m
 induction m with
 | zero => intro m' _ y0 y1; exact le_none _
 | succ m ih =>
 intro m' hm y0 y1
 cases m' with
 | zero => omega
 | succ m' =>
 simp only [explain_Plan_l3]
 repeat' (with_reducible (first | exact le_refl _ | apply ih | apply explain_typed_le | apply explain_Change_le | refine le_ck ?_ | refine le_ite ?_ ?_ | refine le_bind ?_ (fun _ => ?_) | refine le_jn ?_ (fun _ => ?_) | omega | intro _))

theorem explain_Plan_l4_le {n n' : Nat} (hn : n ≤ n') {p_0 : TPlan} : ∀ (m m' : Nat), m ≤ m' → ∀ (y0 : List Bytes) (y1 : Int), Le (explain_Plan_l4 n p_0 m y0 y1) (explain_Plan_l4 n' p_0 m' y0 y1) := by
 intro m
 induction m with
 | zero => intro m' _ y0 y1; exact le_none _
 | succ m ih =>
 intro m' hm y0 y1
 cases m' with
 | zero => omega
 | succ m' =>
 simp only [explain_Plan_l4]
 repeat' (with_reducible (first | exact le_refl _ | apply ih | apply value_Equal_le | apply explain_secret_le | refine le_ck ?_ | refine le_ite ?_ ?_ | refine le_bind ?_ (fun _ => ?_) | refine le_jn ?_ (fun _ => ?_) | omega | intro _))

theorem explain_Plan_le {n n' : Nat} (hn : n ≤ n') {p_0 : TPlan} {types_1 : List TResourceType} : Le (explain_Plan n p_0 types_1) (explain_Plan n' p_0 types_1) := by
 simp only [explain_Plan]
 repeat' (with_reducible (first | exact le_refl _ | apply explain_Plan_l1_le | apply explain_Plan_l2_le | apply explain_Plan_l3_le | apply explain_Plan_l4_le | apply explain_Summary_le | refine le_ck ?_ | refine le_ite ?_ ?_ | refine le_bind ?_ (fun _ => ?_) | refine le_jn ?_ (fun _ => ?_) | omega | intro _))

theorem law46_awake_le {n n' : Nat} (hn : n ≤ n') : Le (law46_awake n) (law46_awake n') := by
 simp only [law46_awake]
 repeat' (with_reducible (first | exact le_refl _ | apply explain_Change_le | apply explain_Summary_le | apply explain_Plan_le | refine le_ck ?_ | refine le_ite ?_ ?_ | refine le_bind ?_ (fun _ => ?_) | refine le_jn ?_ (fun _ => ?_) | omega | intro _))

theorem awake46_some : law46_awake 60 = some true := by decide +kernel
theorem awake46_ev : Ev2 (fun n _ => law46_awake n) (· = true) := ev_once 60 awake46_some (fun n hn => law46_awake_le hn) rfl
end Go.Ab.R06
