/- The data of the program's structs, and their settled form. -/
import Derived.Test.YtmdefcidhgbikaaGreatDoorAbP
set_option linter.unusedVariables false
set_option linter.unusedSimpArgs false
set_option linter.unnecessarySimpa false
namespace Go.Ab
set_option autoImplicit false
inductive TValue where
  | mk (fKind : Int) (fNum : Int) (fStr : Bytes) (fItems : List TValue) (fKeys : List Bytes)
def TValue.fKind : TValue → Int | .mk x _ _ _ _ => x
def TValue.fNum : TValue → Int | .mk _ x _ _ _ => x
def TValue.fStr : TValue → Bytes | .mk _ _ x _ _ => x
def TValue.fItems : TValue → List TValue | .mk _ _ _ x _ => x
def TValue.fKeys : TValue → List Bytes | .mk _ _ _ _ x => x
instance : Inhabited TValue := ⟨.mk 0 0 [] [] []⟩
mutual
def TValue.ccs : TValue → List PV
  | .mk fKind fNum fStr fItems fKeys => [eI fKind] ++ [eI fNum] ++ [eS fStr] ++ [.slice (TValue.els fItems)] ++ [eL eS fKeys]
def TValue.els : List TValue → List PV
  | [] => []
  | x :: r => .agg (TValue.ccs x) :: TValue.els r
end
def eTValue (x : TValue) : PV := .agg (TValue.ccs x)
theorem TValue.els_eq : ∀ l, TValue.els l = l.map eTValue
  | [] => by simp only [TValue.els, List.map_nil]
  | x :: r => by simp only [TValue.els, List.map_cons, TValue.els_eq r, eTValue]
def TValue.cs (x : TValue) : List PV := [eI x.fKind, eI x.fNum, eS x.fStr, eL eTValue x.fItems, eL eS x.fKeys]
theorem TValue.ccs_eq (x : TValue) : TValue.ccs x = TValue.cs x := by
  cases x
  simp only [TValue.ccs, TValue.cs, eL, List.cons_append, List.nil_append, TValue.els_eq, TValue.fKind, TValue.fNum, TValue.fStr, TValue.fItems, TValue.fKeys]
theorem TValue.cells_eq (x : TValue) : (eTValue x).cells = TValue.cs x := TValue.ccs_eq x
theorem TValue.agg_eq (x : TValue) : eTValue x = .agg (TValue.cs x) := congrArg PV.agg (TValue.ccs_eq x)
inductive TExpr where
  | mk (fKind : Int) (fOp : Int) (fName : Bytes) (fKey : Bytes) (fValue : TValue) (fKids : List TExpr) (fAt : Int)
def TExpr.fKind : TExpr → Int | .mk x _ _ _ _ _ _ => x
def TExpr.fOp : TExpr → Int | .mk _ x _ _ _ _ _ => x
def TExpr.fName : TExpr → Bytes | .mk _ _ x _ _ _ _ => x
def TExpr.fKey : TExpr → Bytes | .mk _ _ _ x _ _ _ => x
def TExpr.fValue : TExpr → TValue | .mk _ _ _ _ x _ _ => x
def TExpr.fKids : TExpr → List TExpr | .mk _ _ _ _ _ x _ => x
def TExpr.fAt : TExpr → Int | .mk _ _ _ _ _ _ x => x
instance : Inhabited TExpr := ⟨.mk 0 0 [] [] default [] 0⟩
mutual
def TExpr.ccs : TExpr → List PV
  | .mk fKind fOp fName fKey fValue fKids fAt => [eI fKind] ++ [eI fOp] ++ [eS fName] ++ [eS fKey] ++ [eI fValue.fKind, eI fValue.fNum, eS fValue.fStr, eL eTValue fValue.fItems, eL eS fValue.fKeys] ++ [.slice (TExpr.els fKids)] ++ [eI fAt]
def TExpr.els : List TExpr → List PV
  | [] => []
  | x :: r => .agg (TExpr.ccs x) :: TExpr.els r
end
def eTExpr (x : TExpr) : PV := .agg (TExpr.ccs x)
theorem TExpr.els_eq : ∀ l, TExpr.els l = l.map eTExpr
  | [] => by simp only [TExpr.els, List.map_nil]
  | x :: r => by simp only [TExpr.els, List.map_cons, TExpr.els_eq r, eTExpr]
def TExpr.cs (x : TExpr) : List PV := [eI x.fKind, eI x.fOp, eS x.fName, eS x.fKey, eI x.fValue.fKind, eI x.fValue.fNum, eS x.fValue.fStr, eL eTValue x.fValue.fItems, eL eS x.fValue.fKeys, eL eTExpr x.fKids, eI x.fAt]
theorem TExpr.ccs_eq (x : TExpr) : TExpr.ccs x = TExpr.cs x := by
  cases x
  simp only [TExpr.ccs, TExpr.cs, eL, List.cons_append, List.nil_append, TExpr.els_eq, TExpr.fKind, TExpr.fOp, TExpr.fName, TExpr.fKey, TExpr.fValue, TExpr.fKids, TExpr.fAt]
theorem TExpr.cells_eq (x : TExpr) : (eTExpr x).cells = TExpr.cs x := TExpr.ccs_eq x
theorem TExpr.agg_eq (x : TExpr) : eTExpr x = .agg (TExpr.cs x) := congrArg PV.agg (TExpr.ccs_eq x)
structure TAttribute where
  fName : Bytes
  fExpr : TExpr
  fAt : Int
  deriving Inhabited
def TAttribute.cs (x : TAttribute) : List PV := [eS x.fName, eI x.fExpr.fKind, eI x.fExpr.fOp, eS x.fExpr.fName, eS x.fExpr.fKey, eI x.fExpr.fValue.fKind, eI x.fExpr.fValue.fNum, eS x.fExpr.fValue.fStr, eL eTValue x.fExpr.fValue.fItems, eL eS x.fExpr.fValue.fKeys, eL eTExpr x.fExpr.fKids, eI x.fExpr.fAt, eI x.fAt]
def eTAttribute (x : TAttribute) : PV := .agg (TAttribute.cs x)
theorem TAttribute.cells_eq (x : TAttribute) : (eTAttribute x).cells = TAttribute.cs x := rfl
theorem TAttribute.agg_eq (x : TAttribute) : eTAttribute x = .agg (TAttribute.cs x) := rfl
mutual
inductive TBody where
  | mk (fAttrs : List TAttribute) (fBlocks : List TBlock)
inductive TBlock where
  | mk (fType : Bytes) (fLabels : List Bytes) (fBody : TBody) (fAt : Int)
end
def TBody.fAttrs : TBody → List TAttribute | .mk x _ => x
def TBody.fBlocks : TBody → List TBlock | .mk _ x => x
def TBlock.fType : TBlock → Bytes | .mk x _ _ _ => x
def TBlock.fLabels : TBlock → List Bytes | .mk _ x _ _ => x
def TBlock.fBody : TBlock → TBody | .mk _ _ x _ => x
def TBlock.fAt : TBlock → Int | .mk _ _ _ x => x
instance : Inhabited TBody := ⟨.mk [] []⟩
instance : Inhabited TBlock := ⟨.mk [] [] default 0⟩
mutual
def TBody.ccs : TBody → List PV
  | .mk fAttrs fBlocks => [eL eTAttribute fAttrs] ++ [.slice (TBlock.els fBlocks)]
def TBlock.ccs : TBlock → List PV
  | .mk fType fLabels fBody fAt => [eS fType] ++ [eL eS fLabels] ++ TBody.ccs fBody ++ [eI fAt]
def TBlock.els : List TBlock → List PV
  | [] => []
  | x :: r => .agg (TBlock.ccs x) :: TBlock.els r
end
def eTBody (x : TBody) : PV := .agg (TBody.ccs x)
def eTBlock (x : TBlock) : PV := .agg (TBlock.ccs x)
theorem TBlock.els_eq : ∀ l, TBlock.els l = l.map eTBlock
  | [] => by simp only [TBlock.els, List.map_nil]
  | x :: r => by simp only [TBlock.els, List.map_cons, TBlock.els_eq r, eTBlock]
def TBody.cs (x : TBody) : List PV := [eL eTAttribute x.fAttrs, eL eTBlock x.fBlocks]
theorem TBody.ccs_eq (x : TBody) : TBody.ccs x = TBody.cs x := by
  cases x
  simp only [TBody.ccs, TBody.cs, eL, List.cons_append, List.nil_append, TBlock.els_eq, TBody.fAttrs, TBody.fBlocks]
def TBlock.cs (x : TBlock) : List PV := [eS x.fType, eL eS x.fLabels, eL eTAttribute x.fBody.fAttrs, eL eTBlock x.fBody.fBlocks, eI x.fAt]
theorem TBlock.ccs_eq (x : TBlock) : TBlock.ccs x = TBlock.cs x := by
  cases x
  simp only [TBlock.ccs, TBlock.cs, eL, List.cons_append, List.nil_append, TBlock.els_eq, TBody.ccs_eq, TBody.cs, TBlock.fType, TBlock.fLabels, TBlock.fBody, TBlock.fAt]
theorem TBody.cells_eq (x : TBody) : (eTBody x).cells = TBody.cs x := TBody.ccs_eq x
theorem TBody.agg_eq (x : TBody) : eTBody x = .agg (TBody.cs x) := congrArg PV.agg (TBody.ccs_eq x)
theorem TBlock.cells_eq (x : TBlock) : (eTBlock x).cells = TBlock.cs x := TBlock.ccs_eq x
theorem TBlock.agg_eq (x : TBlock) : eTBlock x = .agg (TBlock.cs x) := congrArg PV.agg (TBlock.ccs_eq x)
structure TDiag where
  fKind : Int
  fAt : Int
  fName : Bytes
  deriving Inhabited, DecidableEq
structure TToken where
  fKind : Int
  fText : Bytes
  fAt : Int
  deriving Inhabited, DecidableEq
structure Tbody_parser where
  fl : List TToken
  fat : Int
  fbad : TDiag
  deriving Inhabited, DecidableEq
structure Texpr_parser where
  fl : List TToken
  fat : Int
  fnest : Int
  fbase : Int
  fbad : TDiag
  deriving Inhabited, DecidableEq
structure Tchecker where
  fcount : Int
  deriving Inhabited, DecidableEq
structure Ttemplate where
  fs : Bytes
  fat : Int
  fi : Int
  ffrom : Int
  ftext : Bytes
  fparts : List TExpr
  fopen : Bool
  deriving Inhabited
end Go.Ab
