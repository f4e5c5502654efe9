/- The data of the program's structs, and their settled form. -/
import Derived.Test.YtmdefcidhgbikaaGreatDoorAbP
set_option linter.unusedVariables false
set_option linter.unusedSimpArgs false
set_option linter.unnecessarySimpa false
namespace Go.Ab
set_option autoImplicit false

inductive TValue where
  | mk (fKind : Int) (fNum : Int) (fStr : Bytes) (fItems : List TValue) (fKeys : List Bytes)

def TValue.fKind : TValue → Int | .mk x _ _ _ _ => x

def TValue.fNum : TValue → Int | .mk _ x _ _ _ => x

def TValue.fStr : TValue → Bytes | .mk _ _ x _ _ => x

def TValue.fItems : TValue → List TValue | .mk _ _ _ x _ => x

def TValue.fKeys : TValue → List Bytes | .mk _ _ _ _ x => x

instance : Inhabited TValue := ⟨.mk 0 0 [] [] []⟩

mutual
def TValue.ccs : TValue → List PV
  | .mk fKind fNum fStr fItems fKeys => [eI fKind] ++ [eI fNum] ++ [eS fStr] ++ [.slice (TValue.els fItems)] ++ [eL eS fKeys]
def TValue.els : List TValue → List PV
  | [] => []
  | x :: r => .agg (TValue.ccs x) :: TValue.els r
end

def eTValue (x : TValue) : PV := .agg (TValue.ccs x)

theorem TValue.els_eq : ∀ l, TValue.els l = l.map eTValue
  | [] => by simp only [TValue.els, List.map_nil]
  | x :: r => by simp only [TValue.els, List.map_cons, TValue.els_eq r, eTValue]

def TValue.cs (x : TValue) : List PV := [eI x.fKind, eI x.fNum, eS x.fStr, eL eTValue x.fItems, eL eS x.fKeys]

theorem TValue.ccs_eq (x : TValue) : TValue.ccs x = TValue.cs x := by
  cases x
  simp only [TValue.ccs, TValue.cs, eL, List.cons_append, List.nil_append, TValue.els_eq, TValue.fKind, TValue.fNum, TValue.fStr, TValue.fItems, TValue.fKeys]

theorem TValue.cells_eq (x : TValue) : (eTValue x).cells = TValue.cs x := TValue.ccs_eq x

theorem TValue.agg_eq (x : TValue) : eTValue x = .agg (TValue.cs x) := congrArg PV.agg (TValue.ccs_eq x)

theorem TValue.eta (x : TValue) : TValue.mk x.fKind x.fNum x.fStr x.fItems x.fKeys = x := by cases x; rfl

inductive TExpr where
  | mk (fKind : Int) (fOp : Int) (fName : Bytes) (fKey : Bytes) (fValue : TValue) (fKids : List TExpr) (fAt : Int)

def TExpr.fKind : TExpr → Int | .mk x _ _ _ _ _ _ => x

def TExpr.fOp : TExpr → Int | .mk _ x _ _ _ _ _ => x

def TExpr.fName : TExpr → Bytes | .mk _ _ x _ _ _ _ => x

def TExpr.fKey : TExpr → Bytes | .mk _ _ _ x _ _ _ => x

def TExpr.fValue : TExpr → TValue | .mk _ _ _ _ x _ _ => x

def TExpr.fKids : TExpr → List TExpr | .mk _ _ _ _ _ x _ => x

def TExpr.fAt : TExpr → Int | .mk _ _ _ _ _ _ x => x

instance : Inhabited TExpr := ⟨.mk 0 0 [] [] default [] 0⟩

mutual
def TExpr.ccs : TExpr → List PV
  | .mk fKind fOp fName fKey fValue fKids fAt => [eI fKind] ++ [eI fOp] ++ [eS fName] ++ [eS fKey] ++ [eI fValue.fKind, eI fValue.fNum, eS fValue.fStr, eL eTValue fValue.fItems, eL eS fValue.fKeys] ++ [.slice (TExpr.els fKids)] ++ [eI fAt]
def TExpr.els : List TExpr → List PV
  | [] => []
  | x :: r => .agg (TExpr.ccs x) :: TExpr.els r
end

def eTExpr (x : TExpr) : PV := .agg (TExpr.ccs x)

theorem TExpr.els_eq : ∀ l, TExpr.els l = l.map eTExpr
  | [] => by simp only [TExpr.els, List.map_nil]
  | x :: r => by simp only [TExpr.els, List.map_cons, TExpr.els_eq r, eTExpr]

def TExpr.cs (x : TExpr) : List PV := [eI x.fKind, eI x.fOp, eS x.fName, eS x.fKey, eI x.fValue.fKind, eI x.fValue.fNum, eS x.fValue.fStr, eL eTValue x.fValue.fItems, eL eS x.fValue.fKeys, eL eTExpr x.fKids, eI x.fAt]

theorem TExpr.ccs_eq (x : TExpr) : TExpr.ccs x = TExpr.cs x := by
  cases x
  simp only [TExpr.ccs, TExpr.cs, eL, List.cons_append, List.nil_append, TExpr.els_eq, TExpr.fKind, TExpr.fOp, TExpr.fName, TExpr.fKey, TExpr.fValue, TExpr.fKids, TExpr.fAt]

theorem TExpr.cells_eq (x : TExpr) : (eTExpr x).cells = TExpr.cs x := TExpr.ccs_eq x

theorem TExpr.agg_eq (x : TExpr) : eTExpr x = .agg (TExpr.cs x) := congrArg PV.agg (TExpr.ccs_eq x)

theorem TExpr.eta (x : TExpr) : TExpr.mk x.fKind x.fOp x.fName x.fKey x.fValue x.fKids x.fAt = x := by cases x; rfl

structure TAttribute where
  fName : Bytes
  fExpr : TExpr
  fAt : Int
  deriving Inhabited

def TAttribute.cs (x : TAttribute) : List PV := [eS x.fName, eI x.fExpr.fKind, eI x.fExpr.fOp, eS x.fExpr.fName, eS x.fExpr.fKey, eI x.fExpr.fValue.fKind, eI x.fExpr.fValue.fNum, eS x.fExpr.fValue.fStr, eL eTValue x.fExpr.fValue.fItems, eL eS x.fExpr.fValue.fKeys, eL eTExpr x.fExpr.fKids, eI x.fExpr.fAt, eI x.fAt]

def eTAttribute (x : TAttribute) : PV := .agg (TAttribute.cs x)

theorem TAttribute.cells_eq (x : TAttribute) : (eTAttribute x).cells = TAttribute.cs x := rfl

theorem TAttribute.agg_eq (x : TAttribute) : eTAttribute x = .agg (TAttribute.cs x) := rfl

mutual
inductive TBody where
  | mk (fAttrs : List TAttribute) (fBlocks : List TBlock)
inductive TBlock where
  | mk (fType : Bytes) (fLabels : List Bytes) (fBody : TBody) (fAt : Int)
end

def TBody.fAttrs : TBody → List TAttribute | .mk x _ => x

def TBody.fBlocks : TBody → List TBlock | .mk _ x => x

def TBlock.fType : TBlock → Bytes | .mk x _ _ _ => x

def TBlock.fLabels : TBlock → List Bytes | .mk _ x _ _ => x

def TBlock.fBody : TBlock → TBody | .mk _ _ x _ => x

def TBlock.fAt : TBlock → Int | .mk _ _ _ x => x

instance : Inhabited TBody := ⟨.mk [] []⟩

instance : Inhabited TBlock := ⟨.mk [] [] default 0⟩

mutual
def TBody.ccs : TBody → List PV
  | .mk fAttrs fBlocks => [eL eTAttribute fAttrs] ++ [.slice (TBlock.els fBlocks)]
def TBlock.ccs : TBlock → List PV
  | .mk fType fLabels fBody fAt => [eS fType] ++ [eL eS fLabels] ++ TBody.ccs fBody ++ [eI fAt]
def TBlock.els : List TBlock → List PV
  | [] => []
  | x :: r => .agg (TBlock.ccs x) :: TBlock.els r
end

def eTBody (x : TBody) : PV := .agg (TBody.ccs x)

def eTBlock (x : TBlock) : PV := .agg (TBlock.ccs x)

theorem TBlock.els_eq : ∀ l, TBlock.els l = l.map eTBlock
  | [] => by simp only [TBlock.els, List.map_nil]
  | x :: r => by simp only [TBlock.els, List.map_cons, TBlock.els_eq r, eTBlock]

def TBody.cs (x : TBody) : List PV := [eL eTAttribute x.fAttrs, eL eTBlock x.fBlocks]

theorem TBody.ccs_eq (x : TBody) : TBody.ccs x = TBody.cs x := by
  cases x
  simp only [TBody.ccs, TBody.cs, eL, List.cons_append, List.nil_append, TBlock.els_eq, TBody.fAttrs, TBody.fBlocks]

def TBlock.cs (x : TBlock) : List PV := [eS x.fType, eL eS x.fLabels, eL eTAttribute x.fBody.fAttrs, eL eTBlock x.fBody.fBlocks, eI x.fAt]

theorem TBlock.ccs_eq (x : TBlock) : TBlock.ccs x = TBlock.cs x := by
  cases x
  simp only [TBlock.ccs, TBlock.cs, eL, List.cons_append, List.nil_append, TBlock.els_eq, TBody.ccs_eq, TBody.cs, TBlock.fType, TBlock.fLabels, TBlock.fBody, TBlock.fAt]

theorem TBody.cells_eq (x : TBody) : (eTBody x).cells = TBody.cs x := TBody.ccs_eq x

theorem TBody.agg_eq (x : TBody) : eTBody x = .agg (TBody.cs x) := congrArg PV.agg (TBody.ccs_eq x)

theorem TBody.eta (x : TBody) : TBody.mk x.fAttrs x.fBlocks = x := by cases x; rfl

theorem TBlock.cells_eq (x : TBlock) : (eTBlock x).cells = TBlock.cs x := TBlock.ccs_eq x

theorem TBlock.agg_eq (x : TBlock) : eTBlock x = .agg (TBlock.cs x) := congrArg PV.agg (TBlock.ccs_eq x)

theorem TBlock.eta (x : TBlock) : TBlock.mk x.fType x.fLabels x.fBody x.fAt = x := by cases x; rfl

structure TDiag where
  fKind : Int
  fAt : Int
  fName : Bytes
  deriving Inhabited, DecidableEq

def TDiag.cs (x : TDiag) : List PV := [eI x.fKind, eI x.fAt, eS x.fName]

def eTDiag (x : TDiag) : PV := .agg (TDiag.cs x)

theorem TDiag.cells_eq (x : TDiag) : (eTDiag x).cells = TDiag.cs x := rfl

theorem TDiag.agg_eq (x : TDiag) : eTDiag x = .agg (TDiag.cs x) := rfl

structure TToken where
  fKind : Int
  fText : Bytes
  fAt : Int
  deriving Inhabited, DecidableEq

def TToken.cs (x : TToken) : List PV := [eI x.fKind, eS x.fText, eI x.fAt]

def eTToken (x : TToken) : PV := .agg (TToken.cs x)

theorem TToken.cells_eq (x : TToken) : (eTToken x).cells = TToken.cs x := rfl

theorem TToken.agg_eq (x : TToken) : eTToken x = .agg (TToken.cs x) := rfl

structure Tbody_parser where
  fl : List TToken
  fat : Int
  fbad : TDiag
  deriving Inhabited, DecidableEq

def Tbody_parser.cs (x : Tbody_parser) : List PV := [eL eTToken x.fl, eI x.fat, eI x.fbad.fKind, eI x.fbad.fAt, eS x.fbad.fName]

def eTbody_parser (x : Tbody_parser) : PV := .agg (Tbody_parser.cs x)

theorem Tbody_parser.cells_eq (x : Tbody_parser) : (eTbody_parser x).cells = Tbody_parser.cs x := rfl

theorem Tbody_parser.agg_eq (x : Tbody_parser) : eTbody_parser x = .agg (Tbody_parser.cs x) := rfl

structure Texpr_parser where
  fl : List TToken
  fat : Int
  fnest : Int
  fbase : Int
  fbad : TDiag
  deriving Inhabited, DecidableEq

def Texpr_parser.cs (x : Texpr_parser) : List PV := [eL eTToken x.fl, eI x.fat, eI x.fnest, eI x.fbase, eI x.fbad.fKind, eI x.fbad.fAt, eS x.fbad.fName]

def eTexpr_parser (x : Texpr_parser) : PV := .agg (Texpr_parser.cs x)

theorem Texpr_parser.cells_eq (x : Texpr_parser) : (eTexpr_parser x).cells = Texpr_parser.cs x := rfl

theorem Texpr_parser.agg_eq (x : Texpr_parser) : eTexpr_parser x = .agg (Texpr_parser.cs x) := rfl

structure Tchecker where
  fcount : Int
  deriving Inhabited, DecidableEq

def Tchecker.cs (x : Tchecker) : List PV := [eI x.fcount]

def eTchecker (x : Tchecker) : PV := .agg (Tchecker.cs x)

theorem Tchecker.cells_eq (x : Tchecker) : (eTchecker x).cells = Tchecker.cs x := rfl

theorem Tchecker.agg_eq (x : Tchecker) : eTchecker x = .agg (Tchecker.cs x) := rfl

structure Ttemplate where
  fs : Bytes
  fat : Int
  fi : Int
  ffrom : Int
  ftext : Bytes
  fparts : List TExpr
  fopen : Bool
  deriving Inhabited

def Ttemplate.cs (x : Ttemplate) : List PV := [eS x.fs, eI x.fat, eI x.fi, eI x.ffrom, eS x.ftext, eL eTExpr x.fparts, eB x.fopen]

def eTtemplate (x : Ttemplate) : PV := .agg (Ttemplate.cs x)

theorem Ttemplate.cells_eq (x : Ttemplate) : (eTtemplate x).cells = Ttemplate.cs x := rfl

theorem Ttemplate.agg_eq (x : Ttemplate) : eTtemplate x = .agg (Ttemplate.cs x) := rfl

end Go.Ab
