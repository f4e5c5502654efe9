/- The data of the program's structs, and their settled form. -/
import Derived.Test.YtapfhipodpbflaaGreatDoorAbP
set_option linter.unusedVariables false
set_option linter.unusedSimpArgs false
set_option linter.unnecessarySimpa false
namespace Go.Ab
set_option autoImplicit false

inductive TValue where
  | mk (fKind : Int) (fNum : Int) (fStr : Bytes) (fItems : List TValue) (fKeys : List Bytes)

def TValue.fKind : TValue → Int | .mk x _ _ _ _ => x

def TValue.fNum : TValue → Int | .mk _ x _ _ _ => x

def TValue.fStr : TValue → Bytes | .mk _ _ x _ _ => x

def TValue.fItems : TValue → List TValue | .mk _ _ _ x _ => x

def TValue.fKeys : TValue → List Bytes | .mk _ _ _ _ x => x

instance : Inhabited TValue := ⟨.mk 0 0 [] [] []⟩

mutual
def TValue.ccs : TValue → List PV
  | .mk fKind fNum fStr fItems fKeys => [eI fKind] ++ [eI fNum] ++ [eS fStr] ++ [.slice (TValue.els fItems)] ++ [eL eS fKeys]
def TValue.els : List TValue → List PV
  | [] => []
  | x :: r => .agg (TValue.ccs x) :: TValue.els r
end

def eTValue (x : TValue) : PV := .agg (TValue.ccs x)

theorem TValue.els_eq : ∀ l, TValue.els l = l.map eTValue
  | [] => by simp only [TValue.els, List.map_nil]
  | x :: r => by simp only [TValue.els, List.map_cons, TValue.els_eq r, eTValue]

def TValue.cs (x : TValue) : List PV := [eI x.fKind, eI x.fNum, eS x.fStr, eL eTValue x.fItems, eL eS x.fKeys]

theorem TValue.ccs_eq (x : TValue) : TValue.ccs x = TValue.cs x := by
  cases x
  simp only [TValue.ccs, TValue.cs, eL, List.cons_append, List.nil_append, TValue.els_eq, TValue.fKind, TValue.fNum, TValue.fStr, TValue.fItems, TValue.fKeys]

theorem TValue.cells_eq (x : TValue) : (eTValue x).cells = TValue.cs x := TValue.ccs_eq x

theorem TValue.agg_eq (x : TValue) : eTValue x = .agg (TValue.cs x) := congrArg PV.agg (TValue.ccs_eq x)

theorem TValue.eta (x : TValue) : TValue.mk x.fKind x.fNum x.fStr x.fItems x.fKeys = x := by cases x; rfl

structure TChange where
  fAddr : Bytes
  fDeposed : Bytes
  fType : Bytes
  fAction : Int
  fReason : Int
  fBefore : TValue
  fAfter : TValue
  fID : Bytes
  fReplace : List Bytes
  fCreateFirst : Bool
  fProtect : Bool
  fImport : Bool
  fDeps : List Bytes
  fOldDeps : List Bytes
  deriving Inhabited

def TChange.cs (x : TChange) : List PV := [eS x.fAddr, eS x.fDeposed, eS x.fType, eI x.fAction, eI x.fReason, eI x.fBefore.fKind, eI x.fBefore.fNum, eS x.fBefore.fStr, eL eTValue x.fBefore.fItems, eL eS x.fBefore.fKeys, eI x.fAfter.fKind, eI x.fAfter.fNum, eS x.fAfter.fStr, eL eTValue x.fAfter.fItems, eL eS x.fAfter.fKeys, eS x.fID, eL eS x.fReplace, eB x.fCreateFirst, eB x.fProtect, eB x.fImport, eL eS x.fDeps, eL eS x.fOldDeps]

def eTChange (x : TChange) : PV := .agg (TChange.cs x)

theorem TChange.cells_eq (x : TChange) : (eTChange x).cells = TChange.cs x := rfl

theorem TChange.agg_eq (x : TChange) : eTChange x = .agg (TChange.cs x) := rfl

inductive TType where
  | mk (fKind : Int) (fElems : List TType) (fNames : List Bytes)

def TType.fKind : TType → Int | .mk x _ _ => x

def TType.fElems : TType → List TType | .mk _ x _ => x

def TType.fNames : TType → List Bytes | .mk _ _ x => x

instance : Inhabited TType := ⟨.mk 0 [] []⟩

mutual
def TType.ccs : TType → List PV
  | .mk fKind fElems fNames => [eI fKind] ++ [.slice (TType.els fElems)] ++ [eL eS fNames]
def TType.els : List TType → List PV
  | [] => []
  | x :: r => .agg (TType.ccs x) :: TType.els r
end

def eTType (x : TType) : PV := .agg (TType.ccs x)

theorem TType.els_eq : ∀ l, TType.els l = l.map eTType
  | [] => by simp only [TType.els, List.map_nil]
  | x :: r => by simp only [TType.els, List.map_cons, TType.els_eq r, eTType]

def TType.cs (x : TType) : List PV := [eI x.fKind, eL eTType x.fElems, eL eS x.fNames]

theorem TType.ccs_eq (x : TType) : TType.ccs x = TType.cs x := by
  cases x
  simp only [TType.ccs, TType.cs, eL, List.cons_append, List.nil_append, TType.els_eq, TType.fKind, TType.fElems, TType.fNames]

theorem TType.cells_eq (x : TType) : (eTType x).cells = TType.cs x := TType.ccs_eq x

theorem TType.agg_eq (x : TType) : eTType x = .agg (TType.cs x) := congrArg PV.agg (TType.ccs_eq x)

theorem TType.eta (x : TType) : TType.mk x.fKind x.fElems x.fNames = x := by cases x; rfl

structure TAttr where
  fName : Bytes
  fType : TType
  fMode : Int
  fReplace : Bool
  fSensitive : Bool
  fVolatile : Bool
  deriving Inhabited

def TAttr.cs (x : TAttr) : List PV := [eS x.fName, eI x.fType.fKind, eL eTType x.fType.fElems, eL eS x.fType.fNames, eI x.fMode, eB x.fReplace, eB x.fSensitive, eB x.fVolatile]

def eTAttr (x : TAttr) : PV := .agg (TAttr.cs x)

theorem TAttr.cells_eq (x : TAttr) : (eTAttr x).cells = TAttr.cs x := rfl

theorem TAttr.agg_eq (x : TAttr) : eTAttr x = .agg (TAttr.cs x) := rfl

structure TNested where
  fName : Bytes
  fMin : Int
  fMax : Int
  fAttrs : List TAttr
  fReplace : Bool
  deriving Inhabited

def TNested.cs (x : TNested) : List PV := [eS x.fName, eI x.fMin, eI x.fMax, eL eTAttr x.fAttrs, eB x.fReplace]

def eTNested (x : TNested) : PV := .agg (TNested.cs x)

theorem TNested.cells_eq (x : TNested) : (eTNested x).cells = TNested.cs x := rfl

theorem TNested.agg_eq (x : TNested) : eTNested x = .agg (TNested.cs x) := rfl

structure TSchema where
  fAttrs : List TAttr
  fNested : List TNested
  deriving Inhabited

def TSchema.cs (x : TSchema) : List PV := [eL eTAttr x.fAttrs, eL eTNested x.fNested]

def eTSchema (x : TSchema) : PV := .agg (TSchema.cs x)

theorem TSchema.cells_eq (x : TSchema) : (eTSchema x).cells = TSchema.cs x := rfl

theorem TSchema.agg_eq (x : TSchema) : eTSchema x = .agg (TSchema.cs x) := rfl

structure TPlanOptions where
  fDestroy : Bool
  fRefresh : Bool
  fTargets : List Bytes
  fReplace : List Bytes
  fRemote : TValue
  fVars : TValue
  deriving Inhabited

def TPlanOptions.cs (x : TPlanOptions) : List PV := [eB x.fDestroy, eB x.fRefresh, eL eS x.fTargets, eL eS x.fReplace, eI x.fRemote.fKind, eI x.fRemote.fNum, eS x.fRemote.fStr, eL eTValue x.fRemote.fItems, eL eS x.fRemote.fKeys, eI x.fVars.fKind, eI x.fVars.fNum, eS x.fVars.fStr, eL eTValue x.fVars.fItems, eL eS x.fVars.fKeys]

def eTPlanOptions (x : TPlanOptions) : PV := .agg (TPlanOptions.cs x)

theorem TPlanOptions.cells_eq (x : TPlanOptions) : (eTPlanOptions x).cells = TPlanOptions.cs x := rfl

theorem TPlanOptions.agg_eq (x : TPlanOptions) : eTPlanOptions x = .agg (TPlanOptions.cs x) := rfl

structure TInstance where
  fAddr : Bytes
  fDeposed : Bytes
  fID : Bytes
  fType : Bytes
  fAttrs : TValue
  fVersion : Int
  fTainted : Bool
  fCreateFirst : Bool
  fDeps : List Bytes
  deriving Inhabited

def TInstance.cs (x : TInstance) : List PV := [eS x.fAddr, eS x.fDeposed, eS x.fID, eS x.fType, eI x.fAttrs.fKind, eI x.fAttrs.fNum, eS x.fAttrs.fStr, eL eTValue x.fAttrs.fItems, eL eS x.fAttrs.fKeys, eI x.fVersion, eB x.fTainted, eB x.fCreateFirst, eL eS x.fDeps]

def eTInstance (x : TInstance) : PV := .agg (TInstance.cs x)

theorem TInstance.cells_eq (x : TInstance) : (eTInstance x).cells = TInstance.cs x := rfl

theorem TInstance.agg_eq (x : TInstance) : eTInstance x = .agg (TInstance.cs x) := rfl

structure TPending where
  fAddr : Bytes
  fType : Bytes
  fToken : Bytes
  deriving Inhabited, DecidableEq

def TPending.cs (x : TPending) : List PV := [eS x.fAddr, eS x.fType, eS x.fToken]

def eTPending (x : TPending) : PV := .agg (TPending.cs x)

theorem TPending.cells_eq (x : TPending) : (eTPending x).cells = TPending.cs x := rfl

theorem TPending.agg_eq (x : TPending) : eTPending x = .agg (TPending.cs x) := rfl

structure TStateOutput where
  fName : Bytes
  fValue : TValue
  fSensitive : Bool
  deriving Inhabited

def TStateOutput.cs (x : TStateOutput) : List PV := [eS x.fName, eI x.fValue.fKind, eI x.fValue.fNum, eS x.fValue.fStr, eL eTValue x.fValue.fItems, eL eS x.fValue.fKeys, eB x.fSensitive]

def eTStateOutput (x : TStateOutput) : PV := .agg (TStateOutput.cs x)

theorem TStateOutput.cells_eq (x : TStateOutput) : (eTStateOutput x).cells = TStateOutput.cs x := rfl

theorem TStateOutput.agg_eq (x : TStateOutput) : eTStateOutput x = .agg (TStateOutput.cs x) := rfl

structure TState where
  fLineage : Bytes
  fSerial : Int
  fInstances : List TInstance
  fPending : List TPending
  fOutputs : List TStateOutput
  deriving Inhabited

def TState.cs (x : TState) : List PV := [eS x.fLineage, eI x.fSerial, eL eTInstance x.fInstances, eL eTPending x.fPending, eL eTStateOutput x.fOutputs]

def eTState (x : TState) : PV := .agg (TState.cs x)

theorem TState.cells_eq (x : TState) : (eTState x).cells = TState.cs x := rfl

theorem TState.agg_eq (x : TState) : eTState x = .agg (TState.cs x) := rfl

structure TDrift where
  fAddr : Bytes
  fDeposed : Bytes
  fGone : Bool
  fBefore : TValue
  fAfter : TValue
  deriving Inhabited

def TDrift.cs (x : TDrift) : List PV := [eS x.fAddr, eS x.fDeposed, eB x.fGone, eI x.fBefore.fKind, eI x.fBefore.fNum, eS x.fBefore.fStr, eL eTValue x.fBefore.fItems, eL eS x.fBefore.fKeys, eI x.fAfter.fKind, eI x.fAfter.fNum, eS x.fAfter.fStr, eL eTValue x.fAfter.fItems, eL eS x.fAfter.fKeys]

def eTDrift (x : TDrift) : PV := .agg (TDrift.cs x)

theorem TDrift.cells_eq (x : TDrift) : (eTDrift x).cells = TDrift.cs x := rfl

theorem TDrift.agg_eq (x : TDrift) : eTDrift x = .agg (TDrift.cs x) := rfl

structure TOutputChange where
  fName : Bytes
  fBefore : TValue
  fAfter : TValue
  fSensitive : Bool
  deriving Inhabited

def TOutputChange.cs (x : TOutputChange) : List PV := [eS x.fName, eI x.fBefore.fKind, eI x.fBefore.fNum, eS x.fBefore.fStr, eL eTValue x.fBefore.fItems, eL eS x.fBefore.fKeys, eI x.fAfter.fKind, eI x.fAfter.fNum, eS x.fAfter.fStr, eL eTValue x.fAfter.fItems, eL eS x.fAfter.fKeys, eB x.fSensitive]

def eTOutputChange (x : TOutputChange) : PV := .agg (TOutputChange.cs x)

theorem TOutputChange.cells_eq (x : TOutputChange) : (eTOutputChange x).cells = TOutputChange.cs x := rfl

theorem TOutputChange.agg_eq (x : TOutputChange) : eTOutputChange x = .agg (TOutputChange.cs x) := rfl

structure TDataValue where
  fAddr : Bytes
  fValue : TValue
  deriving Inhabited

def TDataValue.cs (x : TDataValue) : List PV := [eS x.fAddr, eI x.fValue.fKind, eI x.fValue.fNum, eS x.fValue.fStr, eL eTValue x.fValue.fItems, eL eS x.fValue.fKeys]

def eTDataValue (x : TDataValue) : PV := .agg (TDataValue.cs x)

theorem TDataValue.cells_eq (x : TDataValue) : (eTDataValue x).cells = TDataValue.cs x := rfl

theorem TDataValue.agg_eq (x : TDataValue) : eTDataValue x = .agg (TDataValue.cs x) := rfl

structure TMove where
  fFrom : Bytes
  fTo : Bytes
  fAt : Int
  deriving Inhabited, DecidableEq

def TMove.cs (x : TMove) : List PV := [eS x.fFrom, eS x.fTo, eI x.fAt]

def eTMove (x : TMove) : PV := .agg (TMove.cs x)

theorem TMove.cells_eq (x : TMove) : (eTMove x).cells = TMove.cs x := rfl

theorem TMove.agg_eq (x : TMove) : eTMove x = .agg (TMove.cs x) := rfl

structure TPlan where
  fOptions : TPlanOptions
  fBase : TState
  fChanges : List TChange
  fOutputs : List TOutputChange
  fData : List TDataValue
  fDrift : List TDrift
  fMoved : List TMove
  deriving Inhabited

def TPlan.cs (x : TPlan) : List PV := [eB x.fOptions.fDestroy, eB x.fOptions.fRefresh, eL eS x.fOptions.fTargets, eL eS x.fOptions.fReplace, eI x.fOptions.fRemote.fKind, eI x.fOptions.fRemote.fNum, eS x.fOptions.fRemote.fStr, eL eTValue x.fOptions.fRemote.fItems, eL eS x.fOptions.fRemote.fKeys, eI x.fOptions.fVars.fKind, eI x.fOptions.fVars.fNum, eS x.fOptions.fVars.fStr, eL eTValue x.fOptions.fVars.fItems, eL eS x.fOptions.fVars.fKeys, eS x.fBase.fLineage, eI x.fBase.fSerial, eL eTInstance x.fBase.fInstances, eL eTPending x.fBase.fPending, eL eTStateOutput x.fBase.fOutputs, eL eTChange x.fChanges, eL eTOutputChange x.fOutputs, eL eTDataValue x.fData, eL eTDrift x.fDrift, eL eTMove x.fMoved]

def eTPlan (x : TPlan) : PV := .agg (TPlan.cs x)

theorem TPlan.cells_eq (x : TPlan) : (eTPlan x).cells = TPlan.cs x := rfl

theorem TPlan.agg_eq (x : TPlan) : eTPlan x = .agg (TPlan.cs x) := rfl

structure TResourceType where
  fName : Bytes
  fSchema : TSchema
  fQuota : Int
  deriving Inhabited

def TResourceType.cs (x : TResourceType) : List PV := [eS x.fName, eL eTAttr x.fSchema.fAttrs, eL eTNested x.fSchema.fNested, eI x.fQuota]

def eTResourceType (x : TResourceType) : PV := .agg (TResourceType.cs x)

theorem TResourceType.cells_eq (x : TResourceType) : (eTResourceType x).cells = TResourceType.cs x := rfl

theorem TResourceType.agg_eq (x : TResourceType) : eTResourceType x = .agg (TResourceType.cs x) := rfl

structure TKey where
  fKind : Int
  fNum : Int
  fStr : Bytes
  deriving Inhabited, DecidableEq

def TKey.cs (x : TKey) : List PV := [eI x.fKind, eI x.fNum, eS x.fStr]

def eTKey (x : TKey) : PV := .agg (TKey.cs x)

theorem TKey.cells_eq (x : TKey) : (eTKey x).cells = TKey.cs x := rfl

theorem TKey.agg_eq (x : TKey) : eTKey x = .agg (TKey.cs x) := rfl

structure TModuleStep where
  fName : Bytes
  fKey : TKey
  deriving Inhabited, DecidableEq

def TModuleStep.cs (x : TModuleStep) : List PV := [eS x.fName, eI x.fKey.fKind, eI x.fKey.fNum, eS x.fKey.fStr]

def eTModuleStep (x : TModuleStep) : PV := .agg (TModuleStep.cs x)

theorem TModuleStep.cells_eq (x : TModuleStep) : (eTModuleStep x).cells = TModuleStep.cs x := rfl

theorem TModuleStep.agg_eq (x : TModuleStep) : eTModuleStep x = .agg (TModuleStep.cs x) := rfl

structure TAddress where
  fModule : List TModuleStep
  fData : Bool
  fType : Bytes
  fName : Bytes
  fKey : TKey
  deriving Inhabited, DecidableEq

def TAddress.cs (x : TAddress) : List PV := [eL eTModuleStep x.fModule, eB x.fData, eS x.fType, eS x.fName, eI x.fKey.fKind, eI x.fKey.fNum, eS x.fKey.fStr]

def eTAddress (x : TAddress) : PV := .agg (TAddress.cs x)

theorem TAddress.cells_eq (x : TAddress) : (eTAddress x).cells = TAddress.cs x := rfl

theorem TAddress.agg_eq (x : TAddress) : eTAddress x = .agg (TAddress.cs x) := rfl

structure Treader where
  frest : Bytes
  fbad : Bool
  deriving Inhabited, DecidableEq

def Treader.cs (x : Treader) : List PV := [eS x.frest, eB x.fbad]

def eTreader (x : Treader) : PV := .agg (Treader.cs x)

theorem Treader.cells_eq (x : Treader) : (eTreader x).cells = Treader.cs x := rfl

theorem Treader.agg_eq (x : Treader) : eTreader x = .agg (Treader.cs x) := rfl

end Go.Ab
