/- The data of the program's structs, and their settled form. -/
import Derived.Test.YtgdcfenbmcflkaaGreatDoorAbP
set_option linter.unusedVariables false
set_option linter.unusedSimpArgs false
set_option linter.unnecessarySimpa false
namespace Go.Ab
set_option autoImplicit false

structure TEdge where
  fFrom : Bytes
  fTo : Bytes
  deriving Inhabited, DecidableEq

def TEdge.cs (x : TEdge) : List PV := [eS x.fFrom, eS x.fTo]

def eTEdge (x : TEdge) : PV := .agg (TEdge.cs x)

theorem TEdge.cells_eq (x : TEdge) : (eTEdge x).cells = TEdge.cs x := rfl

theorem TEdge.agg_eq (x : TEdge) : eTEdge x = .agg (TEdge.cs x) := rfl

structure TGraph where
  fNodes : List Bytes
  fEdges : List TEdge
  deriving Inhabited, DecidableEq

def TGraph.cs (x : TGraph) : List PV := [eL eS x.fNodes, eL eTEdge x.fEdges]

def eTGraph (x : TGraph) : PV := .agg (TGraph.cs x)

theorem TGraph.cells_eq (x : TGraph) : (eTGraph x).cells = TGraph.cs x := rfl

theorem TGraph.agg_eq (x : TGraph) : eTGraph x = .agg (TGraph.cs x) := rfl

inductive TValue where
  | mk (fKind : Int) (fNum : Int) (fStr : Bytes) (fItems : List TValue) (fKeys : List Bytes)

def TValue.fKind : TValue → Int | .mk x _ _ _ _ => x

def TValue.fNum : TValue → Int | .mk _ x _ _ _ => x

def TValue.fStr : TValue → Bytes | .mk _ _ x _ _ => x

def TValue.fItems : TValue → List TValue | .mk _ _ _ x _ => x

def TValue.fKeys : TValue → List Bytes | .mk _ _ _ _ x => x

instance : Inhabited TValue := ⟨.mk 0 0 [] [] []⟩

mutual
def TValue.ccs : TValue → List PV
  | .mk fKind fNum fStr fItems fKeys => [eI fKind] ++ [eI fNum] ++ [eS fStr] ++ [.slice (TValue.els fItems)] ++ [eL eS fKeys]
def TValue.els : List TValue → List PV
  | [] => []
  | x :: r => .agg (TValue.ccs x) :: TValue.els r
end

def eTValue (x : TValue) : PV := .agg (TValue.ccs x)

theorem TValue.els_eq : ∀ l, TValue.els l = l.map eTValue
  | [] => by simp only [TValue.els, List.map_nil]
  | x :: r => by simp only [TValue.els, List.map_cons, TValue.els_eq r, eTValue]

def TValue.cs (x : TValue) : List PV := [eI x.fKind, eI x.fNum, eS x.fStr, eL eTValue x.fItems, eL eS x.fKeys]

theorem TValue.ccs_eq (x : TValue) : TValue.ccs x = TValue.cs x := by
  cases x
  simp only [TValue.ccs, TValue.cs, eL, List.cons_append, List.nil_append, TValue.els_eq, TValue.fKind, TValue.fNum, TValue.fStr, TValue.fItems, TValue.fKeys]

theorem TValue.cells_eq (x : TValue) : (eTValue x).cells = TValue.cs x := TValue.ccs_eq x

theorem TValue.agg_eq (x : TValue) : eTValue x = .agg (TValue.cs x) := congrArg PV.agg (TValue.ccs_eq x)

theorem TValue.eta (x : TValue) : TValue.mk x.fKind x.fNum x.fStr x.fItems x.fKeys = x := by cases x; rfl

structure TChange where
  fAddr : Bytes
  fDeposed : Bytes
  fType : Bytes
  fAction : Int
  fReason : Int
  fBefore : TValue
  fAfter : TValue
  fID : Bytes
  fReplace : List Bytes
  fCreateFirst : Bool
  fProtect : Bool
  fImport : Bool
  fDeps : List Bytes
  fOldDeps : List Bytes
  deriving Inhabited

def TChange.cs (x : TChange) : List PV := [eS x.fAddr, eS x.fDeposed, eS x.fType, eI x.fAction, eI x.fReason, eI x.fBefore.fKind, eI x.fBefore.fNum, eS x.fBefore.fStr, eL eTValue x.fBefore.fItems, eL eS x.fBefore.fKeys, eI x.fAfter.fKind, eI x.fAfter.fNum, eS x.fAfter.fStr, eL eTValue x.fAfter.fItems, eL eS x.fAfter.fKeys, eS x.fID, eL eS x.fReplace, eB x.fCreateFirst, eB x.fProtect, eB x.fImport, eL eS x.fDeps, eL eS x.fOldDeps]

def eTChange (x : TChange) : PV := .agg (TChange.cs x)

theorem TChange.cells_eq (x : TChange) : (eTChange x).cells = TChange.cs x := rfl

theorem TChange.agg_eq (x : TChange) : eTChange x = .agg (TChange.cs x) := rfl

structure Tchooser where
  fchanges : List TChange
  fresources : List Bytes
  fchosen : List Bool
  ftodo : List Int
  deriving Inhabited

def Tchooser.cs (x : Tchooser) : List PV := [eL eTChange x.fchanges, eL eS x.fresources, eL eB x.fchosen, eL eI x.ftodo]

def eTchooser (x : Tchooser) : PV := .agg (Tchooser.cs x)

theorem Tchooser.cells_eq (x : Tchooser) : (eTchooser x).cells = Tchooser.cs x := rfl

theorem Tchooser.agg_eq (x : Tchooser) : eTchooser x = .agg (Tchooser.cs x) := rfl

structure TKey where
  fKind : Int
  fNum : Int
  fStr : Bytes
  deriving Inhabited, DecidableEq

def TKey.cs (x : TKey) : List PV := [eI x.fKind, eI x.fNum, eS x.fStr]

def eTKey (x : TKey) : PV := .agg (TKey.cs x)

theorem TKey.cells_eq (x : TKey) : (eTKey x).cells = TKey.cs x := rfl

theorem TKey.agg_eq (x : TKey) : eTKey x = .agg (TKey.cs x) := rfl

structure TModuleStep where
  fName : Bytes
  fKey : TKey
  deriving Inhabited, DecidableEq

def TModuleStep.cs (x : TModuleStep) : List PV := [eS x.fName, eI x.fKey.fKind, eI x.fKey.fNum, eS x.fKey.fStr]

def eTModuleStep (x : TModuleStep) : PV := .agg (TModuleStep.cs x)

theorem TModuleStep.cells_eq (x : TModuleStep) : (eTModuleStep x).cells = TModuleStep.cs x := rfl

theorem TModuleStep.agg_eq (x : TModuleStep) : eTModuleStep x = .agg (TModuleStep.cs x) := rfl

structure TAddress where
  fModule : List TModuleStep
  fData : Bool
  fType : Bytes
  fName : Bytes
  fKey : TKey
  deriving Inhabited, DecidableEq

def TAddress.cs (x : TAddress) : List PV := [eL eTModuleStep x.fModule, eB x.fData, eS x.fType, eS x.fName, eI x.fKey.fKind, eI x.fKey.fNum, eS x.fKey.fStr]

def eTAddress (x : TAddress) : PV := .agg (TAddress.cs x)

theorem TAddress.cells_eq (x : TAddress) : (eTAddress x).cells = TAddress.cs x := rfl

theorem TAddress.agg_eq (x : TAddress) : eTAddress x = .agg (TAddress.cs x) := rfl

structure Treader where
  frest : Bytes
  fbad : Bool
  deriving Inhabited, DecidableEq

def Treader.cs (x : Treader) : List PV := [eS x.frest, eB x.fbad]

def eTreader (x : Treader) : PV := .agg (Treader.cs x)

theorem Treader.cells_eq (x : Treader) : (eTreader x).cells = Treader.cs x := rfl

theorem Treader.agg_eq (x : Treader) : eTreader x = .agg (Treader.cs x) := rfl

structure TPlace where
  fAddr : TAddress
  fWhole : Bool
  deriving Inhabited, DecidableEq

def TPlace.cs (x : TPlace) : List PV := [eL eTModuleStep x.fAddr.fModule, eB x.fAddr.fData, eS x.fAddr.fType, eS x.fAddr.fName, eI x.fAddr.fKey.fKind, eI x.fAddr.fKey.fNum, eS x.fAddr.fKey.fStr, eB x.fWhole]

def eTPlace (x : TPlace) : PV := .agg (TPlace.cs x)

theorem TPlace.cells_eq (x : TPlace) : (eTPlace x).cells = TPlace.cs x := rfl

theorem TPlace.agg_eq (x : TPlace) : eTPlace x = .agg (TPlace.cs x) := rfl

end Go.Ab
