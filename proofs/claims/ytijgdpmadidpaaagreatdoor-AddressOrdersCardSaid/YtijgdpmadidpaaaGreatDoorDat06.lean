/- The data of the program's structs, and their settled form. Place, the reference's data of an address that may be a module's. -/
import Derived.Test.YtijgdpmadidpaaaGreatDoorAbP
set_option linter.unnecessarySimpa false
namespace Go.Ab
set_option autoImplicit false

structure TKey where
  fKind : Int
  fNum : Int
  fStr : Bytes
  deriving Inhabited, DecidableEq

def TKey.cs (x : TKey) : List PV := [eI x.fKind, eI x.fNum, eS x.fStr]

def eTKey (x : TKey) : PV := .agg (TKey.cs x)

theorem TKey.cells_eq (x : TKey) : (eTKey x).cells = TKey.cs x := rfl

theorem TKey.agg_eq (x : TKey) : eTKey x = .agg (TKey.cs x) := rfl

structure TModuleStep where
  fName : Bytes
  fKey : TKey
  deriving Inhabited, DecidableEq

def TModuleStep.cs (x : TModuleStep) : List PV := [eS x.fName, eI x.fKey.fKind, eI x.fKey.fNum, eS x.fKey.fStr]

def eTModuleStep (x : TModuleStep) : PV := .agg (TModuleStep.cs x)

theorem TModuleStep.cells_eq (x : TModuleStep) : (eTModuleStep x).cells = TModuleStep.cs x := rfl

theorem TModuleStep.agg_eq (x : TModuleStep) : eTModuleStep x = .agg (TModuleStep.cs x) := rfl

structure TAddress where
  fModule : List TModuleStep
  fData : Bool
  fType : Bytes
  fName : Bytes
  fKey : TKey
  deriving Inhabited, DecidableEq

def TAddress.cs (x : TAddress) : List PV := [eL eTModuleStep x.fModule, eB x.fData, eS x.fType, eS x.fName, eI x.fKey.fKind, eI x.fKey.fNum, eS x.fKey.fStr]

def eTAddress (x : TAddress) : PV := .agg (TAddress.cs x)

theorem TAddress.cells_eq (x : TAddress) : (eTAddress x).cells = TAddress.cs x := rfl

theorem TAddress.agg_eq (x : TAddress) : eTAddress x = .agg (TAddress.cs x) := rfl

structure Treader where
  frest : Bytes
  fbad : Bool
  deriving Inhabited, DecidableEq

def Treader.cs (x : Treader) : List PV := [eS x.frest, eB x.fbad]

def eTreader (x : Treader) : PV := .agg (Treader.cs x)

theorem Treader.cells_eq (x : Treader) : (eTreader x).cells = Treader.cs x := rfl

theorem Treader.agg_eq (x : Treader) : eTreader x = .agg (Treader.cs x) := rfl

end Go.Ab

set_option linter.unusedVariables false
set_option linter.unusedSimpArgs false
namespace Go.Ab
structure TPlace where
  fAddr : TAddress
  fWhole : Bool
  deriving Inhabited, DecidableEq

def TPlace.cs (x : TPlace) : List PV := [eL eTModuleStep x.fAddr.fModule, eB x.fAddr.fData, eS x.fAddr.fType, eS x.fAddr.fName, eI x.fAddr.fKey.fKind, eI x.fAddr.fKey.fNum, eS x.fAddr.fKey.fStr, eB x.fWhole]

def eTPlace (x : TPlace) : PV := .agg (TPlace.cs x)

theorem TPlace.cells_eq (x : TPlace) : (eTPlace x).cells = TPlace.cs x := rfl

theorem TPlace.agg_eq (x : TPlace) : eTPlace x = .agg (TPlace.cs x) := rfl

end Go.Ab
