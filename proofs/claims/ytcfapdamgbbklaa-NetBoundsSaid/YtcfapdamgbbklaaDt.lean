/- Printed by a program of this session: the structures of the program. -/
import Derived.Test.YtcfapdamgbbklaaPh
namespace Go.Proofs.Ytcfapdamgbbklaa
set_option linter.unusedVariables false
structure net_bag where
  b_ : List UInt8
  spoilt_ : Bool
  deriving DecidableEq, Repr, Inhabited
structure net_Net where
  l_0 : List net_bag
  l_1 : List net_bag
  deriving DecidableEq, Repr, Inhabited
structure api_Packet where
  Kind : Int
  Path : Int
  Number : Int
  Of : Int
  From : Int
  Data : List UInt8
  Fin : Bool
  Seen : Int
  Limit : Int
  deriving DecidableEq, Repr, Inhabited
structure span_Reader where
  b_ : List UInt8
  at_ : Int
  bad_ : Bool
  deriving DecidableEq, Repr, Inhabited
end Go.Proofs.Ytcfapdamgbbklaa
