/- Printed by a program of this session: the structures of the program. -/
import Derived.Test.YtgobccnphhljcaaPh
namespace Go.Proofs.Ytgobccnphhljcaa
set_option linter.unusedVariables false
structure api_Packet where
  Kind : Int
  Path : Int
  Number : Int
  Of : Int
  From : Int
  Data : List UInt8
  Fin : Bool
  Seen : Int
  Limit : Int
  deriving DecidableEq, Repr, Inhabited
structure span_Reader where
  b_ : List UInt8
  at_ : Int
  bad_ : Bool
  deriving DecidableEq, Repr, Inhabited
structure segment_Found where
  Number : Int
  Records : List (List UInt8)
  Whole : Int
  Sealed : Bool
  deriving DecidableEq, Repr, Inhabited
structure Anon64 where
  p_ : api_Packet
  b_ : List UInt8
  deriving DecidableEq, Repr, Inhabited
structure haulierref01_Reader where
  B : List UInt8
  At : Int
  Bad : Bool
  deriving DecidableEq, Repr, Inhabited
end Go.Proofs.Ytgobccnphhljcaa
