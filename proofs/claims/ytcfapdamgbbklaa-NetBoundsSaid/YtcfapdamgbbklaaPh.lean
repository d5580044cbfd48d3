/- Plain functions for what was walked by hand: the library's, and the sum's. -/
import Derived.Test.YtcfapdamgbbklaaPb
namespace Go.Proofs.Ytcfapdamgbbklaa
abbrev lim14 : Nat := 140737488351300
def bytes_Clone (b : List UInt8) : Option (List UInt8) := if b.length ≤ lim14 then some b else none
def bytes_Equal (a b : List UInt8) : Option Bool := some (a == b)
def slices_Grow_sbyte_byte (b : List UInt8) (n : Int) : Option (List UInt8) := if b = [] ∧ 0 ≤ n ∧ n ≤ 140737488351300 then some [] else none
def sum_Seal (b : List UInt8) : Option (List UInt8) := if b.length ≤ lim14 then some (sealL b) else none
def sum_Open (b : List UInt8) : Option (List UInt8 × Bool) := if b.length ≤ lim14 then some (openL b, openB b) else none
def sum_Spoil (b : List UInt8) (bit : Int) (mask : UInt32) : Option (List UInt8) := if b.length ≤ lim14 ∧ -9223372036854775808 ≤ bit ∧ bit ≤ 9223372036854775807 then some (spoilL b bit mask) else none
def haulierref01_Seal (b : List UInt8) : Option (List UInt8) := sum_Seal b
def haulierref01_Open (b : List UInt8) : Option (List UInt8 × Bool) := sum_Open b
def haulierref01_Spoil (b : List UInt8) (bit : Int) (mask : UInt32) : Option (List UInt8) := sum_Spoil b bit mask
/-- Lent bytes; are they as they were? -/
def haulierkeep_Lend (b : List UInt8) : Option (List UInt8) := if b.length ≤ lim14 then some b else none
def haulierkeep_Intact (b a : List UInt8) : Option Bool := if b = a ∧ a.length ≤ lim14 then some true else none
end Go.Proofs.Ytcfapdamgbbklaa
