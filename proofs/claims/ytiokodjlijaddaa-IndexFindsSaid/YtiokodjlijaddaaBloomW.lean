/- The walks of package bloom: positions. -/
import Derived.Test.YtiokodjlijaddaaRows
import Derived.Test.YtiokodjlijaddaaMem
import Derived.Test.YtiokodjlijaddaaBits2
import Derived.BigQuiet
import Derived.Deep.QuietTactic
import Derived.Deep.RegionHeld3
import Derived.Deep.MidRow
namespace Go.Proofs.Ytiokodjlijaddaa
open Go.RowKit
/-- an identifier's cells -/
def idC (a : List Nat) : Array Value := (a.map bV).toArray
/-- its first and its second number -/
def idHi (a : List Nat) : Nat := be32 (a.getD 0 0) (a.getD 1 0) (a.getD 2 0) (a.getD 3 0)
def idLo (a : List Nat) : Nat := be32 (a.getD 4 0) (a.getD 5 0) (a.getD 6 0) (a.getD 7 0)
def bpos (a : List Nat) (i : Nat) : Nat := (idHi a + i * idLo a) % 1024
end Go.Proofs.Ytiokodjlijaddaa
