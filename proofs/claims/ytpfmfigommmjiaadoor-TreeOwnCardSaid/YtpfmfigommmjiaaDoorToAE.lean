/- Joined: NamesCmp, WalkItem. -/
import Derived.Test.YtpfmfigommmjiaaDoorToAD
import Derived.Test.YtpfmfigommmjiaaDoorTpAB
namespace Go.Proofs.YtpfmfigommmjiaaDoor
open Go.RowKit Plain
open Lib (compareBytes)
end Go.Proofs.YtpfmfigommmjiaaDoor
namespace Go.Proofs.YtpfmfigommmjiaaDoor
open Go.RowKit Plain
abbrev nk (s : ByteArray) : KT := (splP ck (bT s)).1
abbrev nc (s : ByteArray) : Int := (splP ck (bT s)).2
def lastIx (s : ByteArray) : Nat → Int
  | 0 => -1
  | n + 1 => if (s.data.toList.getD n 0).toNat = 47 then (n : Int) else lastIx s n
def parent (s : ByteArray) : ByteArray := s.extract 0 (lastIx s s.size).toNat
def icode (x : It) : Int :=
  if nc x.1 ≠ 0 then nc x.1
  else if (nk x.1).length = 0 then 8
  else if ¬ (1 ≤ x.2.1 ∧ x.2.1 ≤ 3) then 5
  else if x.2.2.1 < 0 ∨ 511 < x.2.2.1 then 1
  else if (x.2.1 = 1 ∧ 4096 < x.2.2.2.2.size) ∨ (x.2.1 = 2 ∧ x.2.2.2.2.size ≠ 0) ∨ (x.2.1 = 3 ∧ 1024 < x.2.2.2.2.size) then 2
  else if x.2.1 = 3 ∧ x.2.2.2.2.size = 0 then 4 else 0
end Go.Proofs.YtpfmfigommmjiaaDoor
