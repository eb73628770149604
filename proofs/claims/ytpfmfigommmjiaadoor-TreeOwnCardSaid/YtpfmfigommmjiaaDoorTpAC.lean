/- Joined: WalkCheck, WalkPath. -/
import Derived.Test.YtpfmfigommmjiaaDoorToAE
import Derived.Maps.Own
import Derived.Maps.OwnSet
import Derived.Maps.OwnOps
import Derived.Maps.Views
import Derived.StringKeys
import Derived.Lib.SmallJoins
import Derived.Deep.RegionHeld3
namespace Go.Proofs.YtpfmfigommmjiaaDoor
open Go.RowKit Plain Go.Maps
def litTrue (d : DataW Unit) : Prop := d = .lit (.bool true)
open Classical in
noncomputable def wgo : Option ByteArray → DataW Unit → List It → Int
  | _, _, [] => 0
  | pv, D, x :: l =>
    if icode x ≠ 0 then icode x
    else if ∃ p, pv = some p ∧ 0 ≤ cmpL (nk p) (nk x.1) then 4
    else if litTrue (D.atKey (.string (parent x.1).data.toList) (.lit (.bool false))) then wgo (some x.1) (D.put (.string x.1.data.toList) (.lit (.bool (x.2.1 == 2)))) l
    else 9
def dirs0 : DataW Unit := DataW.put (.map []) (.string (⟨#[]⟩ : ByteArray).data.toList) (.lit (.bool true))
noncomputable def wcode (l : List It) : Int := if 100 < l.length then 2 else wgo none dirs0 l
end Go.Proofs.YtpfmfigommmjiaaDoor
namespace Go.Proofs.YtpfmfigommmjiaaDoor
open Go.RowKit Plain Go.Maps
set_option linter.unusedVariables false
set_option linter.unusedSimpArgs false
def pthT (l : KT) : T := l.flatMap (fun a => 47 :: a)
def pthB (l : KT) : ByteArray := ⟨(pthT l).toArray⟩
def kidsW (w : List It) (k : KT) : List It := w.filter fun x => decide ((nk x.1).dropLast = k)
def flatW (w : List It) : Nat → KT → List It
  | 0, k => kidsW w k
  | n + 1, k => (kidsW w k).flatMap fun x => x :: if x.2.1 = 2 then flatW w n (nk x.1) else []
end Go.Proofs.YtpfmfigommmjiaaDoor
