/- Joined: FetchE2. -/
import Derived.Test.YtbfoonfbhebhfaaGreatDoorJGpM
import Derived.Test.YtbfoonfbhebhfaaGreatDoorJGnM
import Derived.Test.YtbfoonfbhebhfaaGreatDoorJGoJ
namespace Go.Proofs.YtbfoonfbhebhfaaGreatDoor
open Go.RowKit Plain Go.Maps
set_option linter.unusedVariables false
set_option linter.unusedSimpArgs false
theorem own_capE {w : World} {B : Nat} {T : TypeId} {k n c : Nat} {a : Option Addr} {xs : List Value} (h : w.ownsRow B T k (.slice a n c) n xs) : n ≤ c := by
 rcases h.2 with ⟨h0, h1⟩ | ⟨g, cap, cur, h0, hB, hg, hn, _⟩
 ·
  omega
 ·
  injection h0 with _ _ h3
  omega
end Go.Proofs.YtbfoonfbhebhfaaGreatDoor
