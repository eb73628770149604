/- Joined: IdOpen. -/
import Derived.Test.YtbfoonfbhebhfaaGreatDoorJGnT
import Derived.Test.YtbfoonfbhebhfaaGreatDoorJGnP
namespace Go.Proofs.YtbfoonfbhebhfaaGreatDoor
open Go.RowKit Go.ChangeShapes Go.WideShapes Go.ChangeAt Plain
set_option maxRecDepth 100000 in
theorem open_idsT {H : Type} {enc : TypeId × Value → H} {W : World} {r : Reach} {base b0 : Nat} {sp : Nat → Bool} {held : Bool} {v : Value} {d : DataW H} {p : List MemPlace} (ho : Value.okWide Tryz.prog W r b0 57 v) (hd : DataW.Trod enc Tryz.prog W base sp held 57 v d p) :
  ∃ (a : Option Addr) (l : List ID8) (cap : Nat), v = .slice a l.length cap ∧ l.length ≤ cap ∧ cap ≤ 9223372036854775807 ∧ SAt 8 idC W a l := by
 obtain ⟨a, l, cap, rfl, h1, h2, _, h4, _⟩ := SAt.open_ (n := 8) (c := idC) (fun t => ∀ c ∈ idL t, c < 256) Tryz.underlying57 cells_idI (by decide) idC_length read_id8 ho hd
 exact ⟨a, l, cap, rfl, h1, h2, h4⟩
end Go.Proofs.YtbfoonfbhebhfaaGreatDoor
