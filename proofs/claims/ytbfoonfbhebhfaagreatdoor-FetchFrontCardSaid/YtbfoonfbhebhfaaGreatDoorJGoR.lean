/- Joined: Rest. -/
import Derived.Test.YtbfoonfbhebhfaaGreatDoorJGnB
import Derived.Test.YtbfoonfbhebhfaaGreatDoorRows
namespace Go.Proofs.YtbfoonfbhebhfaaGreatDoor
open Go.RowKit
set_option maxRecDepth 100000 in
theorem rest_any (a n : Int) (w : World) (hn : 0 < n) (hn2 : n < 4611686018427387904) :
  Calls Tryz.prog 19 #[.int .i64 a, .int .i64 n] w fun e w' => (∃ r : Nat, (r : Int) < n ∧ e = .returned (.int .i64 (r : Int))) ∧ w' = w := by
 have h1 := Int.tmod_lt_of_pos a hn
 have h2 := Int.lt_tmod_of_pos a hn
 obtain ⟨t, ht⟩ : ∃ t, a.tmod n = t := ⟨_, rfl⟩
 rw [ht] at h1 h2
 have h3 := Int.tmod_lt_of_pos (t + n) hn
 have h4 : 0 ≤ (t + n).tmod n := Int.tmod_nonneg _ (by omega)
 obtain ⟨r, hr⟩ : ∃ r : Nat, (t + n).tmod n = (r : Int) := ⟨((t + n).tmod n).toNat, by omega⟩
 rw [hr] at h3 h4
 have hw : IntKind.i64.wrap (t + n) = t + n := wraps_i64 _ (by omega) (by omega)
 go_enter Tryz.func19, Tryz.ntmps19
 go_wp2
 go_ret
 exact ⟨⟨r, h3, rfl⟩, rfl⟩
end Go.Proofs.YtbfoonfbhebhfaaGreatDoor
