/- The walk of the law MixBack: it returns true. -/
import Derived.Test.YtcocdlhjfbpkfaaMixW
namespace Go.Proofs.Ytcocdlhjfbpkfaa
open Go.RowKit Plain
set_option maxRecDepth 100000 in
theorem mixBack_aux (f g : Nat → Nat → Nat) (x b : Nat) (w : World) (hx : x < 18446744073709551616) (hb : b < 18446744073709551616)
    (S : Hid (∀ (x b : Int) (w : World), 0 ≤ x → x < 18446744073709551616 → 0 ≤ b → b < 18446744073709551616 → Calls Try.prog 15 #[.int .u64 x, .int .u64 b] w fun e w' => e = .returned (.int .u64 (f x.toNat b.toNat)) ∧ w = w'))
    (U : Hid (∀ (x b : Int) (w : World), 0 ≤ x → x < 18446744073709551616 → 0 ≤ b → b < 18446744073709551616 → Calls Try.prog 16 #[.int .u64 x, .int .u64 b] w fun e w' => e = .returned (.int .u64 (g x.toNat b.toNat)) ∧ w = w'))
    (q0 : (((f 1 2 : Nat) : Int) != 0) = true) (q1 : (((g (f x b) b : Nat) : Int) == (x : Int)) = true) (q2 : (((f (g x b) b : Nat) : Int) == (x : Int)) = true)
    (h1 : f x b < 18446744073709551616) (h2 : g x b < 18446744073709551616) :
    Calls Try.prog 4 #[.int .u64 x, .int .u64 b] w fun e w' => e = .returned (.bool true) ∧ w = w' := by
  go_enter Try.func4, Try.ntmps4
  go_wp2_with (first | (go_at_call 15; refine (S.out _ _ _ (by omega) (by omega) (by omega) (by omega)).mono ?_; rintro e w' ⟨rfl, rfl⟩) | (go_at_call 16; refine (U.out _ _ _ (by omega) (by omega) (by omega) (by omega)).mono ?_; rintro e w' ⟨rfl, rfl⟩))
  go_ret
  exact ⟨rfl, rfl⟩
theorem mixBack_walk (x b : Nat) (w : World) (hx : x < M64) (hb : b < M64) :
    Calls Try.prog 4 #[.int .u64 x, .int .u64 b] w fun e w' => e = .returned (.bool true) ∧ w = w' :=
  mixBack_aux mstep mundo x b w (lt64 hx) (lt64 hb) step_int undo_int step12_ne (natEq (mundo_step x b hx hb)) (natEq (mstep_undo x b hx)) (lt64 (mstep_lt x b)) (lt64 (mundo_lt x b hb))
end Go.Proofs.Ytcocdlhjfbpkfaa
