/- The walks of the laws on products of package roll: RollField and RollFrobenius return true. -/
import Derived.Test.YtcocdlhjfbpkfaaRollW
namespace Go.Proofs.Ytcocdlhjfbpkfaa
open Go.RowKit Plain
theorem rollOne (a : Nat) (ha : a < 4294967296) : ((((times a 1 : Nat) : Int) == (a : Int)) = true) ∨ (((((times a 1 : Nat) : Int) == (a : Int)) = false) ∧ (((a : Int) / 2147483648 == 1) = true)) := by
  by_cases h : a < 2 ^ 31
  · left; rw [times_one, red_small a h]; simp
  · by_cases h2 : times a 1 = a
    · left; rw [h2]; simp
    · right
      refine ⟨by simp; omega, ?_⟩
      simp; omega
set_option maxRecDepth 100000 in
set_option maxHeartbeats 1000000 in
theorem rollField_walk (a b c : Nat) (w : World) (ha : a < 4294967296) (hb : b < 4294967296) (hc : c < 4294967296) :
    Calls Try.prog 5 #[.int .u32 a, .int .u32 b, .int .u32 c] w fun e w' => e = .returned (.bool true) ∧ w = w' := by
  have q1 := natEq (times_comm a b ha hb)
  have q2 := natEq (times_assoc a b c ha hb hc)
  have q3 := natEq (times_lin_right a b c)
  have q4 := natEq (times_red a b ha hb)
  have q0 : (((times 3 1073741824 : Nat) : Int) == 1073741833) = true := by decide +kernel
  have b1 : times a b < 2147483648 := times_lt a b ha
  have b2 : times b c < 2147483648 := times_lt b c hb
  have b3 : times a c < 2147483648 := times_lt a c ha
  have b4 : times a 1 < 2147483648 := times_lt a 1 ha
  have b5 : b ^^^ c < 4294967296 := Nat.xor_lt_two_pow (n := 32) hb hc
  have x1 := u32_xor_nat b c hb hc
  have x2 := u32_xor_nat (times a b) (times a c) (by omega) (by omega)
  have z : (((times a 1 : Nat) : Int) / 2147483648 == 0) = true := by simp; omega
  rcases rollOne a ha with o1 | ⟨o1, o2⟩
  all_goals
    go_enter Try.func5, Try.ntmps5
    go_wp2_with (go_at_call 17; refine (times_int _ _ _ (by omega) (by omega) (by omega) (by omega)).mono ?_; rintro e w' ⟨rfl, rfl⟩)
    go_ret
    exact ⟨rfl, rfl⟩
theorem sq_int (a : Int) (w : World) (ha0 : 0 ≤ a) (ha : a < 4294967296) :
    Calls Try.prog 18 #[.int .u32 a] w fun e w' => e = .returned (.int .u32 (times a.toNat a.toNat)) ∧ w = w' := by
  obtain ⟨A, rfl⟩ := Int.eq_ofNat_of_zero_le ha0
  go_enter Try.func18, Try.ntmps18
  go_wp2_with (go_at_call 17; refine (times_int _ _ _ (by omega) (by omega) (by omega) (by omega)).mono ?_; rintro e w' ⟨rfl, rfl⟩)
  go_ret
  exact ⟨rfl, rfl⟩
theorem sqN_step (n y : Nat) (h : 0 < n) : sqN n y = sqN (n - 1) (times y y) := by
  cases n with
  | zero => omega
  | succ n => rfl
set_option maxRecDepth 100000 in
set_option maxHeartbeats 1000000 in
theorem rollFrobenius_walk (a b : Nat) (w : World) (ha : a < 4294967296) (hb : b < 4294967296) :
    Calls Try.prog 6 #[.int .u32 a, .int .u32 b] w fun e w' => e = .returned (.bool true) ∧ w = w' := by
  have q0 : (((times 2 2 : Nat) : Int) == 4) = true := by decide +kernel
  have q1 := natEq (times_sq_xor a b ha hb)
  have b1 : times a a < 2147483648 := times_lt a a ha
  have b2 : times b b < 2147483648 := times_lt b b hb
  have b4 : times a 1 < 2147483648 := times_lt a 1 ha
  have b5 : a ^^^ b < 4294967296 := Nat.xor_lt_two_pow (n := 32) ha hb
  have x1 := u32_xor_nat a b ha hb
  have x2 := u32_xor_nat (times a a) (times b b) (by omega) (by omega)
  have hx := sqN_31 (times a 1) b4
  have HX := Lib.hid hx
  clear hx
  go_enter Try.func6, Try.ntmps6
  go_wp2_with (go_at_call 17; refine (times_int _ _ _ (by omega) (by omega) (by omega) (by omega)).mono ?_; rintro e w' ⟨rfl, rfl⟩)
  go_loop [7, 11] (fun x i => ∃ k y : Nat, k ≤ 31 ∧ y < 2147483648 ∧ sqN (31 - k) y = times a 1 ∧ x = .int .u32 y ∧ i = .int .i64 k) (fun _ i => 31 - (intOf i).toNat)
  case atStart => exact ⟨0, _, by decide, b4, HX.out, rfl, rfl⟩
  case round =>
    obtain ⟨k, y, hk, hy, he, rfl, rfl⟩ := hrel
    by_cases hz : k < 31
    · rw [sqN_step _ _ (by omega)] at he
      have H := Lib.hid he
      clear he
      have hyy : times y y < 2147483648 := times_lt y y (by omega)
      go_wp2_with (go_at_call 18; refine (sq_int _ _ (by omega) (by omega)).mono ?_; rintro e w' ⟨rfl, rfl⟩)
      go_round
      case rel => exact ⟨k + 1, _, by omega, hyy, by rw [← H.out]; congr 1, by go_num, by go_num⟩
      case measure => simp [intOf]; omega
    · obtain rfl : k = 31 := by omega
      have hy1 : y = times a 1 := he
      clear he
      subst hy1
      go_wp2_with (first | (go_at_call 18; refine (sq_int _ _ (by omega) (by omega)).mono ?_; rintro e w' ⟨rfl, rfl⟩) | (go_at_call 17; refine (times_int _ _ _ (by omega) (by omega) (by omega) (by omega)).mono ?_; rintro e w' ⟨rfl, rfl⟩))
      go_ret
      exact ⟨rfl, rfl⟩
end Go.Proofs.Ytcocdlhjfbpkfaa
