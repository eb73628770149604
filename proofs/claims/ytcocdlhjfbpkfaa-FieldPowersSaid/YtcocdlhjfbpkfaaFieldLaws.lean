/- The walks of the laws on package field that speak of bytes and integers: FieldAxioms, FieldPowers, FieldCycle return true. -/
import Derived.Test.YtcocdlhjfbpkfaaFieldW
namespace Go.Proofs.Ytcocdlhjfbpkfaa
open Go.RowKit Plain
set_option maxHeartbeats 400000 in
theorem inv_zero (w : World) :
    Calls Try.prog 20 #[.int .u8 0] w fun e w' => e = .returned (.tuple #[.int .u8 0, .int .i64 1]) ∧ w = w' := by
  go_enter Try.func20, Try.ntmps20
  go_wp2
  go_ret2
  exact ⟨rfl, rfl⟩
set_option maxHeartbeats 400000 in
theorem inv_some (a : Nat) (w : World) (ha : a < 256) (h0 : a ≠ 0) :
    Calls Try.prog 20 #[.int .u8 a] w fun e w' => e = .returned (.tuple #[.int .u8 (fpow a 254), .int .i64 0]) ∧ w = w' := by
  go_enter Try.func20, Try.ntmps20
  go_wp2_with (go_at_call 32; refine (power_int _ _ _ (by omega) (by omega) (by omega) (by omega)).mono ?_; rintro e w' ⟨rfl, rfl⟩)
  go_ret2
  exact ⟨rfl, rfl⟩
theorem natEq {x y : Nat} (h : x = y) : ((x : Int) == (y : Int)) = true := by subst h; simp
set_option maxHeartbeats 1000000 in
theorem fieldAxioms_walk (a b c : Nat) (w : World) (ha : a < 256) (hb : b < 256) (hc : c < 256) :
    Calls Try.prog 8 #[.int .u8 a, .int .u8 b, .int .u8 c] w fun e w' => e = .returned (.bool true) ∧ w = w' := by
  have q1 := natEq (fmul_one a)
  have q2 := natEq (fmul_comm a b ha hb)
  have q3 := natEq (fmul_assoc a b c ha hb hc)
  have q4 := natEq (fmul_xor_right a b c)
  have b1 := fmul_lt a b ha
  have b2 := fmul_lt b a hb
  have b3 := fmul_lt b c hb
  have b4 := fmul_lt a c ha
  have b5 : b ^^^ c < 256 := Nat.xor_lt_two_pow (n := 8) hb hc
  have x1 := u8_xor_nat b c hb hc
  have x2 := u8_xor_nat (fmul a b) (fmul a c) b1 b4
  by_cases h0 : a = 0
  · subst h0
    have z : (((fmul 0 b : Nat) : Int) == 0) = true := natEq (fmul_zero_left b)
    go_enter Try.func8, Try.ntmps8
    go_wp2_with (first | (go_at_call 20; refine (inv_zero _).mono ?_; rintro e w' ⟨rfl, rfl⟩) | (go_at_call 21; refine (mul_int _ _ _ (by omega) (by omega) (by omega) (by omega)).mono ?_; rintro e w' ⟨rfl, rfl⟩))
    go_ret
    exact ⟨rfl, rfl⟩
  · have hi := fpow_lt a 254
    have q5 : (((fmul a (fpow a 254) : Nat) : Int) == 1) = true := natEq (inv_right a ha h0)
    have d0 : ((a : Int) == 0) = false := by simp; omega
    by_cases hb0 : b = 0
    · have z : (((fmul a b : Nat) : Int) == 0) = true := by rw [hb0, fmul_zero_right]; rfl
      have d1 : ((b : Int) == 0) = true := by rw [hb0]; rfl
      clear hb0
      go_enter Try.func8, Try.ntmps8
      go_wp2_with (first | (go_at_call 20; refine (inv_some _ _ (by omega) (by omega)).mono ?_; rintro e w' ⟨rfl, rfl⟩) | (go_at_call 21; refine (mul_int _ _ _ (by omega) (by omega) (by omega) (by omega)).mono ?_; rintro e w' ⟨rfl, rfl⟩))
      go_ret
      exact ⟨rfl, rfl⟩
    · have d1 : ((b : Int) == 0) = false := by simp; omega
      have d2 : (((fmul a b : Nat) : Int) == 0) = false := by
        have := fun h => fmul_eq_zero a b ha hb h
        simp
        omega
      go_enter Try.func8, Try.ntmps8
      go_wp2_with (first | (go_at_call 20; refine (inv_some _ _ (by omega) (by omega)).mono ?_; rintro e w' ⟨rfl, rfl⟩) | (go_at_call 21; refine (mul_int _ _ _ (by omega) (by omega) (by omega) (by omega)).mono ?_; rintro e w' ⟨rfl, rfl⟩))
      go_ret
      exact ⟨rfl, rfl⟩
theorem pow_neg (a n : Int) (w : World) (hn : n < 0) :
    Calls Try.prog 22 #[.int .u8 a, .int .i64 n] w fun e w' => e = .returned (.tuple #[.int .u8 0, .int .i64 1]) ∧ w = w' := by
  go_enter Try.func22, Try.ntmps22
  go_wp2
  go_ret2
  exact ⟨rfl, rfl⟩
theorem pow_any (A B : Nat) (w : World) (ha : A < 256) (hn : B ≤ 9223372036854775807) :
    Calls Try.prog 22 #[.int .u8 A, .int .i64 B] w fun e w' => e = .returned (.tuple #[.int .u8 (fpow A B), .int .i64 0]) ∧ w = w' := by
  go_enter Try.func22, Try.ntmps22
  go_wp2_with (go_at_call 32; refine (power_any _ _ _ (by omega) (by omega)).mono ?_; rintro e w' ⟨rfl, rfl⟩)
  go_ret2
  exact ⟨rfl, rfl⟩
theorem pow_int (a n : Int) (w : World) (ha0 : 0 ≤ a) (ha : a < 256) (hn0 : 0 ≤ n) (hn : n.toNat ≤ 9223372036854775807) :
    Calls Try.prog 22 #[.int .u8 a, .int .i64 n] w fun e w' => e = .returned (.tuple #[.int .u8 (fpow a.toNat n.toNat), .int .i64 0]) ∧ w = w' := by
  obtain ⟨A, rfl⟩ := Int.eq_ofNat_of_zero_le ha0
  obtain ⟨B, rfl⟩ := Int.eq_ofNat_of_zero_le hn0
  exact pow_any A B w (by omega) (by omega)
set_option maxHeartbeats 1000000 in
set_option maxRecDepth 100000 in
theorem fieldCycle_walk (a : Nat) (w : World) (ha : a < 256) :
    Calls Try.prog 10 #[.int .u8 a] w fun e w' => e = .returned (.bool true) ∧ w = w' := by
  go_enter Try.func10, Try.ntmps10
  go_wp2
  go_loop [3, 7] (fun m n => ∃ k h : Nat, k ≤ 255 ∧ h ≤ k ∧ h = hits a k ∧ m = .int .i64 h ∧ n = .int .i64 k) (fun _ n => 255 - (intOf n).toNat)
  case atStart => exact ⟨0, 0, by omega, by omega, rfl, rfl, rfl⟩
  case round =>
    obtain ⟨k, h, hk, hhk, he, rfl, rfl⟩ := hrel
    have H := Lib.hid he
    clear he
    by_cases hlt : k < 255
    · have hp := fpow_lt 2 k
      have hs := hits_succ a k
      by_cases hq : fpow 2 k = a
      · have q : (((fpow 2 k : Nat) : Int) == (a : Int)) = true := natEq hq
        rw [if_pos hq] at hs
        have HS := Lib.hid hs
        clear hs hq
        go_wp2_with (go_at_call 22; refine (pow_int _ _ _ (by omega) (by omega) (by omega) (by omega)).mono ?_; rintro e w' ⟨rfl, rfl⟩)
        go_round
        case rel => exact ⟨k + 1, h + 1, by omega, by omega, by rw [HS.out, H.out], by go_num, by go_num⟩
        case measure => simp [intOf]; omega
      · have q : (((fpow 2 k : Nat) : Int) == (a : Int)) = false := by simp; omega
        rw [if_neg hq] at hs
        have HS := Lib.hid hs
        clear hs hq
        go_wp2_with (go_at_call 22; refine (pow_int _ _ _ (by omega) (by omega) (by omega) (by omega)).mono ?_; rintro e w' ⟨rfl, rfl⟩)
        go_round
        case rel => exact ⟨k + 1, h, by omega, by omega, by rw [HS.out, H.out, Nat.add_zero], by go_num, by go_num⟩
        case measure => simp [intOf]; omega
    · have e255 : k = 255 := by omega
      subst e255
      have hh := hits_255 a ha
      rw [← H.out] at hh
      by_cases h0 : a = 0
      · rw [if_pos h0] at hh
        have d : ((a : Int) == 0) = true := by rw [h0]; rfl
        have d2 : ((a : Int) != 0) = false := by rw [h0]; rfl
        clear H h0
        subst hh
        have q : (((fmul 2 128 : Nat) : Int) == 29) = true := by decide +kernel
        go_wp2_with (go_at_call 21; refine (mul_int _ _ _ (by omega) (by omega) (by omega) (by omega)).mono ?_; rintro e w' ⟨rfl, rfl⟩)
        go_ret
        exact ⟨rfl, rfl⟩
      · rw [if_neg h0] at hh
        have d : ((a : Int) == 0) = false := by simp; omega
        have d2 : ((a : Int) != 0) = true := by simp; omega
        clear H h0
        subst hh
        go_wp2
        go_ret
        exact ⟨rfl, rfl⟩
/-- the tests of FieldPowers, as the walk spells them -/
theorem natNe {x y : Nat} (h : x = y) : ((x : Int) != (y : Int)) = false := by subst h; simp
set_option maxRecDepth 100000 in
set_option maxHeartbeats 1000000 in
theorem fieldPowers_out (a b : Nat) (n m : Int) (w : World) (ha : a < 256) (hb : b < 256) (hn : n < 0 ∨ m < 0 ∨ 4611686018427387904 < n ∨ 4611686018427387903 < m) :
    Calls Try.prog 9 #[.int .u8 a, .int .u8 b, .int .i64 n, .int .i64 m] w fun e w' => e = .returned (.bool true) ∧ w = w' := by
  have bx : a ^^^ b < 256 := Nat.xor_lt_two_pow (n := 8) ha hb
  have x1 := u8_xor_nat a b ha hb
  have b1 := fmul_lt a a ha
  have b2 := fmul_lt b b hb
  have x2 := u8_xor_nat (fmul a a) (fmul b b) b1 b2
  have q1 := natNe (fmul_sq_xor a b ha hb)
  have hp := fpow_lt a 255
  have p1 : (((fpow a 255 : Nat) : Int) != 1) = false ∨ ((((fpow a 255 : Nat) : Int) != 1) = true ∧ ((a : Int) != 0) = false) := by
    by_cases h0 : a = 0
    · right
      have e : fpow a 255 = 0 := by
        show fmul (fpow a 254) a = 0
        rw [h0, fmul_zero_right]
      rw [e, h0]
      exact ⟨rfl, rfl⟩
    · left; exact natNe (fpow_255 a ha h0)
  by_cases c1 : n < 0
  · rcases p1 with p1 | ⟨p1, p2⟩
    all_goals
      go_enter Try.func9, Try.ntmps9
      go_wp2_with (first | (go_at_call 22; refine (pow_int _ _ _ (by omega) (by omega) (by omega) (by omega)).mono ?_; rintro e w' ⟨rfl, rfl⟩) | (go_at_call 21; refine (mul_int _ _ _ (by omega) (by omega) (by omega) (by omega)).mono ?_; rintro e w' ⟨rfl, rfl⟩))
      go_ret
      exact ⟨rfl, rfl⟩
  · by_cases c2 : m < 0
    · rcases p1 with p1 | ⟨p1, p2⟩
      all_goals
        go_enter Try.func9, Try.ntmps9
        go_wp2_with (first | (go_at_call 22; refine (pow_int _ _ _ (by omega) (by omega) (by omega) (by omega)).mono ?_; rintro e w' ⟨rfl, rfl⟩) | (go_at_call 21; refine (mul_int _ _ _ (by omega) (by omega) (by omega) (by omega)).mono ?_; rintro e w' ⟨rfl, rfl⟩))
        go_ret
        exact ⟨rfl, rfl⟩
    · by_cases c3 : 4611686018427387904 < n
      · rcases p1 with p1 | ⟨p1, p2⟩
        all_goals
          go_enter Try.func9, Try.ntmps9
          go_wp2_with (first | (go_at_call 22; refine (pow_int _ _ _ (by omega) (by omega) (by omega) (by omega)).mono ?_; rintro e w' ⟨rfl, rfl⟩) | (go_at_call 21; refine (mul_int _ _ _ (by omega) (by omega) (by omega) (by omega)).mono ?_; rintro e w' ⟨rfl, rfl⟩))
          go_ret
          exact ⟨rfl, rfl⟩
      · have c4 : 4611686018427387903 < m := by omega
        rcases p1 with p1 | ⟨p1, p2⟩
        all_goals
          go_enter Try.func9, Try.ntmps9
          go_wp2_with (first | (go_at_call 22; refine (pow_int _ _ _ (by omega) (by omega) (by omega) (by omega)).mono ?_; rintro e w' ⟨rfl, rfl⟩) | (go_at_call 21; refine (mul_int _ _ _ (by omega) (by omega) (by omega) (by omega)).mono ?_; rintro e w' ⟨rfl, rfl⟩))
          go_ret
          exact ⟨rfl, rfl⟩
set_option maxRecDepth 100000 in
set_option maxHeartbeats 1000000 in
theorem fieldPowers_in (a b n m : Nat) (w : World) (ha : a < 256) (hb : b < 256) (hn : n ≤ 4611686018427387904) (hm : m ≤ 4611686018427387903) :
    Calls Try.prog 9 #[.int .u8 a, .int .u8 b, .int .i64 n, .int .i64 m] w fun e w' => e = .returned (.bool true) ∧ w = w' := by
  have bx : a ^^^ b < 256 := Nat.xor_lt_two_pow (n := 8) ha hb
  have x1 := u8_xor_nat a b ha hb
  have b1 := fmul_lt a a ha
  have b2 := fmul_lt b b hb
  have x2 := u8_xor_nat (fmul a a) (fmul b b) b1 b2
  have q1 := natNe (fmul_sq_xor a b ha hb)
  have hp := fpow_lt a 255
  have hp1 := fpow_lt a n
  have hp2 := fpow_lt a m
  have q2 := natEq (fpow_add a n m ha).symm
  have p1 : (((fpow a 255 : Nat) : Int) != 1) = false ∨ ((((fpow a 255 : Nat) : Int) != 1) = true ∧ ((a : Int) != 0) = false) := by
    by_cases h0 : a = 0
    · right
      have e : fpow a 255 = 0 := by
        show fmul (fpow a 254) a = 0
        rw [h0, fmul_zero_right]
      rw [e, h0]
      exact ⟨rfl, rfl⟩
    · left; exact natNe (fpow_255 a ha h0)
  have s1 : ((n : Int) + (m : Int)).toNat = n + m := by omega
  rcases p1 with p1 | ⟨p1, p2⟩
  all_goals
    go_enter Try.func9, Try.ntmps9
    go_wp2_with (first | (go_at_call 22; refine (pow_int _ _ _ (by omega) (by omega) (by omega) (by omega)).mono ?_; rintro e w' ⟨rfl, rfl⟩) | (go_at_call 21; refine (mul_int _ _ _ (by omega) (by omega) (by omega) (by omega)).mono ?_; rintro e w' ⟨rfl, rfl⟩))
    go_ret
    exact ⟨rfl, rfl⟩
end Go.Proofs.Ytcocdlhjfbpkfaa
