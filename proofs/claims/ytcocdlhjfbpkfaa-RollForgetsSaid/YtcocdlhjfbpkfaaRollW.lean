/- The walks of package roll: what reduce, Times, shift and last compute. -/
import Derived.Test.YtcocdlhjfbpkfaaRows
import Derived.Test.YtcocdlhjfbpkfaaRollPlain
import Derived.Test.YtcocdlhjfbpkfaaBits
import Derived.WalkKit
import Derived.WalkSpells
import Derived.WalkLawsBesides
import Derived.Lib.Hide
namespace Go.Proofs.Ytcocdlhjfbpkfaa
open Go.RowKit Plain
theorem redStep_bound (v m : Nat) (h1 : 31 ≤ v) (h2 : v ≤ 63) (hm : m < 18446744073709551616) : 2147483657 <<< (v - 31) < 18446744073709551616 ∧ redStep v m < 18446744073709551616 := by
  have h : 2147483657 <<< (v - 31) < 2 ^ 64 := by
    rw [Nat.shiftLeft_eq]
    have hp : 2 ^ (v - 31) ≤ 2 ^ 32 := Nat.pow_le_pow_right (by decide) (by omega)
    exact Nat.lt_of_le_of_lt (Nat.mul_le_mul_left _ hp) (by decide)
  refine ⟨h, Nat.xor_lt_two_pow (n := 64) hm ?_⟩
  cases m.testBit v
  · simp
  · exact h
theorem redK_step (v m : Nat) (h1 : 31 ≤ v) : redK (v - 30) m = redK (v - 1 - 30) (redStep v m) := by
  obtain ⟨j, rfl⟩ : ∃ j, v = 31 + j := ⟨v - 31, by omega⟩
  rw [show 31 + j - 30 = j + 1 by omega, show 31 + j - 1 - 30 = j by omega]
  rfl
set_option maxRecDepth 100000 in
theorem reduce_any (n : Nat) (w : World) (hn : n < 18446744073709551616) :
    Calls Try.prog 31 #[.int .u64 n] w fun e w' => e = .returned (.int .u32 (red n)) ∧ w = w' := by
  have hr : red n < 2 ^ 31 := red_lt n hn
  go_enter Try.func31, Try.ntmps31
  go_wp2
  go_loop [0, 3] (fun x i => ∃ v m : Nat, 30 ≤ v ∧ v ≤ 63 ∧ m < 18446744073709551616 ∧ redK (v - 30) m = red n ∧ x = .int .u64 m ∧ i = .int .i64 v) (fun _ i => (intOf i).toNat)
  case atStart => exact ⟨63, n, by decide, by decide, hn, rfl, rfl, rfl⟩
  case round =>
    obtain ⟨v, m, hv1, hv2, hm, he, rfl, rfl⟩ := hrel
    by_cases hz : v = 30
    · subst hz
      have hmr : m = red n := he
      subst hmr
      clear he
      go_wp2
      go_ret
      exact ⟨rfl, rfl⟩
    · have hs := redK_step v m (by omega)
      have ⟨hb1, hb2⟩ := redStep_bound v m (by omega) hv2 hm
      have e1 := bit_u64 m v hm
      have e2 : IntKind.u64.wrap (2147483657 * 2 ^ (v - 31)) = ((2147483657 <<< (v - 31) : Nat) : Int) := shl_u64 2147483657 (v - 31) hb1
      have e3 := bits_xor_u64_nat m (2147483657 <<< (v - 31)) hm hb1
      rw [he] at hs
      unfold redStep at hs hb2
      generalize 2147483657 <<< (v - 31) = C at *
      have HS := Lib.hid hs
      clear hs he
      cases ht : m.testBit v
      all_goals
        rw [ht] at e1
        have H := HS.out
        rw [ht] at H hb2
        have HS' := Lib.hid H
        clear HS H
        simp only [cond_true, cond_false, Nat.xor_zero] at e1 hb2
        clear ht
        go_wp2
        go_round
        case rel => first | exact ⟨v - 1, m, by omega, by omega, hm, by rw [HS'.out]; simp, by go_num, by go_num⟩ | exact ⟨v - 1, _, by omega, by omega, hb2, HS'.out.symm, by go_num, by go_num⟩
        case measure => simp [intOf]; omega
theorem reduce_int (n : Int) (w : World) (h0 : 0 ≤ n) (hn : n.toNat < 18446744073709551616) :
    Calls Try.prog 31 #[.int .u64 n] w fun e w' => e = .returned (.int .u32 (red n.toNat)) ∧ w = w' := by
  obtain ⟨A, rfl⟩ := Int.eq_ofNat_of_zero_le h0
  exact reduce_any A w (by omega)
set_option maxRecDepth 100000 in
theorem times_any (a b : Nat) (w : World) (ha : a < 4294967296) (hb : b < 4294967296) :
    Calls Try.prog 17 #[.int .u32 a, .int .u32 b] w fun e w' => e = .returned (.int .u32 (times a b)) ∧ w = w' := by
  go_enter Try.func17, Try.ntmps17
  go_wp2
  go_loop [5, 7] (fun x i => ∃ k m : Nat, k ≤ 32 ∧ m < 18446744073709551616 ∧ m = cmul k a b ∧ x = .int .u64 m ∧ i = .int .i64 k) (fun _ i => 32 - (intOf i).toNat)
  case atStart => exact ⟨0, 0, by decide, by decide, rfl, rfl, rfl⟩
  case round =>
    obtain ⟨k, m, hk, hm, he, rfl, rfl⟩ := hrel
    have H := Lib.hid he
    clear he
    by_cases hz : k < 32
    · have hlt : a <<< k < 2 ^ 64 := by
        rw [Nat.shiftLeft_eq]
        have hp : 2 ^ k ≤ 2 ^ 32 := Nat.pow_le_pow_right (by decide) (by omega)
        have h1 : a * 2 ^ k < 4294967296 * 2 ^ k := Nat.mul_lt_mul_of_pos_right ha (Nat.two_pow_pos k)
        have h2 : 4294967296 * 2 ^ k ≤ 4294967296 * 2 ^ 32 := Nat.mul_le_mul_left _ hp
        exact Nat.lt_of_lt_of_le h1 (Nat.le_trans h2 (by decide))
      have hlt' : a <<< k < 18446744073709551616 := hlt
      have e1 := bit_u32 b k hb
      have e2 := shl_u64 a k hlt'
      have e3 := bits_xor_u64_nat m (a <<< k) hm hlt'
      have hb2 : m ^^^ a <<< k < 2 ^ 64 := Nat.xor_lt_two_pow (n := 64) hm hlt
      have hs : cmul (k + 1) a b = m ^^^ (bif b.testBit k then a <<< k else 0) := by rw [H.out]; rfl
      generalize a <<< k = C at *
      have HS := Lib.hid hs
      clear hs hlt
      cases ht : b.testBit k
      all_goals
        rw [ht] at e1
        have H2 := HS.out
        rw [ht] at H2
        have HS' := Lib.hid H2
        clear HS H2
        simp only [cond_true, cond_false] at e1
        clear ht
        go_wp2
        go_round
        case rel => first | exact ⟨k + 1, m, by omega, hm, by rw [HS'.out]; simp, by go_num, by go_num⟩ | exact ⟨k + 1, _, by omega, hb2, HS'.out.symm, by go_num, by go_num⟩
        case measure => simp [intOf]; omega
    · obtain rfl : k = 32 := by omega
      have hr : red m < 2 ^ 31 := red_lt m hm
      go_wp2_with (go_at_call 31; refine (reduce_int _ _ (by omega) (by omega)).mono ?_; rintro e w' ⟨rfl, rfl⟩)
      go_ret
      exact ⟨ret_int (by unfold times; rw [← H.out]), rfl⟩
theorem times_int (a b : Int) (w : World) (ha0 : 0 ≤ a) (ha : a < 4294967296) (hb0 : 0 ≤ b) (hb : b < 4294967296) :
    Calls Try.prog 17 #[.int .u32 a, .int .u32 b] w fun e w' => e = .returned (.int .u32 (times a.toNat b.toNat)) ∧ w = w' := by
  obtain ⟨A, rfl⟩ := Int.eq_ofNat_of_zero_le ha0
  obtain ⟨B, rfl⟩ := Int.eq_ofNat_of_zero_le hb0
  exact times_any A B w (by omega) (by omega)
end Go.Proofs.Ytcocdlhjfbpkfaa
