/- The walks of package roll: what reduce, Times, shift and last compute. -/
import Derived.Test.YtbmklkjjkjgehaaRows
import Derived.Test.YtbmklkjjkjgehaaRollPlain
import Derived.Test.YtbmklkjjkjgehaaBits
import Derived.WalkKit
import Derived.WalkSpells
import Derived.WalkLawsBesides
import Derived.Lib.Hide
namespace Go.Proofs.Ytbmklkjjkjgehaa
open Go.RowKit Plain
theorem redStep_bound (v m : Nat) (h1 : 31 ≤ v) (h2 : v ≤ 63) (hm : m < 18446744073709551616) : 2147483657 <<< (v - 31) < 18446744073709551616 ∧ redStep v m < 18446744073709551616 := by
  have h : 2147483657 <<< (v - 31) < 2 ^ 64 := by
    rw [Nat.shiftLeft_eq]
    have hp : 2 ^ (v - 31) ≤ 2 ^ 32 := Nat.pow_le_pow_right (by decide) (by omega)
    exact Nat.lt_of_le_of_lt (Nat.mul_le_mul_left _ hp) (by decide)
  refine ⟨h, Nat.xor_lt_two_pow (n := 64) hm ?_⟩
  cases m.testBit v
  · simp
  · exact h
theorem redK_step (v m : Nat) (h1 : 31 ≤ v) : redK (v - 30) m = redK (v - 1 - 30) (redStep v m) := by
  obtain ⟨j, rfl⟩ : ∃ j, v = 31 + j := ⟨v - 31, by omega⟩
  rw [show 31 + j - 30 = j + 1 by omega, show 31 + j - 1 - 30 = j by omega]
  rfl
set_option maxRecDepth 100000 in
theorem reduce_any (n : Nat) (w : World) (hn : n < 18446744073709551616) :
    Calls Try.prog 86 #[.int .u64 n] w fun e w' => e = .returned (.int .u32 (red n)) ∧ w = w' := by
  have hr : red n < 2 ^ 31 := red_lt n hn
  go_enter Try.func86, Try.ntmps86
  go_wp2
  go_loop [0, 3] (fun x i => ∃ v m : Nat, 30 ≤ v ∧ v ≤ 63 ∧ m < 18446744073709551616 ∧ redK (v - 30) m = red n ∧ x = .int .u64 m ∧ i = .int .i64 v) (fun _ i => (intOf i).toNat)
  case atStart => exact ⟨63, n, by decide, by decide, hn, rfl, rfl, rfl⟩
  case round =>
    obtain ⟨v, m, hv1, hv2, hm, he, rfl, rfl⟩ := hrel
    by_cases hz : v = 30
    · subst hz
      have hmr : m = red n := he
      subst hmr
      clear he
      go_wp2
      go_ret
      exact ⟨rfl, rfl⟩
    · have hs := redK_step v m (by omega)
      have ⟨hb1, hb2⟩ := redStep_bound v m (by omega) hv2 hm
      have e1 := bit_u64 m v hm
      have e2 : IntKind.u64.wrap (2147483657 * 2 ^ (v - 31)) = ((2147483657 <<< (v - 31) : Nat) : Int) := shl_u64 2147483657 (v - 31) hb1
      have e3 := bits_xor_u64_nat m (2147483657 <<< (v - 31)) hm hb1
      rw [he] at hs
      unfold redStep at hs hb2
      generalize 2147483657 <<< (v - 31) = C at *
      have HS := Lib.hid hs
      clear hs he
      cases ht : m.testBit v
      all_goals
        rw [ht] at e1
        have H := HS.out
        rw [ht] at H hb2
        have HS' := Lib.hid H
        clear HS H
        simp only [cond_true, cond_false, Nat.xor_zero] at e1 hb2
        clear ht
        go_wp2
        go_round
        case rel => first | exact ⟨v - 1, m, by omega, by omega, hm, by rw [HS'.out]; simp, by go_num, by go_num⟩ | exact ⟨v - 1, _, by omega, by omega, hb2, HS'.out.symm, by go_num, by go_num⟩
        case measure => simp [intOf]; omega
theorem reduce_int (n : Int) (w : World) (h0 : 0 ≤ n) (hn : n.toNat < 18446744073709551616) :
    Calls Try.prog 86 #[.int .u64 n] w fun e w' => e = .returned (.int .u32 (red n.toNat)) ∧ w = w' := by
  obtain ⟨A, rfl⟩ := Int.eq_ofNat_of_zero_le h0
  exact reduce_any A w (by omega)
end Go.Proofs.Ytbmklkjjkjgehaa
