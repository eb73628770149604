/- Cut to so many bits: by shifts to and fro as by the mask. -/
import Derived.Test.YtcocdlhjfbpkfaaMixNarrow
import Derived.Test.YtcocdlhjfbpkfaaMixChainPlain
namespace Go.Proofs.Ytcocdlhjfbpkfaa
open Go.RowKit Plain
theorem maskOf_eq (k : Nat) (hk : k ≤ 64) : maskOf k = 2 ^ k - 1 := by
  unfold maskOf full
  have h : 18446744073709551615 = 2 ^ 64 - 1 := by decide
  rw [h]
  have e : 2 ^ 64 = 2 ^ k * 2 ^ (64 - k) := by rw [← Nat.pow_add]; congr 1; omega
  have hp : 0 < 2 ^ (64 - k) := Nat.two_pow_pos _
  have hk1 : 1 ≤ 2 ^ k := Nat.two_pow_pos _
  rw [e]
  have e2 : 2 ^ k * 2 ^ (64 - k) - 1 = (2 ^ (64 - k) - 1) + 2 ^ (64 - k) * (2 ^ k - 1) := by
    rw [Nat.mul_sub, Nat.mul_one, Nat.mul_comm (2 ^ (64 - k))]
    have : 2 ^ (64 - k) ≤ 2 ^ k * 2 ^ (64 - k) := Nat.le_mul_of_pos_left _ hk1
    omega
  rw [e2, Nat.add_mul_div_left _ _ hp, Nat.div_eq_of_lt (by omega)]
  omega
theorem cut_nat (y k : Nat) (hk : k ≤ 64) : y * 2 ^ (64 - k) % 2 ^ 64 / 2 ^ (64 - k) = y &&& maskOf k := by
  rw [maskOf_eq k hk, Nat.and_two_pow_sub_one_eq_mod]
  have e : 2 ^ 64 = 2 ^ k * 2 ^ (64 - k) := by rw [← Nat.pow_add]; congr 1; omega
  rw [e, Nat.mul_mod_mul_right, Nat.mul_div_cancel _ (Nat.two_pow_pos _)]
theorem cut_int (y k : Nat) (hk : k ≤ 64) : IntKind.u64.wrap ((y : Int) * 2 ^ (64 - k)) / 2 ^ (64 - k) = ((y &&& maskOf k : Nat) : Int) := by
  rw [← cut_nat y k hk, IntKind.wrap_u64]
  have h : (18446744073709551616 : Int) = ((2 ^ 64 : Nat) : Int) := by decide
  have h2 : ((2 : Int) ^ (64 - k)) = ((2 ^ (64 - k) : Nat) : Int) := by simp
  rw [h, h2]
  generalize 2 ^ (64 - k) = c
  generalize 2 ^ 64 = d
  rw [← Int.natCast_mul, ← Int.natCast_emod, ← Int.natCast_ediv]
end Go.Proofs.Ytcocdlhjfbpkfaa
