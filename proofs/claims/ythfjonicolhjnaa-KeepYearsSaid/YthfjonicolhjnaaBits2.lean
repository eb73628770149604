/- What bytes put together by shifts and ors come to. -/
import Derived.Test.YthfjonicolhjnaaBits
namespace Go.Proofs.Ythfjonicolhjnaa
theorem or_add (x y i : Nat) (hx : x < 2 ^ i) : x ||| (y * 2 ^ i) = x + y * 2 ^ i := by
  have h := Nat.two_pow_add_eq_or_of_lt hx y
  rw [Nat.or_comm, Nat.mul_comm y, ← h, Nat.add_comm]
def be32 (a0 a1 a2 a3 : Nat) : Nat := a3 + a2 * 256 + a1 * 65536 + a0 * 16777216
theorem be32_lt (a0 a1 a2 a3 : Nat) (l0 : a0 < 256) (l1 : a1 < 256) (l2 : a2 < 256) (l3 : a3 < 256) : be32 a0 a1 a2 a3 < 4294967296 := by unfold be32; omega
theorem be32_val (a0 a1 a2 a3 : Nat) (l0 : a0 < 256) (l1 : a1 < 256) (l2 : a2 < 256) (l3 : a3 < 256) :
    bits .or .u32 (bits .or .u32 (bits .or .u32 (a3 : Int) ((a2 : Int) * 256)) ((a1 : Int) * 65536)) ((a0 : Int) * 16777216) = ((be32 a0 a1 a2 a3 : Nat) : Int) := by
  have e2 : ((a2 : Int) * 256) = ((a2 * 2 ^ 8 : Nat) : Int) := by simp
  have e1 : ((a1 : Int) * 65536) = ((a1 * 2 ^ 16 : Nat) : Int) := by simp
  have e0 : ((a0 : Int) * 16777216) = ((a0 * 2 ^ 24 : Nat) : Int) := by simp
  rw [e2, e1, e0, u32_or_nat _ _ (by omega) (by omega), or_add _ _ 8 (by omega), u32_or_nat _ _ (by omega) (by omega), or_add _ _ 16 (by omega), u32_or_nat _ _ (by omega) (by omega), or_add _ _ 24 (by omega)]
  rfl
end Go.Proofs.Ythfjonicolhjnaa
