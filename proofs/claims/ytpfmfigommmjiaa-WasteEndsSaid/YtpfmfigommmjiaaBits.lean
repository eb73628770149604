/- Small laws on Go's bit operations at natural numbers. -/
import Derived.WalkKit
import Derived.WalkLawsBesides
namespace Go.Proofs.Ytpfmfigommmjiaa
theorem wraps_i64 (n : Int) (h₀ : 0 ≤ n) (h₁ : n < 2 ^ 63) : IntKind.i64.wrap n = n := by
  rw [IntKind.wrap_i64]; omega
theorem i64_and_nat (a b : Nat) (ha : a < 9223372036854775808) (hb : b < 9223372036854775808) : bits .and .i64 (a : Int) (b : Int) = ((a &&& b : Nat) : Int) :=
  (bits_nat .i64 63 (by decide) wraps_i64 a b ha hb).1
theorem i64_or_nat (a b : Nat) (ha : a < 9223372036854775808) (hb : b < 9223372036854775808) : bits .or .i64 (a : Int) (b : Int) = ((a ||| b : Nat) : Int) :=
  (bits_nat .i64 63 (by decide) wraps_i64 a b ha hb).2
theorem ret_int {k : IntKind} {a b : Int} (h : a = b) : Ending.returned (.int k a) = .returned (.int k b) := by rw [h]
theorem ret_bool {a b : Bool} (h : a = b) : Ending.returned (.bool a) = .returned (.bool b) := by rw [h]
theorem and1_nat (A : Nat) : (A &&& 1) = bif A.testBit 0 then 1 else 0 := by
  rw [Nat.and_one_is_mod, Nat.testBit_zero]
  by_cases h : A % 2 = 1
  · simp [h]
  · have : A % 2 = 0 := by omega
    simp [this]
theorem natEq {x y : Nat} (h : x = y) : ((x : Int) == (y : Int)) = true := by subst h; simp
theorem natNe {x y : Nat} (h : x = y) : ((x : Int) != (y : Int)) = false := by subst h; simp
theorem div_pow_nat (m v : Nat) : ((m : Int) / 2 ^ v) = ((m / 2 ^ v : Nat) : Int) := by simp
theorem testBit_and1 (m v : Nat) : (m / 2 ^ v) &&& 1 = bif m.testBit v then 1 else 0 := by
  rw [and1_nat, ← Nat.shiftRight_eq_div_pow, Nat.testBit_shiftRight]; rfl
theorem bit_u64 (m v : Nat) (h : m < 18446744073709551616) : bits .and .u64 ((m : Int) / 2 ^ v) 1 = ((bif m.testBit v then 1 else 0 : Nat) : Int) := by
  rw [div_pow_nat, ← testBit_and1]
  exact bits_and_u64_nat _ 1 (Nat.lt_of_le_of_lt (Nat.div_le_self _ _) h) (by decide)
theorem bit_u32 (m v : Nat) (h : m < 4294967296) : bits .and .u32 ((m : Int) / 2 ^ v) 1 = ((bif m.testBit v then 1 else 0 : Nat) : Int) := by
  rw [div_pow_nat, ← testBit_and1]
  exact u32_and_nat _ 1 (Nat.lt_of_le_of_lt (Nat.div_le_self _ _) h) (by decide)
theorem shl_u64 (c k : Nat) (h : c <<< k < 18446744073709551616) : IntKind.u64.wrap ((c : Int) * 2 ^ k) = ((c <<< k : Nat) : Int) := by
  rw [IntKind.wrap_u64, Nat.shiftLeft_eq]
  rw [Nat.shiftLeft_eq] at h
  have : ((c : Int) * 2 ^ k) = ((c * 2 ^ k : Nat) : Int) := by simp
  rw [this]
  omega
theorem byteOf {a : Int} (h : (Lit.int .u8 a).wf = true) : ∃ n : Nat, a = n ∧ n < 256 := by
  have hx : 0 ≤ a ∧ a ≤ 255 := by simpa [Lit.wf, IntKind.min, IntKind.max, IntKind.signed, IntKind.bits] using h
  exact ⟨a.toNat, by omega, by omega⟩
theorem u32Of {a : Int} (h : (Lit.int .u32 a).wf = true) : ∃ n : Nat, a = n ∧ n < 4294967296 := by
  have hx : 0 ≤ a ∧ a ≤ 4294967295 := by simpa [Lit.wf, IntKind.min, IntKind.max, IntKind.signed, IntKind.bits] using h
  exact ⟨a.toNat, by omega, by omega⟩
theorem u64Of {a : Int} (h : (Lit.int .u64 a).wf = true) : ∃ n : Nat, a = n ∧ n < 18446744073709551616 := by
  have hx : 0 ≤ a ∧ a ≤ 18446744073709551615 := by simpa [Lit.wf, IntKind.min, IntKind.max, IntKind.signed, IntKind.bits] using h
  exact ⟨a.toNat, by omega, by omega⟩
theorem i64Of {a : Int} (h : (Lit.int .i64 a).wf = true) : -9223372036854775808 ≤ a ∧ a ≤ 9223372036854775807 := by
  simpa [Lit.wf, IntKind.min, IntKind.max, IntKind.signed, IntKind.bits] using h
end Go.Proofs.Ytpfmfigommmjiaa
