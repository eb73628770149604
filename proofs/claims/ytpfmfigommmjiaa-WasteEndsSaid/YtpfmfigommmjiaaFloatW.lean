/- The walks of num.PutFloat and what it calls. -/
import Derived.Test.YtpfmfigommmjiaaFloatOrder
import Derived.Laws.Externs
import Derived.Test.YtpfmfigommmjiaaRows
import Derived.WalkSpells
import Derived.WalkLawsBesides
import Derived.Deep.QuietTactic
import Derived.BigQuiet
namespace Go.Proofs.Ytpfmfigommmjiaa
open Go.RowKit Plain
theorem info_byte : (Try.prog.info? 5).map (fun i => (i.zero, i.size, i.bytes)) = some (some (.int .u8 0), 1, 1) := by kernel_rfl
theorem bits_law (w : World) (x : Nat) : (callFunc 16 #[.float .f64 x]).run Try.prog w = .ok (.value (.int .u64 (x : Int))) w := by
  rw [run_callFunc_extern Try.func16 (by kernel_rfl) (by kernel_rfl) (by kernel_rfl) (e := Extern.MathFloatBits.float64bits) (by kernel_rfl)]
  rfl
theorem from_law (w : World) (x : Nat) : (callFunc 17 #[.int .u64 (x : Int)]).run Try.prog w = .ok (.value (.float .f64 x)) w := by
  rw [run_callFunc_extern Try.func17 (by kernel_rfl) (by kernel_rfl) (by kernel_rfl) (e := Extern.MathFloatBits.float64frombits) (by kernel_rfl)]
  rfl
theorem order_self (x : Nat) : (FloatKind.f64.format.order x x != some .eq) = isNaN x := by
  show (Ieee.double.order x x != some .eq) = isNaN x
  cases h : isNaN x with
  | true => rw [order_nan x x (.inl h)]; rfl
  | false =>
    rw [order_place x x h h]
    have : compare (place x) (place x) = .eq := Int.compare_eq_eq.2 rfl
    rw [this]
    rfl
theorem be8_cells (h : Nat) : [Value.int .u8 ((h : Int) / 72057594037927936 % 256), .int .u8 ((h : Int) / 281474976710656 % 256), .int .u8 ((h : Int) / 1099511627776 % 256), .int .u8 ((h : Int) / 4294967296 % 256), .int .u8 ((h : Int) / 16777216 % 256), .int .u8 ((h : Int) / 65536 % 256), .int .u8 ((h : Int) / 256 % 256), .int .u8 ((h : Int) % 256)] = (be8 h).map bV := by
  simp only [be8, List.map_cons, List.map_nil, bV]
  simp
def App64End (w0 : World) (x : Nat) (e : Ending) (w : World) : Prop := ∃ v, e = .returned v ∧ w.ownsRow w0.heap.size 5 1 v (be8 x).length ((be8 x).map bV) ∧ Below w0.heap.size w0 w
def PutEnd (w0 : World) (x : Nat) (e : Ending) (w : World) : Prop := e = .returned (.string (strOf (be8 (key x)))) ∧ Below w0.heap.size w0 w
theorem key_nan {x : Nat} (h : isNaN x = true) : key x = 18444492273895866369 := by unfold key; rw [h]; rfl
theorem or_sign (x : Nat) (h : x < 9223372036854775808) : x ||| 9223372036854775808 = x + 9223372036854775808 := by
  have := Nat.two_pow_add_eq_or_of_lt (i := 63) (b := x) h 1
  rw [Nat.mul_one, Nat.or_comm, show (2 : Nat) ^ 63 = 9223372036854775808 by decide] at this
  omega
theorem and_sign_lo (x : Nat) (h : x < 9223372036854775808) : x &&& 9223372036854775808 = 0 := by
  apply Nat.eq_of_testBit_eq
  intro i
  rw [Nat.testBit_and, show (9223372036854775808 : Nat) = 2 ^ 63 by decide, Nat.testBit_two_pow, Nat.zero_testBit]
  by_cases e : 63 = i
  · subst e
    rw [Nat.testBit_lt_two_pow (show x < 2 ^ 63 from h)]
    rfl
  · simp [e]
theorem xor_all (x : Nat) (h : x < 18446744073709551616) : 18446744073709551615 ^^^ x = 18446744073709551615 - x := by
  apply Nat.eq_of_testBit_eq
  intro i
  have h1 : (18446744073709551615 - x) = 2 ^ 64 - (x + 1) := by omega
  rw [h1, Nat.testBit_two_pow_sub_succ (show x < 2 ^ 64 from h), Nat.testBit_xor, show (18446744073709551615 : Nat) = 2 ^ 64 - 1 by decide, Nat.testBit_two_pow_sub_one]
  by_cases e : i < 64
  · simp [e]
  · have : x.testBit i = false := Nat.testBit_lt_two_pow (Nat.lt_of_lt_of_le (show x < 2 ^ 64 from h) (Nat.pow_le_pow_right (by decide) (by omega)))
    simp [e, this]
theorem and_sign_hi (x : Nat) (h : x < 9223372036854775808) : (x + 9223372036854775808) &&& 9223372036854775808 = 9223372036854775808 := by
  rw [← or_sign x h, Nat.and_comm, Nat.and_or_distrib_left, Nat.and_self]
  rw [Nat.and_comm, and_sign_lo x h]
  rfl
theorem sign_lo {x : Nat} (h : isNeg x = false) (hx : x < 18446744073709551616) : x < 9223372036854775808 := by
  have hn : ¬ x / 9223372036854775808 % 2 = 1 := fun e => by have : isNeg x = true := beq_iff_eq.2 e; rw [h] at this; cases this
  omega
theorem sign_hi {x : Nat} (h : isNeg x = true) (hx : x < 18446744073709551616) : ∃ r, r < 9223372036854775808 ∧ x = r + 9223372036854775808 := by
  have hn : x / 9223372036854775808 % 2 = 1 := beq_iff_eq.1 h
  exact ⟨x - 9223372036854775808, by omega, by omega⟩
theorem nan_or : bits .or .u64 9221120237041090561 9223372036854775808 = 18444492273895866369 := by decide +kernel
theorem nan_and : bits .and .u64 9221120237041090561 9223372036854775808 = 0 := by decide +kernel
set_option maxRecDepth 100000 in
theorem signbit_any (x : Nat) (hx : x < 18446744073709551616) (w : World) : Calls Try.prog 8 #[.float .f64 x] w fun e w' => e = .returned (.bool (isNeg x)) ∧ w' = w := by
  have hb := fun (u : World) => bits_law u x
  have hd : decide (wrap64 (x : Int) < 0) = isNeg x := by
    unfold wrap64
    cases hs : isNeg x with
    | false => have := sign_lo hs hx; exact decide_eq_false (by omega)
    | true => obtain ⟨r, hr, e⟩ := sign_hi hs hx; exact decide_eq_true (by omega)
  clear hx
  go_enter Try.func8, Try.ntmps8
  go_wp2_with fail
  go_ret
  exact ⟨by rw [← hd]; rfl, rfl⟩
theorem cs1 : bits .andNot .u64 0 9223372036854775808 = 0 := by decide +kernel
theorem cs2 : bits .and .u64 13830554455654793216 9223372036854775808 = 9223372036854775808 := by decide +kernel
theorem cs3 : bits .or .u64 0 9223372036854775808 = 9223372036854775808 := by decide +kernel
set_option maxRecDepth 100000 in
theorem inf_any (w : World) : Calls Try.prog 10 #[.int .i64 1] w fun e w' => e = .returned (.float .f64 9218868437227405312) ∧ w' = w := by
  have hf : ∀ u : World, (callFunc 17 #[.int .u64 9218868437227405312]).run Try.prog u = .ok (.value (.float .f64 9218868437227405312)) u := fun u => from_law u 9218868437227405312
  go_enter Try.func10, Try.ntmps10
  go_wp2_with fail
  go_ret
  exact ⟨rfl, rfl⟩
set_option maxRecDepth 100000 in
theorem nan_any (w : World) : Calls Try.prog 9 #[] w fun e w' => e = .returned (.float .f64 9221120237041090561) ∧ w' = w := by
  have hf : ∀ u : World, (callFunc 17 #[.int .u64 9221120237041090561]).run Try.prog u = .ok (.value (.float .f64 9221120237041090561)) u := fun u => from_law u 9221120237041090561
  go_enter Try.func9, Try.ntmps9
  go_wp2_with fail
  go_ret
  exact ⟨rfl, rfl⟩
end Go.Proofs.Ytpfmfigommmjiaa
