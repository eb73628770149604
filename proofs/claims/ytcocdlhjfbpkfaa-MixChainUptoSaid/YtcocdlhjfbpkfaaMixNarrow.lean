/- The walk of mix.Narrow. -/
import Derived.Test.YtcocdlhjfbpkfaaMixId
namespace Go.Proofs.Ytcocdlhjfbpkfaa
open Go.RowKit Plain
theorem results_tmp2 {fn : Func} {t u : Tmp} (h : fn.results = #[.tmp t, .tmp u]) (tmps : Array Value) (P : Program) (w : World) :
    (results fn tmps).run P w = .ok (.tuple #[tmps.getD t undef, tmps.getD u undef]) w := by simp [results, h]
theorem narrow_out (k : Int) (s : ByteArray) (w : World) (h : k < 1 ∨ 64 < k) : Calls Try.prog 27 #[.int .i64 k, .string s] w fun e w' => e = .returned (.tuple #[.int .u64 0, .int .i64 1]) ∧ w' = w := by
  go_enter Try.func27, Try.ntmps27
  rcases h with h | h
  · have h1 : k < 1 := h
    go_wp2
    refine bodyPost_ret (results_tmp2 rfl _ _ _) rfl ?_
    exact ⟨rfl, rfl⟩
  · have h1 : ¬ k < 1 := by omega
    have h2 : 64 < k := h
    go_wp2
    refine bodyPost_ret (results_tmp2 rfl _ _ _) rfl ?_
    exact ⟨rfl, rfl⟩
/-- the mask of a width -/
def maskOf (k : Nat) : Nat := full / 2 ^ (64 - k)
theorem maskOf_lt (k : Nat) : maskOf k < M64 := Nat.lt_of_le_of_lt (Nat.div_le_self _ _) (by decide)
set_option maxRecDepth 100000 in
theorem narrow_in (k : Nat) (s : ByteArray) (w : World) (h1 : 1 ≤ k) (h2 : k ≤ 64) (hs : s.size ≤ 9223372036854775807) : Calls Try.prog 27 #[.int .i64 (k : Int), .string s] w fun e w' => e = .returned (.tuple #[.int .u64 (msum (maskOf k) (strN s) : Nat), .int .i64 0]) ∧ Below w.heap.size w w' := by
  have HC := Lib.hid fun wx => sum_any s (maskOf k) wx hs (maskOf_lt k)
  have em : (18446744073709551615 : Int) / 2 ^ (64 - k) = ((maskOf k : Nat) : Int) := by unfold maskOf full; simp
  generalize msum (maskOf k) (strN s) = r at *
  generalize maskOf k = m at *
  have k1 : ¬ ((k : Int) < 1) := by omega
  have k2 : ¬ (64 < (k : Int)) := by omega
  have wk : IntKind.i64.wrap (64 - (k : Int)) = 64 - (k : Int) := wraps_i64 _ (by omega) (by omega)
  have tk : (64 - (k : Int)).toNat = 64 - k := by omega
  have k3 : (0 : Int) ≤ 64 - (k : Int) := by omega
  go_enter Try.func27, Try.ntmps27
  go_wp2_with (go_at_call 34; refine (HC.out _).mono ?_; rintro e w2 ⟨rfl, hb⟩)
  refine bodyPost_ret (results_tmp2 rfl _ _ _) rfl ?_
  exact ⟨rfl, hb⟩
end Go.Proofs.Ytcocdlhjfbpkfaa
