/- The order of floating-point words is that of their places. -/
import Derived.Test.YtpfmfigommmjiaaFloatPlain
namespace Go.Proofs.Ytpfmfigommmjiaa
open Go.RowKit
namespace Plain
theorem cmp_congr {a b c d : Int} (h1 : a < b ↔ c < d) (h2 : a = b ↔ c = d) : compare a b = compare c d := by
  show compareOfLessAndEq a b = compareOfLessAndEq c d
  unfold compareOfLessAndEq
  by_cases e1 : a < b
  · rw [if_pos e1, if_pos (h1.1 e1)]
  · rw [if_neg e1, if_neg (fun h => e1 (h1.2 h))]
    by_cases e2 : a = b
    · rw [if_pos e2, if_pos (h2.1 e2)]
    · rw [if_neg e2, if_neg (fun h => e2 (h2.2 h))]
theorem d_sign : Ieee.double.signWeight = 9223372036854775808 := by decide
theorem d_bin : Ieee.double.binade = 4503599627370496 := by decide
theorem d_inf : Ieee.double.infRung = 9218868437227405312 := by decide
theorem d_least : Ieee.double.leastPlace = -1074 := by decide
theorem read_num (x : Nat) (h : rung x < 9218868437227405312) : ∃ m k : Nat, Ieee.double.read x = .number (isNeg x) m (-1074 + (k : Int)) ∧ m * 2 ^ k = mag (rung x) := by
  unfold Ieee.Format.read
  rw [d_sign, d_bin, d_inf, d_least]
  by_cases h1 : rung x < 4503599627370496
  · refine ⟨rung x, 0, ?_, by rw [mag, if_pos h1]; omega⟩
    show (if rung x < 4503599627370496 then _ else _) = _
    rw [if_pos h1]
    rfl
  · refine ⟨4503599627370496 + rung x % 4503599627370496, rung x / 4503599627370496 - 1, ?_, by rw [mag, if_neg h1]⟩
    show (if rung x < 4503599627370496 then _ else _) = _
    rw [if_neg h1, if_pos (show x % 9223372036854775808 < 9218868437227405312 from h)]
    rfl
theorem read_inf (x : Nat) (h : rung x = 9218868437227405312) : Ieee.double.read x = .infinity (isNeg x) := by
  unfold Ieee.Format.read
  rw [d_sign, d_bin, d_inf, d_least]
  show (if rung x < 4503599627370496 then _ else if rung x < 9218868437227405312 then _ else if rung x = 9218868437227405312 then _ else _) = _
  rw [if_neg (by omega), if_neg (by omega), if_pos h]
  rfl
theorem read_nan (x : Nat) (h : 9218868437227405312 < rung x) : ∃ s t, Ieee.double.read x = .nan s t := by
  unfold Ieee.Format.read
  rw [d_sign, d_bin, d_inf, d_least]
  refine ⟨isNeg x, rung x - 9218868437227405312, ?_⟩
  show (if rung x < 4503599627370496 then _ else if rung x < 9218868437227405312 then _ else if rung x = 9218868437227405312 then _ else _) = _
  rw [if_neg (by omega), if_neg (by omega), if_neg (by omega)]
  rfl
theorem shl_eq (m k j c : Nat) (hk : j + c = k) : (m <<< j) * 2 ^ c = m * 2 ^ k := by
  rw [Nat.shiftLeft_eq, Nat.mul_assoc, ← Nat.pow_add, hk]
theorem order_place (x y : Nat) (hx : isNaN x = false) (hy : isNaN y = false) : Ieee.double.order x y = some (compare (place x) (place y)) := by
  have hx' : rung x ≤ 9218868437227405312 := by have := of_decide_eq_false hx; omega
  have hy' : rung y ≤ 9218868437227405312 := by have := of_decide_eq_false hy; omega
  unfold Ieee.Format.order place
  by_cases h1 : rung x < 9218868437227405312
  · obtain ⟨m, k, e1, m1⟩ := read_num x h1
    by_cases h2 : rung y < 9218868437227405312
    · obtain ⟨n, j, e2, m2⟩ := read_num y h2
      rw [e1, e2]
      simp only [Ieee.Datum.order, Ieee.signed]
      congr 1
      have hm0 : mag 0 = 0 := by decide
      have a1 : rung x < rung y → mag (rung x) < mag (rung y) := mag_mono
      have a2 : rung y < rung x → mag (rung y) < mag (rung x) := mag_mono
      have a3 : rung x = rung y → mag (rung x) = mag (rung y) := fun h => by rw [h]
      have a4 : 0 < rung x → 0 < mag (rung x) := fun h => by have := mag_mono h; omega
      have a5 : 0 < rung y → 0 < mag (rung y) := fun h => by have := mag_mono h; omega
      have a6 : rung x = 0 → mag (rung x) = 0 := fun h => by rw [h]; exact hm0
      have a7 : rung y = 0 → mag (rung y) = 0 := fun h => by rw [h]; exact hm0
      have hc : ∃ c : Nat, (((-1074 : Int) + (k : Int)) - min ((-1074 : Int) + (k : Int)) ((-1074 : Int) + (j : Int))).toNat + c = k ∧ (((-1074 : Int) + (j : Int)) - min ((-1074 : Int) + (k : Int)) ((-1074 : Int) + (j : Int))).toNat + c = j := ⟨min k j, by omega, by omega⟩
      obtain ⟨c, c1, c2⟩ := hc
      have s1 := shl_eq m k _ c c1
      have s2 := shl_eq n j _ c c2
      generalize ((((-1074 : Int) + (k : Int)) - min ((-1074 : Int) + (k : Int)) ((-1074 : Int) + (j : Int))).toNat) = u at *
      generalize ((((-1074 : Int) + (j : Int)) - min ((-1074 : Int) + (k : Int)) ((-1074 : Int) + (j : Int))).toNat) = v at *
      rw [m1] at s1
      rw [m2] at s2
      generalize m <<< u = M at *
      generalize n <<< v = N at *
      have hp : 0 < 2 ^ c := Nat.two_pow_pos c
      have b1 : M < N ↔ mag (rung x) < mag (rung y) := by rw [← s1, ← s2]; exact (Nat.mul_lt_mul_right hp).symm
      have b2 : N < M ↔ mag (rung y) < mag (rung x) := by rw [← s1, ← s2]; exact (Nat.mul_lt_mul_right hp).symm
      have b3 : 0 < M ↔ 0 < mag (rung x) := by rw [← s1]; exact ⟨fun h => Nat.mul_pos h hp, fun h => Nat.pos_of_mul_pos_right h⟩
      have b4 : 0 < N ↔ 0 < mag (rung y) := by rw [← s2]; exact ⟨fun h => Nat.mul_pos h hp, fun h => Nat.pos_of_mul_pos_right h⟩
      clear s1 s2 m1 m2 e1 e2 c1 c2
      generalize mag (rung x) = mx at *
      generalize mag (rung y) = my at *
      generalize rung x = rx at *
      generalize rung y = ry at *
      apply cmp_congr
      · cases isNeg x <;> cases isNeg y <;> simp only [Bool.false_eq_true, if_true, if_false] <;> omega
      · cases isNeg x <;> cases isNeg y <;> simp only [Bool.false_eq_true, if_true, if_false] <;> omega
    · have e2 := read_inf y (by omega)
      rw [e1, e2]
      simp only [Ieee.Datum.order]
      congr 1
      have hy2 : rung y = 9218868437227405312 := by omega
      rw [hy2]
      cases isNeg x <;> cases isNeg y <;> simp only [Bool.false_eq_true, if_true, if_false] <;> symm
      · exact Int.compare_eq_lt.2 (by omega)
      · exact Int.compare_eq_gt.2 (by omega)
      · exact Int.compare_eq_lt.2 (by omega)
      · exact Int.compare_eq_gt.2 (by omega)
  · have e1 := read_inf x (by omega)
    have hx2 : rung x = 9218868437227405312 := by omega
    by_cases h2 : rung y < 9218868437227405312
    · obtain ⟨n, j, e2, m2⟩ := read_num y h2
      rw [e1, e2]
      simp only [Ieee.Datum.order]
      congr 1
      rw [hx2]
      cases isNeg x <;> cases isNeg y <;> simp only [Bool.false_eq_true, if_true, if_false] <;> symm
      · exact Int.compare_eq_gt.2 (by omega)
      · exact Int.compare_eq_gt.2 (by omega)
      · exact Int.compare_eq_lt.2 (by omega)
      · exact Int.compare_eq_lt.2 (by omega)
    · have e2 := read_inf y (by omega)
      have hy2 : rung y = 9218868437227405312 := by omega
      rw [e1, e2]
      simp only [Ieee.Datum.order]
      rw [hx2, hy2]
      cases isNeg x <;> cases isNeg y <;> rfl
theorem order_nan (x y : Nat) (h : isNaN x = true ∨ isNaN y = true) : Ieee.double.order x y = none := by
  unfold Ieee.Format.order
  rcases h with h | h
  · obtain ⟨s, t, e⟩ := read_nan x (of_decide_eq_true h)
    rw [e]
    rfl
  · obtain ⟨s, t, e⟩ := read_nan y (of_decide_eq_true h)
    rw [e]
    cases Ieee.double.read x <;> rfl
/-! the strings that stand for them -/
def key (x : Nat) : Nat := if isNaN x then 18444492273895866369 else if isNeg x then 18446744073709551615 - x else x + 9223372036854775808
theorem key_lt (x : Nat) (h : x < 18446744073709551616) : key x < 18446744073709551616 := by
  unfold key isNeg
  split
  · decide
  · split
    · omega
    · rename_i h2
      simp only [beq_iff_eq] at h2
      omega
theorem key_num {x : Nat} (h : x < 18446744073709551616) (hx : isNaN x = false) : (isNeg x = true → key x + rung x = 9223372036854775807) ∧ (isNeg x = false → key x = 9223372036854775808 + rung x ∧ x = rung x) ∧ (isNeg x = true → x = 9223372036854775808 + rung x) ∧ rung x ≤ 9218868437227405312 := by
  have hx' : rung x ≤ 9218868437227405312 := by have := of_decide_eq_false hx; omega
  unfold key
  rw [hx]
  simp only [Bool.false_eq_true, if_false]
  have hn : isNeg x = true ↔ x / 9223372036854775808 % 2 = 1 := by unfold isNeg; exact beq_iff_eq
  unfold rung at *
  refine ⟨fun h => ?_, fun h => ?_, fun h => ?_, hx'⟩
  · have := hn.1 h
    rw [if_pos h]; omega
  · have : ¬ x / 9223372036854775808 % 2 = 1 := fun e => by rw [hn.2 e] at h; cases h
    rw [if_neg (by rw [h]; decide)]; omega
  · have := hn.1 h
    omega
end Plain
end Go.Proofs.Ytpfmfigommmjiaa
