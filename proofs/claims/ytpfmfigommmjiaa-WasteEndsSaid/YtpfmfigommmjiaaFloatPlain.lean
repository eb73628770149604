/- Floating-point numbers in their order: the order of words, and that of the strings that stand for them. -/
import Derived.Test.YtpfmfigommmjiaaBytesOwn
import Ieee.Arith
namespace Go.Proofs.Ytpfmfigommmjiaa
open Go.RowKit
namespace Plain
/-! strings of digits -/
def val : List Nat → Nat
  | [] => 0
  | a :: x => a * 256 ^ x.length + val x
theorem val_lt : ∀ l : List Nat, (∀ c ∈ l, c < 256) → val l < 256 ^ l.length
  | [], _ => by simp [val]
  | a :: x, h => by
    have ih := val_lt x fun c hc => h c (List.mem_cons_of_mem _ hc)
    have ha := h a (by simp)
    have h1 : (a + 1) * 256 ^ x.length ≤ 256 * 256 ^ x.length := Nat.mul_le_mul_right _ (by omega)
    rw [Nat.succ_mul] at h1
    simp only [val, List.length_cons, Nat.pow_succ]
    omega
def less : List Nat → List Nat → Bool
  | _, [] => false
  | [], _ :: _ => true
  | a :: x, b :: y => decide (a < b) || (a == b && less x y)
theorem less_val : ∀ (l m : List Nat), l.length = m.length → (∀ c ∈ l, c < 256) → (∀ c ∈ m, c < 256) → less l m = decide (val l < val m)
  | [], [], _, _, _ => by simp [less, val]
  | a :: x, b :: y, hl, h1, h2 => by
    have hl' : x.length = y.length := by simpa using hl
    have ih := less_val x y hl' (fun c hc => h1 c (List.mem_cons_of_mem _ hc)) (fun c hc => h2 c (List.mem_cons_of_mem _ hc))
    have vx := val_lt x fun c hc => h1 c (List.mem_cons_of_mem _ hc)
    have vy := val_lt y fun c hc => h2 c (List.mem_cons_of_mem _ hc)
    rw [← hl'] at vy
    have key : val (a :: x) < val (b :: y) ↔ (a < b ∨ (a = b ∧ val x < val y)) := by
      simp only [val]
      rw [← hl']
      rcases Nat.lt_trichotomy a b with h | h | h
      · have h3 : (a + 1) * 256 ^ x.length ≤ b * 256 ^ x.length := Nat.mul_le_mul_right _ h
        rw [Nat.succ_mul] at h3
        constructor
        · intro _; exact .inl h
        · intro _; omega
      · subst h
        constructor
        · intro h; exact .inr ⟨rfl, by omega⟩
        · rintro (h | h)
          · omega
          · omega
      · have h3 : (b + 1) * 256 ^ x.length ≤ a * 256 ^ x.length := Nat.mul_le_mul_right _ h
        rw [Nat.succ_mul] at h3
        constructor
        · intro _; omega
        · rintro (h | h)
          · omega
          · omega
    rw [less, ih, Bool.eq_iff_iff]
    simp only [Bool.or_eq_true, decide_eq_true_eq, Bool.and_eq_true, beq_iff_eq]
    exact key.symm
def be8 (h : Nat) : List Nat := [h / 72057594037927936 % 256, h / 281474976710656 % 256, h / 1099511627776 % 256, h / 4294967296 % 256, h / 16777216 % 256, h / 65536 % 256, h / 256 % 256, h % 256]
theorem be8_lt (h : Nat) : ∀ c ∈ be8 h, c < 256 := by
  intro c hc
  simp only [be8, List.mem_cons, List.not_mem_nil, or_false] at hc
  rcases hc with rfl | rfl | rfl | rfl | rfl | rfl | rfl | rfl <;> exact Nat.mod_lt _ (by decide)
theorem val_be8 (g : Nat) (hg : g < 18446744073709551616) : val (be8 g) = g := by
  have a1 : g / 65536 = g / 256 / 256 := by rw [Nat.div_div_eq_div_mul]
  have a2 : g / 16777216 = g / 65536 / 256 := by rw [Nat.div_div_eq_div_mul]
  have a3 : g / 4294967296 = g / 16777216 / 256 := by rw [Nat.div_div_eq_div_mul]
  have a4 : g / 1099511627776 = g / 4294967296 / 256 := by rw [Nat.div_div_eq_div_mul]
  have a5 : g / 281474976710656 = g / 1099511627776 / 256 := by rw [Nat.div_div_eq_div_mul]
  have a6 : g / 72057594037927936 = g / 281474976710656 / 256 := by rw [Nat.div_div_eq_div_mul]
  have a7 : g / 72057594037927936 < 256 := by omega
  simp only [be8, val, List.length_cons, List.length_nil]
  generalize g / 72057594037927936 = g7 at *
  generalize g / 281474976710656 = g6 at *
  generalize g / 1099511627776 = g5 at *
  generalize g / 4294967296 = g4 at *
  generalize g / 16777216 = g3 at *
  generalize g / 65536 = g2 at *
  generalize h1 : g / 256 = g1 at *
  have e0 : g = 256 * g1 + g % 256 := by omega
  have e1 : g1 = 256 * g2 + g1 % 256 := by omega
  have e2 : g2 = 256 * g3 + g2 % 256 := by omega
  have e3 : g3 = 256 * g4 + g3 % 256 := by omega
  have e4 : g4 = 256 * g5 + g4 % 256 := by omega
  have e5 : g5 = 256 * g6 + g5 % 256 := by omega
  have e6 : g6 = 256 * g7 + g6 % 256 := by omega
  generalize g % 256 = r0 at *
  generalize g1 % 256 = r1 at *
  generalize g2 % 256 = r2 at *
  generalize g3 % 256 = r3 at *
  generalize g4 % 256 = r4 at *
  generalize g5 % 256 = r5 at *
  generalize g6 % 256 = r6 at *
  rw [Nat.mod_eq_of_lt a7]
  subst e6 e5 e4 e3 e2 e1
  omega
theorem less_be8 (g h : Nat) (hg : g < 18446744073709551616) (hh : h < 18446744073709551616) : less (be8 g) (be8 h) = decide (g < h) := by
  have e := less_val (be8 g) (be8 h) rfl (be8_lt g) (be8_lt h)
  rwa [val_be8 g hg, val_be8 h hh] at e
theorem be8_inj {g h : Nat} (hg : g < 18446744073709551616) (hh : h < 18446744073709551616) (e : be8 g = be8 h) : g = h := by
  rw [← val_be8 g hg, ← val_be8 h hh, e]
theorem bytesLess_ofNat : ∀ l m : List Nat, (∀ c ∈ l, c < 256) → (∀ c ∈ m, c < 256) → Op.bytesLess (l.map UInt8.ofNat) (m.map UInt8.ofNat) = less l m
  | _, [], _, _ => by cases ‹List Nat› <;> rfl
  | [], _ :: _, _, _ => rfl
  | a :: x, b :: y, h1, h2 => by
    have ih := bytesLess_ofNat x y (fun c hc => h1 c (List.mem_cons_of_mem _ hc)) (fun c hc => h2 c (List.mem_cons_of_mem _ hc))
    have ha := h1 a (by simp)
    have hb := h2 b (by simp)
    have e1 : (UInt8.ofNat a < UInt8.ofNat b) ↔ a < b := by
      rw [UInt8.lt_iff_toNat_lt, UInt8.toNat_ofNat', UInt8.toNat_ofNat', Nat.mod_eq_of_lt ha, Nat.mod_eq_of_lt hb]
    have e2 : (UInt8.ofNat a == UInt8.ofNat b) = (a == b) := by
      rw [Bool.eq_iff_iff, beq_iff_eq, beq_iff_eq]
      constructor
      · intro h
        have := congrArg UInt8.toNat h
        rwa [UInt8.toNat_ofNat', UInt8.toNat_ofNat', Nat.mod_eq_of_lt ha, Nat.mod_eq_of_lt hb] at this
      · rintro rfl; rfl
    simp only [List.map_cons, Op.bytesLess, less, ih, e2]
    congr 1
    exact decide_eq_decide.2 e1
/-! words of numbers with a point -/
def rung (x : Nat) : Nat := x % 9223372036854775808
def isNeg (x : Nat) : Bool := x / 9223372036854775808 % 2 == 1
def isNaN (x : Nat) : Bool := decide (9218868437227405312 < rung x)
/-- a number's place among all -/
def place (x : Nat) : Int := if isNeg x then -(rung x : Int) else (rung x : Int)
/-- the magnitude of a rung, over the least one -/
def mag (r : Nat) : Nat := if r < 4503599627370496 then r else (4503599627370496 + r % 4503599627370496) * 2 ^ (r / 4503599627370496 - 1)
theorem mag_mono {r s : Nat} (h : r < s) : mag r < mag s := by
  have hq : r / 4503599627370496 ≤ s / 4503599627370496 := Nat.div_le_div_right (by omega)
  have hr : r % 4503599627370496 < 4503599627370496 := Nat.mod_lt _ (by decide)
  have hs : s % 4503599627370496 < 4503599627370496 := Nat.mod_lt _ (by decide)
  have er : 4503599627370496 * (r / 4503599627370496) + r % 4503599627370496 = r := Nat.div_add_mod r _
  have es : 4503599627370496 * (s / 4503599627370496) + s % 4503599627370496 = s := Nat.div_add_mod s _
  by_cases hs0 : s < 4503599627370496
  · rw [mag, if_pos (by omega), mag, if_pos hs0]; exact h
  · have hs1 : 1 ≤ s / 4503599627370496 := by omega
    rw [mag, mag, if_neg hs0]
    generalize s / 4503599627370496 = qs at *
    generalize s % 4503599627370496 = fs at *
    obtain ⟨k, rfl⟩ : ∃ k, qs = k + 1 := ⟨qs - 1, by omega⟩
    rw [Nat.add_sub_cancel]
    have hp : 1 ≤ 2 ^ k := Nat.one_le_two_pow
    by_cases hr0 : r < 4503599627370496
    · rw [if_pos hr0]
      have : (4503599627370496 + fs) * 1 ≤ (4503599627370496 + fs) * 2 ^ k := Nat.mul_le_mul_left _ hp
      omega
    · rw [if_neg hr0]
      have hr1 : 1 ≤ r / 4503599627370496 := by omega
      generalize r / 4503599627370496 = qr at *
      generalize r % 4503599627370496 = fr at *
      obtain ⟨j, rfl⟩ : ∃ j, qr = j + 1 := ⟨qr - 1, by omega⟩
      rw [Nat.add_sub_cancel]
      have hpj : 1 ≤ 2 ^ j := Nat.one_le_two_pow
      rcases Nat.lt_or_ge j k with hjk | hjk
      · have h1 : (4503599627370496 + fr) * 2 ^ j < 9007199254740992 * 2 ^ j := Nat.mul_lt_mul_of_pos_right (by omega) (by omega)
        have h2 : 9007199254740992 * 2 ^ j = 4503599627370496 * 2 ^ (j + 1) := by rw [Nat.pow_succ]; omega
        have h3 : 2 ^ (j + 1) ≤ 2 ^ k := Nat.pow_le_pow_right (by decide) hjk
        have h4 : 4503599627370496 * 2 ^ (j + 1) ≤ 4503599627370496 * 2 ^ k := Nat.mul_le_mul_left _ h3
        have h5 : 4503599627370496 * 2 ^ k ≤ (4503599627370496 + fs) * 2 ^ k := Nat.mul_le_mul_right _ (by omega)
        omega
      · obtain rfl : j = k := by omega
        exact Nat.mul_lt_mul_of_pos_right (by omega) (by omega)
end Plain
end Go.Proofs.Ytpfmfigommmjiaa
