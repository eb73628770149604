/- Shares: quotients of whole numbers as floating-point words lie between 0 and 1. -/
import Derived.Test.YtpfmfigommmjiaaFloatOrder
namespace Go.Proofs.Ytpfmfigommmjiaa
open Go.RowKit
set_option linter.unusedVariables false
set_option linter.unusedSimpArgs false
namespace Plain
theorem cut_zero (neg : Bool) (n : Nat) : Ieee.Toward.cut .even neg n 0 = n := by
  unfold Ieee.Toward.cut
  simp [Nat.mod_one]
theorem cut_le (neg : Bool) (n drop : Nat) : Ieee.Toward.cut .even neg n drop ≤ n / (1 <<< min drop (n.log2 + 2)) + 1 := by
  unfold Ieee.Toward.cut
  simp only
  have : ∀ b : Bool, b.toNat ≤ 1 := fun b => by cases b <;> simp
  exact Nat.add_le_add_left (this _) _
/-- a cut of few digits that leaves less than 2^53 -/
theorem cut_small (neg : Bool) (n drop k : Nat) (h : n < 2 ^ (drop + k)) : Ieee.Toward.cut .even neg n drop ≤ 2 ^ k := by
  refine Nat.le_trans (cut_le neg n drop) ?_
  rw [Nat.shiftLeft_eq, Nat.one_mul]
  have hk : 0 < 2 ^ k := Nat.pow_pos (by decide)
  rcases Nat.le_total drop (n.log2 + 2) with h1 | h1
  · rw [Nat.min_eq_left h1]
    have : n / 2 ^ drop < 2 ^ k := by
      rw [Nat.div_lt_iff_lt_mul (Nat.pow_pos (by decide)), Nat.mul_comm, ← Nat.pow_add]
      exact h
    omega
  · rw [Nat.min_eq_right h1]
    have h2 : n < 2 ^ (n.log2 + 2) := Nat.lt_of_lt_of_le Nat.lt_log2_self (Nat.pow_le_pow_right (by decide) (by omega))
    rw [Nat.div_eq_of_lt h2]
    omega
theorem word_min (x y : Nat) (h : x ≤ y) : Ieee.double.word false (min x y) = x := Nat.min_eq_left h
theorem sum_le (x K : Nat) (hx : x ≤ 1074) (hK : K < 9007199254740992) : x * 4503599627370496 + K ≤ 9218868437227405312 := by omega
def two1074 : Nat := 2 ^ 1074
theorem two_eq : two1074 = 2 ^ 1074 := by unfold two1074; with_reducible rfl
theorem two_pos : 0 < two1074 := by unfold two1074; exact Nat.two_pow_pos 1074
set_option maxRecDepth 100000 in
theorem near_int (n : Nat) (h0 : 0 < n) (hn : n.log2 ≤ 52) : Ieee.double.nearest false n 0 = (n.log2 + 1022) * 4503599627370496 + n * 2 ^ (52 - n.log2) := by
  have hne : n ≠ 0 := by omega
  have h1 : n < 2 ^ (n.log2 + 1) := Nat.lt_log2_self
  have h3 : n * 2 ^ (52 - n.log2) < 9007199254740992 := by
    have : n * 2 ^ (52 - n.log2) < 2 ^ (n.log2 + 1) * 2 ^ (52 - n.log2) := (Nat.mul_lt_mul_right (Nat.pow_pos (by decide))).2 h1
    rw [← Nat.pow_add, show n.log2 + 1 + (52 - n.log2) = 53 by omega] at this
    exact this
  unfold Ieee.Format.nearest
  rw [if_neg hne, d_least]
  have el : max ((0 : Int) + (n.log2 : Int) - ((Ieee.double.fractionBits : Nat) : Int)) (-1074) = (n.log2 : Int) - 52 := by
    show max ((0 : Int) + (n.log2 : Int) - 52) (-1074) = _
    omega
  simp only [el]
  rw [show ((0 : Int) - ((n.log2 : Int) - 52)).toNat = 52 - n.log2 by omega, show ((n.log2 : Int) - 52 - 0).toNat = 0 by omega, cut_zero, show ((n.log2 : Int) - 52 - -1074).toNat = n.log2 + 1022 by omega, Nat.shiftLeft_eq]
  have hle := sum_le (n.log2 + 1022) (n * 2 ^ (52 - n.log2)) (by omega) h3
  have hB := d_bin
  have hI := d_inf
  generalize Ieee.double.binade = B at *
  generalize Ieee.double.infRung = I at *
  subst hB
  exact word_min _ _ (by rw [hI]; exact hle)
/-- the word of a whole number -/
def fW (n : Nat) : Nat := Ieee.double.write (.number false n 0)
set_option maxRecDepth 100000 in
theorem fW_read (n : Nat) (hn : n.log2 ≤ 52) : ∃ m k : Nat, Ieee.double.read (fW n) = .number false m (-1074 + (k : Int)) ∧ m * 2 ^ k = n * two1074 ∧ m.log2 ≤ 53 := by
  rcases Nat.eq_zero_or_pos n with rfl | h0
  · refine ⟨0, 0, ?_, by rw [Nat.zero_mul, Nat.zero_mul], by decide⟩
    have : fW 0 = 0 := by decide +kernel
    rw [this]
    decide +kernel
  · have hw : fW n = (n.log2 + 1022) * 4503599627370496 + n * 2 ^ (52 - n.log2) := near_int n h0 hn
    have h1 : n < 2 ^ (n.log2 + 1) := Nat.lt_log2_self
    have h2 : 2 ^ n.log2 ≤ n := Nat.log2_self_le (by omega)
    have h3 : n * 2 ^ (52 - n.log2) < 9007199254740992 := by
      have : n * 2 ^ (52 - n.log2) < 2 ^ (n.log2 + 1) * 2 ^ (52 - n.log2) := (Nat.mul_lt_mul_right (Nat.pow_pos (by decide))).2 h1
      rw [← Nat.pow_add, show n.log2 + 1 + (52 - n.log2) = 53 by omega] at this
      exact this
    have h4 : 4503599627370496 ≤ n * 2 ^ (52 - n.log2) := by
      have : 2 ^ n.log2 * 2 ^ (52 - n.log2) ≤ n * 2 ^ (52 - n.log2) := Nat.mul_le_mul_right _ h2
      rw [← Nat.pow_add, show n.log2 + (52 - n.log2) = 52 by omega] at this
      exact this
    obtain ⟨f, hf⟩ : ∃ f, n * 2 ^ (52 - n.log2) = 4503599627370496 + f := ⟨_, (Nat.add_sub_of_le h4).symm⟩
    have hf2 : f < 4503599627370496 := by omega
    have hx : fW n = (n.log2 + 1023) * 4503599627370496 + f := by rw [hw, hf]; omega
    have hr : rung (fW n) = fW n := by
      unfold rung
      apply Nat.mod_eq_of_lt
      have : (n.log2 + 1023) * 4503599627370496 ≤ 1075 * 4503599627370496 := Nat.mul_le_mul_right _ (by omega)
      omega
    have hlt : rung (fW n) < 9218868437227405312 := by
      rw [hr, hx]
      have : (n.log2 + 1023) * 4503599627370496 ≤ 1075 * 4503599627370496 := Nat.mul_le_mul_right _ (by omega)
      omega
    have hneg : isNeg (fW n) = false := by
      have hb : fW n < 9223372036854775808 := by rw [← hr]; omega
      unfold isNeg
      rw [Nat.div_eq_of_lt hb]
      rfl
    have hd : fW n / 4503599627370496 = n.log2 + 1023 := by
      rw [hx, Nat.add_comm, Nat.add_mul_div_right _ _ (by decide), Nat.div_eq_of_lt hf2, Nat.zero_add]
    have hm : fW n % 4503599627370496 = f := by
      rw [hx, Nat.add_comm, Nat.add_mul_mod_self_right, Nat.mod_eq_of_lt hf2]
    refine ⟨4503599627370496 + f, n.log2 + 1022, ?_, ?_, ?_⟩
    · unfold Ieee.Format.read
      rw [d_sign, d_bin, d_inf, d_least]
      have g1 : ¬ rung (fW n) < 4503599627370496 := by
        rw [hr, hx]
        have : 1023 * 4503599627370496 ≤ (n.log2 + 1023) * 4503599627370496 := Nat.mul_le_mul_right _ (by omega)
        omega
      show (if rung (fW n) < 4503599627370496 then _ else if rung (fW n) < 9218868437227405312 then Ieee.Datum.number (isNeg (fW n)) (4503599627370496 + rung (fW n) % 4503599627370496) (-1074 + ((rung (fW n) / 4503599627370496 - 1 : Nat) : Int)) else _) = _
      rw [if_neg g1, if_pos hlt, hneg, hr, hm, hd]
      rfl
    · rw [two_eq, ← hf, Nat.mul_assoc, ← Nat.pow_add, show 52 - n.log2 + (n.log2 + 1022) = 1074 by omega]
    · have : 4503599627370496 + f < 2 ^ 54 := by rw [show (2 : Nat) ^ 54 = 18014398509481984 from rfl]; omega
      have := (Nat.log2_lt (n := 4503599627370496 + f) (k := 54) (by omega)).2 this
      omega
theorem word_le (x y : Nat) : Ieee.double.word false (min x y) ≤ x := Nat.min_le_left _ _
theorem sub_one (x B K : Nat) (hB : B = 4503599627370496) (hx : x ≤ 1021) (hK : K ≤ 2 * B) : x * B + K ≤ 4607182418800017408 := by
  have h := Nat.mul_le_mul_right B hx
  omega
theorem at_one (x B K : Nat) (hB : B = 4503599627370496) (hx : x = 1022) (hK : K = B) : x * B + K ≤ 4607182418800017408 := by
  subst hx hK hB
  decide
/-- what is at most 1 is written as a word that is at most 1's -/
theorem near_one (M E : Nat) (hM : M ≤ 2 ^ (E + 1)) : Ieee.double.nearest false M (-((E : Int) + 1)) ≤ 4607182418800017408 := by
  unfold Ieee.Format.nearest
  split
  · decide
  rename_i hne
  rw [d_least]
  have hB := d_bin
  have hB2 : Ieee.double.binade = 2 ^ 52 := rfl
  generalize Ieee.double.binade = B at *
  have hlog : M.log2 ≤ E + 1 := by
    have h2 : 2 ^ M.log2 ≤ M := Nat.log2_self_le hne
    exact (Nat.pow_le_pow_iff_right (by decide)).1 (Nat.le_trans h2 hM)
  have h1 : M < 2 ^ (M.log2 + 1) := Nat.lt_log2_self
  obtain ⟨last, hlast⟩ : ∃ last : Int, max (-((E : Int) + 1) + (M.log2 : Int) - ((Ieee.double.fractionBits : Nat) : Int)) (-1074) = last := ⟨_, rfl⟩
  have hlast2 : max (-((E : Int) + 1) + (M.log2 : Int) - 52) (-1074) = last := hlast
  simp only [hlast]
  refine Nat.le_trans (word_le _ _) ?_
  rcases Nat.lt_or_ge M.log2 (E + 1) with hl | hl
  · -- below 1
    have hk : Ieee.Toward.cut .even false (M <<< (-((E : Int) + 1) - last).toNat) (last - -((E : Int) + 1)).toNat ≤ 2 ^ 53 := by
      apply cut_small
      rw [Nat.shiftLeft_eq]
      have : M * 2 ^ (-((E : Int) + 1) - last).toNat < 2 ^ (M.log2 + 1) * 2 ^ (-((E : Int) + 1) - last).toNat := (Nat.mul_lt_mul_right (Nat.pow_pos (by decide))).2 h1
      rw [← Nat.pow_add] at this
      exact Nat.lt_of_lt_of_le this (Nat.pow_le_pow_right (by decide) (by omega))
    refine sub_one _ B _ hB (by omega) (Nat.le_trans hk ?_)
    rw [hB2, Nat.pow_succ, Nat.mul_comm]
    exact Nat.le_refl _
  · have he : M.log2 = E + 1 := by omega
    have hM2 : M = 2 ^ (E + 1) := by
      have h2 : 2 ^ M.log2 ≤ M := Nat.log2_self_le hne
      rw [he] at h2
      omega
    have hl2 : last = -52 := by omega
    subst hl2
    refine at_one _ B _ hB (by omega) ?_
    rcases Nat.lt_or_ge E 51 with h51 | h51
    · rw [show ((-52 : Int) - -((E : Int) + 1)).toNat = 0 by omega, cut_zero, show (-((E : Int) + 1) - (-52 : Int)).toNat = 51 - E by omega, hM2, Nat.shiftLeft_eq, ← Nat.pow_add, show E + 1 + (51 - E) = 52 by omega, hB2]
    · rw [show (-((E : Int) + 1) - (-52 : Int)).toNat = 0 by omega, show ((-52 : Int) - -((E : Int) + 1)).toNat = E - 51 by omega, Nat.shiftLeft_zero, hB2]
      unfold Ieee.Toward.cut
      simp only
      have hmin : min (E - 51) (M.log2 + 2) = E - 51 := Nat.min_eq_left (by omega)
      have hp : 0 < 2 ^ (E - 51) := Nat.pow_pos (by decide)
      have hlow : M / 2 ^ (E - 51) = 2 ^ 52 := by
        rw [hM2, show E + 1 = 52 + (E - 51) by omega, Nat.pow_add, Nat.mul_div_cancel _ hp]
      have hrest : M % 2 ^ (E - 51) = 0 := by
        rw [hM2, show E + 1 = 52 + (E - 51) by omega, Nat.pow_add, Nat.mul_mod_left]
      rw [hmin, Nat.shiftLeft_eq, Nat.one_mul, hlow, hrest]
      have h3 : decide (2 ^ (E - 51) < 2 * 0) = false := decide_eq_false (by omega)
      have h4 : (2 ^ (E - 51) == 2 * 0) = false := by
        rw [beq_eq_false_iff_ne]
        omega
      rw [h3, h4]
      rfl
set_option maxRecDepth 100000 in
theorem share_ok (d s : Nat) (hs : 0 < s) (hds : d ≤ s) (hd : d.log2 ≤ 52) (hs2 : s.log2 ≤ 52) : ∃ w, Ieee.double.div (fW d) (fW s) = some w ∧ w ≤ 4607182418800017408 := by
  obtain ⟨m, k1, e1, m1, l1⟩ := fW_read d hd
  obtain ⟨n, k2, e2, m2, l2⟩ := fW_read s hs2
  have hn0 : 0 < n := by
    rcases Nat.eq_zero_or_pos n with rfl | h
    · exfalso
      have : s * two1074 = 0 := by rw [← m2, Nat.zero_mul]
      rcases Nat.mul_eq_zero.1 this with h | h
      · omega
      · exact absurd h (Nat.pos_iff_ne_zero.1 two_pos)
    · exact h
  have hle : m * 2 ^ k1 ≤ n * 2 ^ k2 := by rw [m1, m2]; exact Nat.mul_le_mul_right _ hds
  clear m1 m2 hds hd hs2 hs
  unfold Ieee.Format.div
  rw [e1, e2]
  clear e1 e2
  unfold Ieee.Datum.quotient
  simp only [if_neg (show ¬ n = 0 by omega), Option.map_some]
  refine ⟨_, rfl, ?_⟩
  show Ieee.double.nearest (false ^^ false) _ _ ≤ _
  rw [show (false ^^ false) = false from rfl]
  obtain ⟨more, hmore⟩ : ∃ more, Ieee.double.fractionBits + 2 + n.log2 - m.log2 = more := ⟨_, rfl⟩
  have hmore2 : 54 + n.log2 - m.log2 = more := hmore
  rw [hmore, Nat.shiftLeft_eq]
  rcases Nat.eq_zero_or_pos m with rfl | hm0
  · have : 2 * (0 * 2 ^ more / n) + (0 * 2 ^ more % n != 0).toNat = 0 := by simp
    rw [this]
    unfold Ieee.Format.nearest
    rw [if_pos rfl]
    decide
  have hk : k1 ≤ k2 + more := by
    rcases Nat.lt_or_ge (k2 + more) k1 with h | h
    · exfalso
      have g1 : 2 ^ m.log2 ≤ m := Nat.log2_self_le (by omega)
      have g2 : n < 2 ^ (n.log2 + 1) := Nat.lt_log2_self
      have g3 : 2 ^ (m.log2 + k1) ≤ m * 2 ^ k1 := by rw [Nat.pow_add]; exact Nat.mul_le_mul_right _ g1
      have g4 : n * 2 ^ k2 < 2 ^ (n.log2 + 1 + k2) := by rw [Nat.pow_add]; exact (Nat.mul_lt_mul_right (Nat.pow_pos (by decide))).2 g2
      have g5 : 2 ^ (n.log2 + 1 + k2) ≤ 2 ^ (m.log2 + k1) := Nat.pow_le_pow_right (by decide) (by omega)
      omega
    · exact h
  obtain ⟨E, hE⟩ : ∃ E, k2 + more = k1 + E := ⟨_, (Nat.add_sub_of_le hk).symm⟩
  have hD : m * 2 ^ more ≤ n * 2 ^ E := by
    have h1 : m * 2 ^ k1 * 2 ^ more ≤ n * 2 ^ k2 * 2 ^ more := Nat.mul_le_mul_right _ hle
    rw [Nat.mul_assoc, Nat.mul_assoc, ← Nat.pow_add, ← Nat.pow_add, hE, Nat.add_comm k1 more, Nat.pow_add, Nat.add_comm k1 E, Nat.pow_add, ← Nat.mul_assoc, ← Nat.mul_assoc] at h1
    exact Nat.le_of_mul_le_mul_right h1 (Nat.pow_pos (by decide))
  have hpl : (-1074 + (k1 : Int) - (-1074 + (k2 : Int)) - (more : Int) - 1) = -((E : Int) + 1) := by omega
  rw [hpl]
  refine near_one _ E ?_
  generalize m * 2 ^ more = D at *
  rw [Nat.pow_succ]
  have hq : D / n ≤ 2 ^ E := by
    have := Nat.div_le_div_right (c := n) hD
    rwa [Nat.mul_div_cancel_left _ hn0] at this
  have hb : (D % n != 0).toNat ≤ 1 := by cases (D % n != 0) <;> simp
  rcases Nat.lt_or_ge (D / n) (2 ^ E) with h | h
  · omega
  · have he : D / n = 2 ^ E := by omega
    have : D % n = 0 := by
      have := Nat.div_add_mod D n
      rw [he] at this
      omega
    rw [this, he]
    simp
    omega
end Plain
end Go.Proofs.Ytpfmfigommmjiaa
