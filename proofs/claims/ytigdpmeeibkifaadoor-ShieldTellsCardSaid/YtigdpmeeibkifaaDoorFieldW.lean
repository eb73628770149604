/- The walks of package field: what Mul, power, Pow, Inv compute. -/
import Derived.Test.YtigdpmeeibkifaaDoorRows
import Derived.Test.YtigdpmeeibkifaaDoorFieldPlain
import Derived.Test.YtigdpmeeibkifaaDoorBits
import Derived.WalkKit
import Derived.WalkSpells
import Derived.WalkLawsBesides
import Derived.Lib.Hide
namespace Go.Proofs.YtigdpmeeibkifaaDoor
open Go.RowKit Plain
theorem and128_nat (A : Nat) (h : A < 256) : (A &&& 128) = bif A.testBit 7 then 128 else 0 := by
  have h8 : ∀ A : Fin 256, (A.val &&& 128) = bif A.val.testBit 7 then 128 else 0 := by decide +kernel
  exact h8 ⟨A, h⟩
set_option maxHeartbeats 400000 in
theorem mul_any (a b : Nat) (w : World) (ha : a < 256) (hb : b < 256) :
    Calls Tryd.prog 19 #[.int .u8 a, .int .u8 b] w fun e w' => e = .returned (.int .u8 (fmul a b)) ∧ w = w' := by
  go_enter Tryd.func19, Tryd.ntmps19
  go_wp2
  go_loop [0, 1, 5, 6] (fun x y o h => ∃ A B O n : Nat, A < 256 ∧ B < 256 ∧ O < 256 ∧ B < 2 ^ n ∧ O ^^^ mulF n A B = fmul a b ∧ x = .int .u8 A ∧ y = .int .u8 B ∧ o = .int .u8 O) (fun _ y _ _ => (intOf y).toNat)
  case atStart => exact ⟨a, b, 0, 8, ha, hb, by decide, hb, by simp [fmul], rfl, rfl, rfl⟩
  case round =>
    obtain ⟨A, B, O, n, hA, hB, hO, hn, he, rfl, rfl, rfl⟩ := hrel
    have H := Lib.hid he
    clear he
    have H2 := Lib.hid hn
    clear hn
    have H3 := xt_lt A
    unfold xt at H3
    have e1 : bits .and .u8 (B : Int) 1 = ((bif B.testBit 0 then 1 else 0 : Nat) : Int) := by
      rw [← and1_nat]; exact u8_and_nat B 1 hB (by decide)
    have e2 : bits .and .u8 (A : Int) 128 = ((bif A.testBit 7 then 128 else 0 : Nat) : Int) := by
      rw [← and128_nat A hA]; exact u8_and_nat A 128 hA (by decide)
    have e3 : bits .xor .u8 (O : Int) (A : Int) = ((O ^^^ A : Nat) : Int) := u8_xor_nat O A hO hA
    have e4 : bits .xor .u8 ((A : Int) * 2 % 256) 29 = ((A * 2 % 256 ^^^ 29 : Nat) : Int) := u8_xor_nat (A * 2 % 256) 29 (by omega) (by decide)
    have hOA : O ^^^ A < 256 := Nat.xor_lt_two_pow (n := 8) hO hA
    by_cases hz : B = 0
    · subst hz
      go_wp2
      go_ret
      refine ⟨ret_int ?_, rfl⟩
      have := H.out
      rw [mulF_zero_right] at this
      simp at this
      rw [this]
    · cases n with
      | zero => have := H2.out; omega
      | succ n =>
        have hs := H.out
        unfold mulF xt at hs
        have hd : B / 2 < 2 ^ n := by have := H2.out; omega
        cases h0 : B.testBit 0 <;> cases h7 : A.testBit 7
        all_goals
          simp only [h0, h7, cond_true, cond_false] at e1 e2 hs H3
          simp only [Nat.zero_xor, Nat.xor_zero, ← Nat.xor_assoc] at hs H3
          have HS := Lib.hid hs
          clear hs
          clear h0 h7
          go_wp2
          go_round
          case rel => first | exact ⟨_, B / 2, _, n, H3, by omega, hO, hd, HS.out, by go_num, by go_num, by go_num⟩ | exact ⟨_, B / 2, _, n, H3, by omega, hOA, hd, HS.out, by go_num, by go_num, by go_num⟩
          case measure => simp [intOf]; omega
theorem mul_int (a b : Int) (w : World) (ha0 : 0 ≤ a) (ha : a < 256) (hb0 : 0 ≤ b) (hb : b < 256) :
    Calls Tryd.prog 19 #[.int .u8 a, .int .u8 b] w fun e w' => e = .returned (.int .u8 (fmul a.toNat b.toNat)) ∧ w = w' := by
  obtain ⟨A, rfl⟩ := Int.eq_ofNat_of_zero_le ha0
  obtain ⟨B, rfl⟩ := Int.eq_ofNat_of_zero_le hb0
  exact mul_any A B w (by omega) (by omega)
set_option maxHeartbeats 400000 in
theorem power_any (a n : Nat) (w : World) (ha : a < 256) (hn : n ≤ 9223372036854775807) :
    Calls Tryd.prog 24 #[.int .u8 a, .int .i64 n] w fun e w' => e = .returned (.int .u8 (fpow a n)) ∧ w = w' := by
  go_enter Tryd.func24, Tryd.ntmps24
  go_wp2
  go_loop [0, 1, 5] (fun x y o => ∃ A M O : Nat, A < 256 ∧ M ≤ n ∧ O < 256 ∧ fmul O (fpow A M) = fpow a n ∧ x = .int .u8 A ∧ y = .int .i64 M ∧ o = .int .u8 O) (fun _ y _ => (intOf y).toNat)
  case atStart => exact ⟨a, n, 1, ha, Nat.le_refl _, by decide, one_fmul _ (fpow_lt _ _), rfl, rfl, rfl⟩
  case round =>
    obtain ⟨A, M, O, hA, hM, hO, he, rfl, rfl, rfl⟩ := hrel
    have H := Lib.hid he
    clear he
    by_cases hz : M = 0
    · subst hz
      go_wp2
      go_ret
      refine ⟨ret_int ?_, rfl⟩
      have := H.out
      rw [show fpow A 0 = 1 from rfl, fmul_one] at this
      rw [this]
    · have hs := pow_step O A M hO hA
      rw [H.out] at hs
      have e1 : bits .and .i64 (M : Int) 1 = ((M % 2 : Nat) : Int) := by
        have := i64_and_nat M 1 (by omega) (by decide)
        rw [Nat.and_one_is_mod] at this
        exact this
      have hp : (0 : Int) < M := by omega
      have hOA := fmul_lt O A hO
      have hAA := fmul_lt A A hA
      by_cases h1 : M % 2 = 1
      · rw [if_pos h1] at hs
        rw [h1] at e1
        have HS := Lib.hid hs
        have H1 := Lib.hid h1
        clear hs h1
        go_wp2_with (go_at_call 19; refine (mul_any _ _ _ (by omega) (by omega)).mono ?_; rintro e w' ⟨rfl, rfl⟩)
        go_round
        case rel => exact ⟨_, M / 2, _, hAA, by omega, hOA, HS.out, by go_num, by go_num, by go_num⟩
        case measure => simp [intOf]; omega
      · rw [if_neg h1] at hs
        rw [show M % 2 = 0 from by omega] at e1
        have HS := Lib.hid hs
        clear hs h1
        go_wp2_with (go_at_call 19; refine (mul_any _ _ _ (by omega) (by omega)).mono ?_; rintro e w' ⟨rfl, rfl⟩)
        go_round
        case rel => exact ⟨_, M / 2, _, hAA, by omega, hO, HS.out, by go_num, by go_num, by go_num⟩
        case measure => simp [intOf]; omega
theorem power_int (a n : Int) (w : World) (ha0 : 0 ≤ a) (ha : a < 256) (hn0 : 0 ≤ n) (hn : n.toNat ≤ 9223372036854775807) :
    Calls Tryd.prog 24 #[.int .u8 a, .int .i64 n] w fun e w' => e = .returned (.int .u8 (fpow a.toNat n.toNat)) ∧ w = w' := by
  obtain ⟨A, rfl⟩ := Int.eq_ofNat_of_zero_le ha0
  obtain ⟨B, rfl⟩ := Int.eq_ofNat_of_zero_le hn0
  exact power_any A B w (by omega) (by omega)
end Go.Proofs.YtigdpmeeibkifaaDoor
