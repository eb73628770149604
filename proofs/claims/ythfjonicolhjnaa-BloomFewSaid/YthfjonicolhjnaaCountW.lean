/- math/bits.OnesCount64 and bloom.Count: how many bits are 1. -/
import Derived.Test.YthfjonicolhjnaaPop
import Derived.Test.YthfjonicolhjnaaBloomNeverW
namespace Go.Proofs.Ythfjonicolhjnaa
open Go.RowKit Plain
theorem rep85 : rep 85 8 = 6148914691236517205 := by decide
theorem rep51 : rep 51 8 = 3689348814741910323 := by decide
theorem rep15 : rep 15 8 = 1085102592571150095 := by decide
theorem wrapN (n : Nat) (h : n < 18446744073709551616) : IntKind.u64.wrap (n : Int) = (n : Int) := by
  rw [IntKind.wrap_u64]; omega
theorem wrapAdd (a b : Nat) (h : a + b < 18446744073709551616) : IntKind.u64.wrap ((a : Int) + (b : Int)) = ((a + b : Nat) : Int) := by
  rw [IntKind.wrap_u64]; omega
theorem wrapAddDiv (a c : Nat) (h : a + a / c < 18446744073709551616) : IntKind.u64.wrap ((a : Int) + (a : Int) / (c : Int)) = ((a + a / c : Nat) : Int) := by
  rw [← Int.natCast_ediv]; exact wrapAdd _ _ h
theorem wrapDivAdd (a c : Nat) (h : a / c + a < 18446744073709551616) : IntKind.u64.wrap ((a : Int) / (c : Int) + (a : Int)) = ((a / c + a : Nat) : Int) := by
  rw [← Int.natCast_ediv]; exact wrapAdd _ _ h
set_option maxRecDepth 100000 in
theorem ones64_aux (x a1 a2 x1 b1 b2 x2 s x3 z u v r : Nat) (w : World) (h1 : bits .and .u64 ((x : Int) / 2) 6148914691236517205 = (a1 : Int)) (h2 : bits .and .u64 (x : Int) 6148914691236517205 = (a2 : Int)) (h3 : IntKind.u64.wrap ((a1 : Int) + (a2 : Int)) = (x1 : Int))
    (h4 : bits .and .u64 ((x1 : Int) / 4) 3689348814741910323 = (b1 : Int)) (h5 : bits .and .u64 (x1 : Int) 3689348814741910323 = (b2 : Int)) (h6 : IntKind.u64.wrap ((b1 : Int) + (b2 : Int)) = (x2 : Int)) (h7 : IntKind.u64.wrap ((x2 : Int) / 16 + (x2 : Int)) = (s : Int))
    (h8 : bits .and .u64 (s : Int) 1085102592571150095 = (x3 : Int)) (h9 : IntKind.u64.wrap ((x3 : Int) + (x3 : Int) / 256) = (z : Int)) (h10 : IntKind.u64.wrap ((z : Int) + (z : Int) / 65536) = (u : Int)) (h11 : IntKind.u64.wrap ((u : Int) + (u : Int) / 4294967296) = (v : Int))
    (h12 : IntKind.i64.wrap (v : Int) = (v : Int)) (h13 : bits .and .i64 (v : Int) 127 = (r : Int)) : Calls Try.prog 32 #[.int .u64 (x : Int)] w fun e w' => e = .returned (.int .i64 (r : Int)) ∧ w' = w := by
  go_enter Try.func32, Try.ntmps32
  go_wp2
  go_ret
  exact ⟨rfl, rfl⟩
theorem ones64_any (x : Nat) (w : World) (hx : x < 18446744073709551616) : Calls Try.prog 32 #[.int .u64 (x : Int)] w fun e w' => e = .returned (.int .i64 ((ones 8 x : Nat) : Int)) ∧ w' = w := by
  have hx8 : x < 256 ^ 8 := hx
  have C := count_eq x hx8
  have hd : ∀ y c : Nat, y < 18446744073709551616 → y / c < 18446744073709551616 := fun y c h => Nat.lt_of_le_of_lt (Nat.div_le_self _ _) h
  obtain ⟨x1, hx1⟩ : ∃ x1, x1 = f1 8 x := ⟨_, rfl⟩
  obtain ⟨x2, hx2⟩ : ∃ x2, x2 = f2 8 x1 := ⟨_, rfl⟩
  obtain ⟨x3, hx3⟩ : ∃ x3, x3 = f3 8 x2 := ⟨_, rfl⟩
  rw [← hx1, ← hx2, ← hx3] at C
  have e1 : x1 = (x / 2 &&& 6148914691236517205) + (x &&& 6148914691236517205) := by rw [hx1]; unfold f1; rw [rep85]
  have e2 : x2 = (x1 / 4 &&& 3689348814741910323) + (x1 &&& 3689348814741910323) := by rw [hx2]; unfold f2; rw [rep51]
  have e3 : x3 = (x2 / 16 + x2) &&& 1085102592571150095 := by rw [hx3]; unfold f3; rw [rep15]
  have l1 : x / 2 &&& 6148914691236517205 ≤ 6148914691236517205 := Nat.and_le_right
  have l2 : x &&& 6148914691236517205 ≤ 6148914691236517205 := Nat.and_le_right
  have l3 : x1 / 4 &&& 3689348814741910323 ≤ 3689348814741910323 := Nat.and_le_right
  have l4 : x1 &&& 3689348814741910323 ≤ 3689348814741910323 := Nat.and_le_right
  have h1 := bits_and_u64_nat (x / 2) 6148914691236517205 (hd x 2 hx) (by decide)
  have h2 := bits_and_u64_nat x 6148914691236517205 hx (by decide)
  generalize x / 2 &&& 6148914691236517205 = a1 at *
  generalize x &&& 6148914691236517205 = a2 at *
  have g1 : a1 + a2 < 18446744073709551616 := by clear C hd h1 h2 e2 e3 l3 l4 hx1 hx2 hx3; omega
  have x1b : x1 < 18446744073709551616 := by rw [e1]; exact g1
  have h3 := wrapAdd a1 a2 g1
  rw [← e1] at h3
  have h4 := bits_and_u64_nat (x1 / 4) 3689348814741910323 (hd x1 4 x1b) (by decide)
  have h5 := bits_and_u64_nat x1 3689348814741910323 x1b (by decide)
  generalize x1 / 4 &&& 3689348814741910323 = b1 at *
  generalize x1 &&& 3689348814741910323 = b2 at *
  have g2 : b1 + b2 < 7378697629483820647 := by clear C hd h1 h2 e1 e3 hx1 hx2 hx3 h3 h4 h5; omega
  have h6 := wrapAdd b1 b2 (Nat.lt_trans g2 (by decide))
  rw [← e2] at h6
  have x2b : x2 < 7378697629483820647 := by rw [e2]; exact g2
  have g3 : x2 / 16 + x2 < 18446744073709551616 := by have := Nat.div_le_self x2 16; clear C hd h1 h2 e1 e3 hx1 hx2 hx3 h3 h4 h5 e2 h6; omega
  have h7 := wrapDivAdd x2 16 g3
  have h8 := bits_and_u64_nat (x2 / 16 + x2) 1085102592571150095 g3 (by decide)
  rw [← e3] at h8
  obtain ⟨c0, c1, c2, c3, c4⟩ := C
  have h9 := wrapAddDiv x3 256 (Nat.lt_trans c1 (by decide))
  have h10 := wrapAddDiv (x3 + x3 / 256) 65536 (Nat.lt_trans c2 (by decide))
  have h11 := wrapAddDiv (x3 + x3 / 256 + (x3 + x3 / 256) / 65536) 4294967296 (Nat.lt_trans c3 (by decide))
  have h12 := wraps_i64 ((fold64 x3 : Nat) : Int) (Int.natCast_nonneg _) (by exact_mod_cast c3)
  have h13 := i64_and_nat (fold64 x3) 127 c3 (by decide)
  have m : fold64 x3 &&& 127 = fold64 x3 % 128 := Nat.and_two_pow_sub_one_eq_mod _ 7
  rw [m, c4] at h13
  exact ones64_aux x a1 a2 x1 b1 b2 x2 _ x3 _ _ _ _ w h1 h2 h3 h4 h5 h6 h7 h8 h9 h10 h11 h12 h13
end Go.Proofs.Ythfjonicolhjnaa
