/- The walks of num.PutFloat and what it calls. -/
import Derived.Test.YtiokodjlijaddaaDoorFloatOrder
import Derived.Laws.Externs
import Derived.Test.YtiokodjlijaddaaDoorRows
import Derived.WalkSpells
import Derived.WalkLawsBesides
import Derived.Deep.QuietTactic
import Derived.BigQuiet
namespace Go.Proofs.YtiokodjlijaddaaDoor
open Go.RowKit Plain
theorem info_byte : (Tryd.prog.info? 5).map (fun i => (i.zero, i.size, i.bytes)) = some (some (.int .u8 0), 1, 1) := by kernel_rfl
theorem bits_law (w : World) (x : Nat) : (callFunc 17 #[.float .f64 x]).run Tryd.prog w = .ok (.value (.int .u64 (x : Int))) w := by
  rw [run_callFunc_extern Tryd.func17 (by kernel_rfl) (by kernel_rfl) (by kernel_rfl) (e := Extern.MathFloatBits.float64bits) (by kernel_rfl)]
  rfl
theorem from_law (w : World) (x : Nat) : (callFunc 30 #[.int .u64 (x : Int)]).run Tryd.prog w = .ok (.value (.float .f64 x)) w := by
  rw [run_callFunc_extern Tryd.func30 (by kernel_rfl) (by kernel_rfl) (by kernel_rfl) (e := Extern.MathFloatBits.float64frombits) (by kernel_rfl)]
  rfl
theorem order_self (x : Nat) : (FloatKind.f64.format.order x x != some .eq) = isNaN x := by
  show (Ieee.double.order x x != some .eq) = isNaN x
  cases h : isNaN x with
  | true => rw [order_nan x x (.inl h)]; rfl
  | false =>
    rw [order_place x x h h]
    have : compare (place x) (place x) = .eq := Int.compare_eq_eq.2 rfl
    rw [this]
    rfl
theorem be8_cells (h : Nat) : [Value.int .u8 ((h : Int) / 72057594037927936 % 256), .int .u8 ((h : Int) / 281474976710656 % 256), .int .u8 ((h : Int) / 1099511627776 % 256), .int .u8 ((h : Int) / 4294967296 % 256), .int .u8 ((h : Int) / 16777216 % 256), .int .u8 ((h : Int) / 65536 % 256), .int .u8 ((h : Int) / 256 % 256), .int .u8 ((h : Int) % 256)] = (be8 h).map bV := by
  simp only [be8, List.map_cons, List.map_nil, bV]
  simp
set_option maxRecDepth 100000 in
theorem isNaN_any (x : Nat) (w : World) : Calls Tryd.prog 27 #[.float .f64 x] w fun e w' => e = .returned (.bool (isNaN x)) ∧ w' = w := by
  have hs := order_self x
  go_enter Tryd.func27, Tryd.ntmps27
  go_wp2_with fail
  go_ret
  exact ⟨rfl, rfl⟩
def App64End (w0 : World) (x : Nat) (e : Ending) (w : World) : Prop := ∃ v, e = .returned v ∧ w.ownsRow w0.heap.size 5 1 v (be8 x).length ((be8 x).map bV) ∧ Below w0.heap.size w0 w
set_option maxRecDepth 100000 in
theorem app64_any (x : Nat) (w : World) : Calls Tryd.prog 28 #[.agg #[], .slice none 0 0, .int .u64 (x : Int)] w (App64End w x) := by
  obtain ⟨i0, hi0, hz0, hz1, hz2⟩ := info_parts info_byte
  have B1 := Lib.hid ((Below.refl w.heap.size w).alloc (Nat.le_refl _) (.cells #[] 63))
  have BC := Lib.hid (be8_cells x)
  have D2 : Hid (∀ u ∈ (be8 x).map bV, u.oneCell' = true) := by
    intro u hu
    obtain ⟨c, _, rfl⟩ := List.mem_map.1 hu
    rfl
  have D3 : Hid (0 + 8 ≤ maxLen) := by show _ ≤ _; unfold maxLen; omega
  have D4 : Hid ((0 + 8) * 1 ≤ 140737488355328) := by show _ ≤ _; omega
  generalize hc0 : (x : Int) / 72057594037927936 % 256 = c0 at BC
  generalize hc1 : (x : Int) / 281474976710656 % 256 = c1 at BC
  generalize hc2 : (x : Int) / 1099511627776 % 256 = c2 at BC
  generalize hc3 : (x : Int) / 4294967296 % 256 = c3 at BC
  generalize hc4 : (x : Int) / 16777216 % 256 = c4 at BC
  generalize hc5 : (x : Int) / 65536 % 256 = c5 at BC
  generalize hc6 : (x : Int) / 256 % 256 = c6 at BC
  generalize hc7 : (x : Int) % 256 = c7 at BC
  have D1 := Lib.hid (cells_new_at (w.alloc (.cells #[] 63)) (w.heap.size + 1) (by simp) #[.int .u8 c0, .int .u8 c1, .int .u8 c2, .int .u8 c3, .int .u8 c4, .int .u8 c5, .int .u8 c6, .int .u8 c7] 5 ((be8 x).map bV) BC.out.symm)
  have D5 : Hid (w.heap.size ≤ ((w.alloc (.cells #[] 63)).alloc (.cells #[.int .u8 c0, .int .u8 c1, .int .u8 c2, .int .u8 c3, .int .u8 c4, .int .u8 c5, .int .u8 c6, .int .u8 c7] 5)).heap.size) := by show _ ≤ _; simp; omega
  have D6 : Hid (((be8 x).map bV).length = 8 * 1) := rfl
  go_enter Tryd.func28, Tryd.ntmps28
  go_wp2_with (at_builtin; refine wpList_append_own _ rfl _ _ 56 rfl w.heap.size 5 i0 (.int .u8 0) 1 1 Tryd.underlying56 hi0 hz0 hz1 hz2 rfl (by decide) (.slice none 0 0) 0 [] rfl (World.ownsRow_nil _ _ _ _) ⟨w.heap.size + 1, 0, none⟩ 8 8 ((be8 x).map bV) rfl D6.out D1.out D2.out D3.out D4.out D5.out ?_)
  intro v' w2 hown' hgrow _
  have BW := Lib.hid (below_own (Below.alloc B1.out B1.out.size _) hgrow (by simp; omega) (World.ownsRow_nil _ w.heap.size 5 1) (Nat.le_refl _))
  have OW : Hid (w2.ownsRow w.heap.size 5 1 v' (be8 x).length ((be8 x).map bV)) := hown'
  clear hown' hgrow
  go_wp2_with fail
  go_ret
  exact ⟨_, rfl, OW.out, BW.out⟩
def PutEnd (w0 : World) (x : Nat) (e : Ending) (w : World) : Prop := e = .returned (.string (strOf (be8 (key x)))) ∧ Below w0.heap.size w0 w
theorem key_nan {x : Nat} (h : isNaN x = true) : key x = 18444492273895866369 := by unfold key; rw [h]; rfl
theorem or_sign (x : Nat) (h : x < 9223372036854775808) : x ||| 9223372036854775808 = x + 9223372036854775808 := by
  have := Nat.two_pow_add_eq_or_of_lt (i := 63) (b := x) h 1
  rw [Nat.mul_one, Nat.or_comm, show (2 : Nat) ^ 63 = 9223372036854775808 by decide] at this
  omega
theorem and_sign_lo (x : Nat) (h : x < 9223372036854775808) : x &&& 9223372036854775808 = 0 := by
  apply Nat.eq_of_testBit_eq
  intro i
  rw [Nat.testBit_and, show (9223372036854775808 : Nat) = 2 ^ 63 by decide, Nat.testBit_two_pow, Nat.zero_testBit]
  by_cases e : 63 = i
  · subst e
    rw [Nat.testBit_lt_two_pow (show x < 2 ^ 63 from h)]
    rfl
  · simp [e]
theorem xor_all (x : Nat) (h : x < 18446744073709551616) : 18446744073709551615 ^^^ x = 18446744073709551615 - x := by
  apply Nat.eq_of_testBit_eq
  intro i
  have h1 : (18446744073709551615 - x) = 2 ^ 64 - (x + 1) := by omega
  rw [h1, Nat.testBit_two_pow_sub_succ (show x < 2 ^ 64 from h), Nat.testBit_xor, show (18446744073709551615 : Nat) = 2 ^ 64 - 1 by decide, Nat.testBit_two_pow_sub_one]
  by_cases e : i < 64
  · simp [e]
  · have : x.testBit i = false := Nat.testBit_lt_two_pow (Nat.lt_of_lt_of_le (show x < 2 ^ 64 from h) (Nat.pow_le_pow_right (by decide) (by omega)))
    simp [e, this]
theorem and_sign_hi (x : Nat) (h : x < 9223372036854775808) : (x + 9223372036854775808) &&& 9223372036854775808 = 9223372036854775808 := by
  rw [← or_sign x h, Nat.and_comm, Nat.and_or_distrib_left, Nat.and_self]
  rw [Nat.and_comm, and_sign_lo x h]
  rfl
theorem sign_lo {x : Nat} (h : isNeg x = false) (hx : x < 18446744073709551616) : x < 9223372036854775808 := by
  have hn : ¬ x / 9223372036854775808 % 2 = 1 := fun e => by have : isNeg x = true := beq_iff_eq.2 e; rw [h] at this; cases this
  omega
theorem sign_hi {x : Nat} (h : isNeg x = true) (hx : x < 18446744073709551616) : ∃ r, r < 9223372036854775808 ∧ x = r + 9223372036854775808 := by
  have hn : x / 9223372036854775808 % 2 = 1 := beq_iff_eq.1 h
  exact ⟨x - 9223372036854775808, by omega, by omega⟩
theorem nan_or : bits .or .u64 9221120237041090561 9223372036854775808 = 18444492273895866369 := by decide +kernel
theorem nan_and : bits .and .u64 9221120237041090561 9223372036854775808 = 0 := by decide +kernel
set_option maxRecDepth 100000 in
theorem putFloat_any (x : Nat) (hx : x < 18446744073709551616) (w : World) : Calls Tryd.prog 16 #[.float .f64 x] w (PutEnd w x) := by
  have hb := fun (u : World) => bits_law u x
  have HN := Lib.hid fun u => isNaN_any x u
  have HA := Lib.hid fun n u => app64_any n u
  have HCV : Hid (∀ (u : World) n base v, u.ownsRow base 5 1 v (be8 n).length ((be8 n).map bV) → (convert 56 9 v).run Tryd.prog u = .ok (.string (strOf (be8 n))) u) := fun u n base v h =>
    run_string_own (P := Tryd.prog) u 56 5 9 Tryd.underlying56 Tryd.underlying5 Tryd.underlying9 (be8_lt n) h
  cases hn : isNaN x with
  | true =>
    have HK := Lib.hid (key_nan hn)
    rw [hn] at HN
    have b1 := nan_or
    have b2 := nan_and
    clear hn hx
    go_enter Tryd.func16, Tryd.ntmps16
    go_wp2_with fail
    refine (HN.out _).mono ?_
    rintro e w1 ⟨rfl, rfl⟩
    go_wp2_with fail
    refine (HA.out 18444492273895866369 w1).mono ?_
    rintro e w2 ⟨v, rfl, hown, hb2⟩
    have hcv := HCV.out w2 _ _ v hown
    have HB2 := Lib.hid hb2
    clear hown hb2
    go_wp2_with fail
    go_ret
    exact ⟨by rw [HK.out]; rfl, HB2.out⟩
  | false =>
    rw [hn] at HN
    cases hs : isNeg x with
    | false =>
      have hlo := sign_lo hs hx
      have HK : Hid (key x = x + 9223372036854775808) := by show _ = _; unfold key; rw [hn, hs]; rfl
      have b1 : bits .and .u64 (x : Int) 9223372036854775808 = 0 := by
        have := bits_and_u64_nat x 9223372036854775808 (by omega) (by omega)
        rw [and_sign_lo x hlo] at this
        exact this
      have b2 : bits .or .u64 (x : Int) 9223372036854775808 = ((x + 9223372036854775808 : Nat) : Int) := by
        have := bits_or_u64_nat x 9223372036854775808 (by omega) (by omega)
        rw [or_sign x hlo] at this
        exact this
      generalize x + 9223372036854775808 = kx at *
      clear hn hx hs hlo
      go_enter Tryd.func16, Tryd.ntmps16
      go_wp2_with fail
      refine (HN.out _).mono ?_
      rintro e w1 ⟨rfl, rfl⟩
      go_wp2_with fail
      refine (HA.out kx w1).mono ?_
      rintro e w2 ⟨v, rfl, hown, hb2⟩
      have hcv := HCV.out w2 _ _ v hown
      have HB2 := Lib.hid hb2
      clear hown hb2
      go_wp2_with fail
      go_ret
      exact ⟨by rw [HK.out]; rfl, HB2.out⟩
    | true =>
      obtain ⟨r, hr, hxr⟩ := sign_hi hs hx
      have HK : Hid (key x = 18446744073709551615 - x) := by show _ = _; unfold key; rw [hn, hs]; rfl
      have b1 : bits .and .u64 (x : Int) 9223372036854775808 = 9223372036854775808 := by
        have := bits_and_u64_nat x 9223372036854775808 (by omega) (by omega)
        rw [hxr, and_sign_hi r hr] at this
        rw [hxr]
        exact this
      have b3 : bits .xor .u64 IntKind.u64.max (x : Int) = ((18446744073709551615 - x : Nat) : Int) := by
        have := bits_xor_u64_nat 18446744073709551615 x (by omega) hx
        rw [xor_all x hx] at this
        exact this
      generalize 18446744073709551615 - x = kx at *
      clear hn hx hs hr hxr
      go_enter Tryd.func16, Tryd.ntmps16
      go_wp2_with fail
      refine (HN.out _).mono ?_
      rintro e w1 ⟨rfl, rfl⟩
      go_wp2_with fail
      refine (HA.out kx w1).mono ?_
      rintro e w2 ⟨v, rfl, hown, hb2⟩
      have hcv := HCV.out w2 _ _ v hown
      have HB2 := Lib.hid hb2
      clear hown hb2
      go_wp2_with fail
      go_ret
      exact ⟨by rw [HK.out]; rfl, HB2.out⟩
theorem cs1 : bits .andNot .u64 0 9223372036854775808 = 0 := by decide +kernel
theorem cs2 : bits .and .u64 13830554455654793216 9223372036854775808 = 9223372036854775808 := by decide +kernel
theorem cs3 : bits .or .u64 0 9223372036854775808 = 9223372036854775808 := by decide +kernel
end Go.Proofs.YtiokodjlijaddaaDoor
