/- The walk of num.GetFloat. -/
import Derived.Test.YtiokodjlijaddaaDoorNumW4
import Derived.Test.YtiokodjlijaddaaDoorNumW3
namespace Go.Proofs.YtiokodjlijaddaaDoor
open Go.RowKit Plain
namespace Plain
/-- the word whose string has the value b -/
def ukey (b : Nat) : Nat := if b < 9223372036854775808 then 18446744073709551615 - b else b - 9223372036854775808
def nanW : Nat := 9221120237041090561
end Plain
def GetFEnd (w0 : World) (s : ByteArray) (e : Ending) (w : World) : Prop :=
  ((s.size < 8 ∧ e = .returned (.tuple #[.float .f64 0, .int .i64 0, .int .i64 3])) ∨
   (8 ≤ s.size ∧ isNaN (ukey (vl ((strN s).take 8))) = true ∧ ukey (vl ((strN s).take 8)) ≠ nanW ∧ e = .returned (.tuple #[.float .f64 0, .int .i64 0, .int .i64 4])) ∨
   (8 ≤ s.size ∧ (isNaN (ukey (vl ((strN s).take 8))) = false ∨ ukey (vl ((strN s).take 8)) = nanW) ∧ e = .returned (.tuple #[.float .f64 (ukey (vl ((strN s).take 8))), .int .i64 8, .int .i64 0]))) ∧ w0 = w
theorem xor_sign_hi (r : Nat) (h : r < 9223372036854775808) : bits .xor .u64 ((r + 9223372036854775808 : Nat) : Int) 9223372036854775808 = (r : Int) := by
  have h1 := bits_xor_u64_nat (r + 9223372036854775808) 9223372036854775808 (by omega) (by omega)
  have h2 : (r + 9223372036854775808) ^^^ 9223372036854775808 = r := by
    rw [← or_sign r h]
    apply Nat.eq_of_testBit_eq
    intro i
    rw [Nat.testBit_xor, Nat.testBit_or, show (9223372036854775808 : Nat) = 2 ^ 63 by decide, Nat.testBit_two_pow]
    by_cases e : 63 = i
    · subst e
      rw [Nat.testBit_lt_two_pow (show r < 2 ^ 63 from h)]
      simp
    · simp [e]
  rw [h2] at h1
  exact h1
theorem xor_all_bits (x : Nat) (h : x < 18446744073709551616) : bits .xor .u64 (if IntKind.u64.signed = true then -1 else IntKind.u64.max) (x : Int) = ((18446744073709551615 - x : Nat) : Int) := by
  have := bits_xor_u64_nat 18446744073709551615 x (by omega) h
  rw [xor_all x h] at this
  exact this
set_option maxRecDepth 100000 in
set_option maxHeartbeats 2000000 in
theorem getFloat_any (s : ByteArray) (w : World) (hs : s.size ≤ 9223372036854775806) : Calls Tryd.prog 20 #[.string s] w (GetFEnd w s) := by
  by_cases h8 : s.size < 8
  · have f0 : (s.size : Int) < 8 := by omega
    go_enter Tryd.func20, Tryd.ntmps20
    go_wp2_with fail
    go_ret3
    exact ⟨.inl ⟨h8, rfl⟩, rfl⟩
  · have f0 : ¬ (s.size : Int) < 8 := by omega
    have f0' : (8 : Int) ≤ (s.size : Int) := by omega
    have hXD : strN (s.extract 0 8) = (strN s).take 8 := by rw [extract_strN', List.drop_zero]
    have HV := Lib.hid fun u => value_any (s.extract 0 8) u (by rw [ByteArray.size_extract]; omega)
    rw [hXD] at HV
    obtain ⟨B, hB⟩ : ∃ B, B = vl ((strN s).take 8) := ⟨_, rfl⟩
    have hB64 : B < 18446744073709551616 := by
      rw [hB]
      have h1 := vl_lt ((strN s).take 8) (fun c hc => strN_lt s c (List.mem_of_mem_take hc))
      have h2 : 256 ^ ((strN s).take 8).length ≤ 256 ^ 8 := Nat.pow_le_pow_right (by decide) (by rw [List.length_take]; omega)
      exact Nat.lt_of_lt_of_le h1 h2
    rw [← hB] at HV
    have HEND : Hid (∀ e, ((isNaN (ukey B) = true ∧ ukey B ≠ nanW ∧ e = .returned (.tuple #[.float .f64 0, .int .i64 0, .int .i64 4])) ∨ ((isNaN (ukey B) = false ∨ ukey B = nanW) ∧ e = .returned (.tuple #[.float .f64 (ukey B), .int .i64 8, .int .i64 0]))) → GetFEnd w s e w) := fun e h => by
      rw [hB] at h
      rcases h with ⟨a, b, c⟩ | ⟨a, b⟩
      · exact ⟨.inr (.inl ⟨by omega, a, b, c⟩), rfl⟩
      · exact ⟨.inr (.inr ⟨by omega, a, b⟩), rfl⟩
    have h8' : 8 ≤ s.size := by omega
    clear hB hXD h8
    obtain ⟨u, hu⟩ : ∃ u, u = ukey B := ⟨_, rfl⟩
    have hf := fun (v : World) => from_law v u
    have HN := Lib.hid fun v => isNaN_any u v
    rw [← hu] at HEND
    obtain ⟨nb, hnb⟩ : ∃ nb, isNaN u = nb := ⟨_, rfl⟩
    obtain ⟨qb, hqb⟩ : ∃ qb, ((u : Int) != 9221120237041090561) = qb := ⟨_, rfl⟩
    have HQ : Hid (qb = true ↔ u ≠ nanW) := by
      show _ ↔ _
      rw [← hqb]
      unfold nanW
      simp
      omega
    have hqt : qb = true → u ≠ nanW := HQ.out.1
    have hqf : qb = false → u = nanW := fun h => Classical.byContradiction fun h2 => by have := HQ.out.2 h2; rw [h] at this; cases this
    have HQT := Lib.hid hqt
    have HQF := Lib.hid hqf
    clear hqt hqf HQ
    rw [hnb] at HN HEND
    clear hnb
    have key : ∀ (_ : True), Calls Tryd.prog 20 #[.string s] w (GetFEnd w s) := fun _ => by
      by_cases hlo : B < 9223372036854775808
      · have hu2 : u = 18446744073709551615 - B := by rw [hu, ukey, if_pos hlo]
        have x1 : bits .and .u64 (B : Int) 9223372036854775808 = 0 := by
          have := bits_and_u64_nat B 9223372036854775808 (by omega) (by omega)
          rw [and_sign_lo B hlo] at this
          exact this
        have x2 := xor_all_bits B hB64
        rw [← hu2] at x2
        clear hu hu2 hlo hB64
        cases nb
        · go_enter Tryd.func20, Tryd.ntmps20
          go_wp2_with fail
          refine (HV.out _).mono ?_
          rintro e w1 ⟨rfl, rfl⟩
          go_wp2_with fail
          refine (HN.out _).mono ?_
          rintro e w2 ⟨rfl, rfl⟩
          go_wp2_with fail
          go_ret3
          exact HEND.out _ (.inr ⟨.inl (by first | rfl | trivial), rfl⟩)
        · cases qb
          all_goals
            go_enter Tryd.func20, Tryd.ntmps20
            go_wp2_with fail
            refine (HV.out _).mono ?_
            rintro e w1 ⟨rfl, rfl⟩
            go_wp2_with fail
            refine (HN.out _).mono ?_
            rintro e w2 ⟨rfl, rfl⟩
            go_wp2_with fail
            go_ret3
            first
              | exact HEND.out _ (.inl ⟨by first | rfl | trivial, HQT.out (by first | rfl | trivial), rfl⟩)
              | exact HEND.out _ (.inr ⟨.inr (HQF.out (by first | rfl | trivial)), rfl⟩)
      · obtain ⟨r, hr⟩ : ∃ r, B = r + 9223372036854775808 := ⟨B - 9223372036854775808, by omega⟩
        have hr63 : r < 9223372036854775808 := by omega
        have hu2 : u = r := by rw [hu, ukey, if_neg hlo]; omega
        subst hu2
        have x1 : bits .and .u64 (B : Int) 9223372036854775808 = 9223372036854775808 := by
          have := bits_and_u64_nat B 9223372036854775808 (by omega) (by omega)
          rw [hr, and_sign_hi u hr63] at this
          rw [hr]
          exact this
        have x2 := xor_sign_hi u hr63
        rw [← hr] at x2
        clear hu hlo hB64 hr hr63
        cases nb
        · go_enter Tryd.func20, Tryd.ntmps20
          go_wp2_with fail
          refine (HV.out _).mono ?_
          rintro e w1 ⟨rfl, rfl⟩
          go_wp2_with fail
          refine (HN.out _).mono ?_
          rintro e w2 ⟨rfl, rfl⟩
          go_wp2_with fail
          go_ret3
          exact HEND.out _ (.inr ⟨.inl (by first | rfl | trivial), rfl⟩)
        · cases qb
          all_goals
            go_enter Tryd.func20, Tryd.ntmps20
            go_wp2_with fail
            refine (HV.out _).mono ?_
            rintro e w1 ⟨rfl, rfl⟩
            go_wp2_with fail
            refine (HN.out _).mono ?_
            rintro e w2 ⟨rfl, rfl⟩
            go_wp2_with fail
            go_ret3
            first
              | exact HEND.out _ (.inl ⟨by first | rfl | trivial, HQT.out (by first | rfl | trivial), rfl⟩)
              | exact HEND.out _ (.inr ⟨.inr (HQF.out (by first | rfl | trivial)), rfl⟩)
    exact key trivial
end Go.Proofs.YtiokodjlijaddaaDoor
