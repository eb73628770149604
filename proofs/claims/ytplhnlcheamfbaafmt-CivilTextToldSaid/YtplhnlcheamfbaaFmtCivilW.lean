/- The walks of package civil: leap, length, begin, OK, date, weekday, Date, Weekday, Days, Week. -/
import Derived.Test.YtplhnlcheamfbaaFmtRows
import Derived.Test.YtplhnlcheamfbaaFmtCivilPlain
import Derived.Test.YtplhnlcheamfbaaFmtBits
import Derived.WalkKit
import Derived.WalkSpells
import Derived.WalkLawsBesides
import Derived.Lib.Hide
namespace Go.Proofs.YtplhnlcheamfbaaFmt
open Go.RowKit Plain
set_option maxRecDepth 100000 in
theorem leap_any (y : Int) (w : World) (h0 : 0 ≤ y) (h1 : y ≤ 100000) :
    Calls Tryf.prog 13 #[.int .i64 y] w fun e w' => e = .returned (.bool (lpB y)) ∧ w = w' := by
  by_cases h4 : y % 4 = 0
  · by_cases h100 : y % 100 = 0
    · by_cases h400 : y % 400 = 0
      · have hl : lpB y = true := by simp [lpB, h4, h400]
        have HL := Lib.hid hl
        have b4 : (y % 4 == 0) = true := by simp [h4]
        have b100 : (y % 100 != 0) = false := by simp [h100]
        have b400 : (y % 400 == 0) = true := by simp [h400]
        clear hl h4 h100 h400
        go_enter Tryf.func13, Tryf.ntmps13
        go_wp2
        go_ret
        exact ⟨ret_bool HL.out.symm, rfl⟩
      · have hl : lpB y = false := by simp [lpB, h100, h400]
        have HL := Lib.hid hl
        have b4 : (y % 4 == 0) = true := by simp [h4]
        have b100 : (y % 100 != 0) = false := by simp [h100]
        have b400 : (y % 400 == 0) = false := by simp [h400]
        clear hl h4 h100 h400
        go_enter Tryf.func13, Tryf.ntmps13
        go_wp2
        go_ret
        exact ⟨ret_bool HL.out.symm, rfl⟩
    · have hl : lpB y = true := by simp [lpB, h4, h100]
      have HL := Lib.hid hl
      have b4 : (y % 4 == 0) = true := by simp [h4]
      have b100 : (y % 100 != 0) = true := by simp [h100]
      clear hl h4 h100
      go_enter Tryf.func13, Tryf.ntmps13
      go_wp2
      go_ret
      exact ⟨ret_bool HL.out.symm, rfl⟩
  · have hl : lpB y = false := by simp [lpB, h4]
    have HL := Lib.hid hl
    have b4 : (y % 4 == 0) = false := by simp [h4]
    clear hl h4
    go_enter Tryf.func13, Tryf.ntmps13
    go_wp2
    go_ret
    exact ⟨ret_bool HL.out.symm, rfl⟩
set_option maxRecDepth 100000 in
theorem length_any (y m : Int) (w : World) (h0 : 0 ≤ y) (h1 : y ≤ 100000) (hm1 : 1 ≤ m) (hm2 : m ≤ 12) :
    Calls Tryf.prog 12 #[.int .i64 y, .int .i64 m] w fun e w' => e = .returned (.int .i64 (mlen y m)) ∧ w = w' := by
  rcases mcases hm1 hm2 with rfl | rfl | rfl | rfl | rfl | rfl | rfl | rfl | rfl | rfl | rfl | rfl
  case inr.inl =>
    cases hl : lpB y
    all_goals
      have HL : Hid (mlen y 2 = 28 + if lpB y = true then 1 else 0) := by simp [mlen, LB, RowKit.Hid]
      rw [hl] at HL
      go_enter Tryf.func12, Tryf.ntmps12
      go_wp2_with (go_at_call 13; refine (leap_any _ _ (by omega) (by omega)).mono ?_; rintro e w' ⟨rfl, rfl⟩)
      go_ret
      exact ⟨ret_int (by rw [HL.out]; simp), rfl⟩
  all_goals
    go_enter Tryf.func12, Tryf.ntmps12
    go_wp2
    go_ret
    exact ⟨ret_int (by simp [mlen]), rfl⟩
set_option maxRecDepth 100000 in
theorem begin_any (y : Int) (w : World) (h0 : 1 ≤ y) (h1 : y ≤ 100000) :
    Calls Tryf.prog 11 #[.int .i64 y] w fun e w' => e = .returned (.int .i64 (ybeg y)) ∧ w = w' := by
  go_enter Tryf.func11, Tryf.ntmps11
  go_wp2
  go_ret
  exact ⟨ret_int (by unfold ybeg; first | rfl | omega), rfl⟩
theorem ok_in (n : Int) (w : World) (h0 : -719162 ≤ n) (h1 : n ≤ 2932896) :
    Calls Tryf.prog 6 #[.int .i64 n] w fun e w' => e = .returned (.int .i64 0) ∧ w = w' := by
  go_enter Tryf.func6, Tryf.ntmps6
  go_wp2
  go_ret
  exact ⟨rfl, rfl⟩
theorem ok_out (n : Int) (w : World) (h : n < -719162 ∨ 2932896 < n) :
    Calls Tryf.prog 6 #[.int .i64 n] w fun e w' => e = .returned (.int .i64 1) ∧ w = w' := by
  rcases h with h | h
  · go_enter Tryf.func6, Tryf.ntmps6
    go_wp2
    go_ret
    exact ⟨rfl, rfl⟩
  · have h' : ¬ n < -719162 := by omega
    go_enter Tryf.func6, Tryf.ntmps6
    go_wp2
    go_ret
    exact ⟨rfl, rfl⟩
end Go.Proofs.YtplhnlcheamfbaaFmt
