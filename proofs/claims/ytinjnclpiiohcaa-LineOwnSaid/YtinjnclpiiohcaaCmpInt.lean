/- The walk of cmp.Compare at int. -/
import Derived.Test.YtinjnclpiiohcaaSlices
import Derived.Test.YtinjnclpiiohcaaRows
import Derived.WalkSpells
import Derived.WalkLawsBesides
import Derived.Deep.QuietTactic
import Derived.BigQuiet
import Derived.Test.YtinjnclpiiohcaaMergePlain
namespace Go.Proofs.Ytinjnclpiiohcaa
open Go.RowKit Plain
namespace Plain
def cmpI (a b : Int) : Int := if a < b then -1 else if b < a then 1 else 0
theorem cmpI_zero (a b : Int) : cmpI a b = 0 ↔ a = b := by
  unfold cmpI
  split
  · omega
  · split <;> omega
theorem cmp_key {α : Type} (k : α → Int) : Cmp fun x y : α => cmpI (k x) (k y) where
  neg x y := by
    unfold cmpI
    by_cases h1 : k x < k y
    · rw [if_pos h1, if_neg (by omega), if_pos h1]; omega
    · by_cases h2 : k y < k x
      · simp only [h1, h2, if_true, if_false]
      · rw [if_neg h1, if_neg h2, if_neg h2, if_neg h1]; omega
  trans x y z h1 h2 := by
    unfold cmpI at *
    by_cases a1 : k x < k y
    · by_cases a2 : k y < k z
      · rw [if_pos (by omega)]; omega
      · rw [if_neg a2] at h2
        split at h2 <;> omega
    · rw [if_neg a1] at h1
      split at h1 <;> omega
  cong x y z h := by
    have := (cmpI_zero _ _).1 h
    simp only [this]
end Plain
set_option maxRecDepth 100000 in
theorem isnanI_any (s : Int) (w : World) : Calls Try.prog 67 #[.int .i64 s] w fun e w' => e = .returned (.bool false) ∧ w = w' := by
  have f1 : (s != s) = false := by simp
  go_enter Try.func67, Try.ntmps67
  go_wp2_with fail
  go_ret
  exact ⟨rfl, rfl⟩
set_option maxRecDepth 100000 in
theorem cmpI_any (a b : Int) (w : World) : Calls Try.prog 52 #[.int .i64 a, .int .i64 b] w fun e w' => e = .returned (.int .i64 (cmpI a b)) ∧ w = w' := by
  have HN := Lib.hid isnanI_any
  by_cases h1 : a < b
  · have HE : Hid (cmpI a b = -1) := by unfold cmpI; exact if_pos h1
    go_enter Try.func52, Try.ntmps52
    go_wp2_with (go_at_call 67; refine (HN.out _ _).mono ?_; rintro e w' ⟨rfl, rfl⟩)
    go_ret
    exact ⟨by rw [HE.out]; rfl, rfl⟩
  · by_cases h2 : b < a
    · have HE : Hid (cmpI a b = 1) := by unfold cmpI; exact (if_neg h1).trans (if_pos h2)
      have h3 : a > b := h2
      have h4 : (a == b) = false := by rw [beq_eq_false_iff_ne]; omega
      go_enter Try.func52, Try.ntmps52
      go_wp2_with (go_at_call 67; refine (HN.out _ _).mono ?_; rintro e w' ⟨rfl, rfl⟩)
      go_ret
      exact ⟨by rw [HE.out]; rfl, rfl⟩
    · have HE : Hid (cmpI a b = 0) := by unfold cmpI; exact (if_neg h1).trans (if_neg h2)
      have h3 : ¬ a > b := h2
      have h4 : (a == b) = true := by rw [beq_iff_eq]; omega
      go_enter Try.func52, Try.ntmps52
      go_wp2_with (go_at_call 67; refine (HN.out _ _).mono ?_; rintro e w' ⟨rfl, rfl⟩)
      go_ret
      exact ⟨by rw [HE.out]; rfl, rfl⟩
end Go.Proofs.Ytinjnclpiiohcaa
