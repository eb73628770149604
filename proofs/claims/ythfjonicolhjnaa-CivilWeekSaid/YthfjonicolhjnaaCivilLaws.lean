/- The walks of the laws CivilEra, CivilBack, CivilNext: they return true. -/
import Derived.Test.YthfjonicolhjnaaCivilD
namespace Go.Proofs.Ythfjonicolhjnaa
open Go.RowKit Plain
theorem ieq {x y : Int} (h : x = y) : (x == y) = true := by subst h; simp
theorem ine {x y : Int} (h : x ≠ y) : (x == y) = false := by simp [h]
theorem ieq' {x y : Int} (h : x = y) : (x != y) = false := by subst h; simp
theorem ine' {x y : Int} (h : x ≠ y) : (x != y) = true := by simp [h]
theorem d146097 : dY 146097 = 2370 ∧ dM 146097 = 1 ∧ dD 146097 = 1 := dt_unique (by unfold IsDate; decide)
set_option maxRecDepth 100000 in
set_option maxHeartbeats 1000000 in
theorem civilEra_walk (n : Int) (w : World) :
    Calls Try.prog 5 #[.int .i64 n] w fun e w' => e = .returned (.bool true) ∧ w = w' := by
  have ⟨k1, k2, k3⟩ := d146097
  have q1 := ieq' k1
  have q2 := ieq' k2
  have q3 := ieq' k3
  clear k1 k2 k3
  by_cases c1 : n < -719162
  · go_enter Try.func5, Try.ntmps5
    go_wp2_with (go_at_call 17; refine (Date_in _ _ (by omega) (by omega)).mono ?_; rintro e w' ⟨rfl, rfl⟩)
    go_ret
    exact ⟨rfl, rfl⟩
  by_cases c2 : 2786799 < n
  · go_enter Try.func5, Try.ntmps5
    go_wp2_with (go_at_call 17; refine (Date_in _ _ (by omega) (by omega)).mono ?_; rintro e w' ⟨rfl, rfl⟩)
    go_ret
    exact ⟨rfl, rfl⟩
  have ⟨e1, e2, e3⟩ := era n (by omega) (by omega)
  have hs := dt_spec n (by omega) (by omega)
  have y1 := hs.1
  have y2 := hs.2.1
  have r1 := ieq e1
  have r2 := ieq e2
  have r3 := ieq e3
  have r4 : (wday n == wday (n + 146097)) = true := ieq (by unfold wday; omega)
  clear hs e1 e2 e3
  go_enter Try.func5, Try.ntmps5
  go_wp2_with (first | (go_at_call 17; refine (Date_in _ _ (by omega) (by omega)).mono ?_; rintro e w' ⟨rfl, rfl⟩) | (go_at_call 18; refine (Weekday_in _ _ (by omega) (by omega)).mono ?_; rintro e w' ⟨rfl, rfl⟩))
  go_ret
  exact ⟨rfl, rfl⟩
/-- the next day -/
theorem next_cases (n : Int) (h1 : -719162 ≤ n) (h2 : n < 2932896) :
    (dD n + 1 ≤ mlen (dY n) (dM n) ∧ dY (n + 1) = dY n ∧ dM (n + 1) = dM n ∧ dD (n + 1) = dD n + 1) ∨
    (mlen (dY n) (dM n) < dD n + 1 ∧ dM n < 12 ∧ dY (n + 1) = dY n ∧ dM (n + 1) = dM n + 1 ∧ dD (n + 1) = 1) ∨
    (mlen (dY n) (dM n) < dD n + 1 ∧ dM n = 12 ∧ dY (n + 1) = dY n + 1 ∧ dM (n + 1) = 1 ∧ dD (n + 1) = 1) := by
  have h := dt_spec n h1 (by omega)
  have hk := dt_spec (n + 1) (by omega) (by omega)
  generalize hy : dY n = y at h ⊢
  generalize hm : dM n = m at h ⊢
  generalize hd : dD n = d at h ⊢
  obtain ⟨a1, a2, a3, a4, a5, a6, a7⟩ := h
  by_cases c : d + 1 ≤ mlen y m
  · left
    exact ⟨c, dt_unique ⟨a1, a2, a3, a4, by omega, c, by omega⟩⟩
  · right
    have hs := mcum_succ y m a3 a4
    have hl := mlen_bd y (m + 1)
    have hl1 := mlen_bd (y + 1) 1
    by_cases c2 : m < 12
    · left
      exact ⟨by omega, c2, dt_unique ⟨a1, a2, by omega, by omega, by omega, by omega, by omega⟩⟩
    · right
      obtain rfl : m = 12 := by omega
      rw [show (12 : Int) + 1 = 13 from rfl, mcum_13] at hs
      have hy1 := ybeg_succ y a1
      have hlt : y < 9999 := by
        by_cases e : y = 9999
        · subst e
          have : ybeg (9999 + 1) = 2932897 := by decide
          omega
        · omega
      exact ⟨by omega, rfl, dt_unique ⟨by omega, by omega, by omega, by omega, by omega, by omega, by rw [mcum_1]; omega⟩⟩
theorem wday0 : wday 0 = 4 := by decide
set_option maxRecDepth 100000 in
set_option maxHeartbeats 1000000 in
theorem civilNext_walk (n : Int) (w : World) :
    Calls Try.prog 8 #[.int .i64 n] w fun e w' => e = .returned (.bool true) ∧ w = w' := by
  have q1 := ieq' wday0
  by_cases c1 : n < -719162
  · go_enter Try.func8, Try.ntmps8
    go_wp2_with (go_at_call 18; refine (Weekday_in _ _ (by omega) (by omega)).mono ?_; rintro e w' ⟨rfl, rfl⟩)
    go_ret
    exact ⟨rfl, rfl⟩
  by_cases c2 : 2932896 ≤ n
  · go_enter Try.func8, Try.ntmps8
    go_wp2_with (go_at_call 18; refine (Weekday_in _ _ (by omega) (by omega)).mono ?_; rintro e w' ⟨rfl, rfl⟩)
    go_ret
    exact ⟨rfl, rfl⟩
  have hs := dt_spec n (by omega) (by omega)
  obtain ⟨y1, y2, m1, m2, d1, d2, _⟩ := hs
  have hl := mlen_bd (dY n) (dM n)
  have wb := wday_bd n
  have r4 : (wday (n + 1) == wday n % 7 + 1) = true := ieq (by unfold wday; omega)
  rcases next_cases n (by omega) (by omega) with ⟨g, e1, e2, e3⟩ | ⟨g, gm, e1, e2, e3⟩ | ⟨g, gm, e1, e2, e3⟩
  · have r1 := ieq e1
    have r2 := ieq e2
    have r3 := ieq e3
    clear e1 e2 e3
    go_enter Try.func8, Try.ntmps8
    go_wp2_with (first | (go_at_call 17; refine (Date_in _ _ (by omega) (by omega)).mono ?_; rintro e w' ⟨rfl, rfl⟩) | (go_at_call 18; refine (Weekday_in _ _ (by omega) (by omega)).mono ?_; rintro e w' ⟨rfl, rfl⟩) | (go_at_call 19; refine (Days_in _ _ _ _ (by omega) (by omega) (by omega) (by omega) (by omega) (by omega)).mono ?_; rintro e w' ⟨rfl, rfl⟩))
    go_ret
    exact ⟨rfl, rfl⟩
  all_goals
    have r1 := ieq e1
    have r2 := ieq e2
    have r3 := ieq e3
    have r5 : (dM n == 12) = decide (dM n = 12) := by rfl
    have hbad : ¬ Good (dY n) (dM n) (dD n + 1) := by unfold Good; omega
    have HB := Lib.hid hbad
    have r6 : (dY (n + 1) == dY n) = decide (dY (n + 1) = dY n) := by rfl
  · have r7 : (dY (n + 1) == dY n) = true := ieq e1
    clear e1 e2 e3 r5 r6 hbad
    go_enter Try.func8, Try.ntmps8
    go_wp2_with (first | (go_at_call 17; refine (Date_in _ _ (by omega) (by omega)).mono ?_; rintro e w' ⟨rfl, rfl⟩) | (go_at_call 18; refine (Weekday_in _ _ (by omega) (by omega)).mono ?_; rintro e w' ⟨rfl, rfl⟩) | (go_at_call 19; refine (Days_out _ _ _ _ HB.out).mono ?_; rintro e w' ⟨rfl, rfl⟩))
    go_ret
    exact ⟨rfl, rfl⟩
  · have r7 : (dY (n + 1) == dY n) = false := ine (by omega)
    have r8 : (dM n == 12) = true := ieq gm
    have gm' : 12 ≤ dM n := by omega
    clear e1 e2 e3 r5 r6 hbad gm
    go_enter Try.func8, Try.ntmps8
    go_wp2_with (first | (go_at_call 17; refine (Date_in _ _ (by omega) (by omega)).mono ?_; rintro e w' ⟨rfl, rfl⟩) | (go_at_call 18; refine (Weekday_in _ _ (by omega) (by omega)).mono ?_; rintro e w' ⟨rfl, rfl⟩) | (go_at_call 19; refine (Days_out _ _ _ _ HB.out).mono ?_; rintro e w' ⟨rfl, rfl⟩))
    go_ret
    exact ⟨rfl, rfl⟩
end Go.Proofs.Ythfjonicolhjnaa
