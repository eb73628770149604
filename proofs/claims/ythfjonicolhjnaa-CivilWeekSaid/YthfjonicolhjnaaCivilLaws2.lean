/- The walks of the laws CivilBack and CivilWeek: they return true. -/
import Derived.Test.YthfjonicolhjnaaCivilLaws
namespace Go.Proofs.Ythfjonicolhjnaa
open Go.RowKit Plain
theorem dnum_date {y m d : Int} (h : Good y m d) : IsDate y m d (dnum y m d) := by
  obtain ⟨h1, h2, h3, h4, h5, h6⟩ := h
  exact ⟨h1, h2, h3, h4, h5, h6, rfl⟩
theorem dnum2000 : dnum 2000 2 29 = 11016 := by decide
set_option maxRecDepth 100000 in
set_option maxHeartbeats 2000000 in
theorem civilBack_walk (y m d n : Int) (w : World) :
    Calls Try.prog 6 #[.int .i64 y, .int .i64 m, .int .i64 d, .int .i64 n] w fun e w' => e = .returned (.bool true) ∧ w = w' := by
  have q0 := ieq' dnum2000
  have hl2 : 29 ≤ mlen 2000 2 := by decide
  by_cases hg : Good y m d
  · have hd := dnum_date hg
    have hr := hd.range
    have ⟨u1, u2, u3⟩ := dt_unique hd
    have v1 := ieq' u1
    have v2 := ieq' u2
    have v3 := ieq' u3
    obtain ⟨g1, g2, g3, g4, g5, g6⟩ := hg
    obtain ⟨r1, r2⟩ := hr
    clear hd u1 u2 u3
    by_cases hn : -719162 ≤ n ∧ n ≤ 2932896
    · obtain ⟨n1, n2⟩ := hn
      have hs := dt_spec n n1 n2
      have e1 := ieq (show dnum (dY n) (dM n) (dD n) = n from hs.2.2.2.2.2.2)
      obtain ⟨y1, y2, m1, m2, d1, d2, _⟩ := hs
      go_enter Try.func6, Try.ntmps6
      go_wp2_with (first | (go_at_call 17; refine (Date_in _ _ (by omega) (by omega)).mono ?_; rintro e w' ⟨rfl, rfl⟩) | (go_at_call 20; refine (ok_in _ _ (by omega) (by omega)).mono ?_; rintro e w' ⟨rfl, rfl⟩) | (go_at_call 19; refine (Days_in _ _ _ _ (by omega) (by omega) (by omega) (by omega) (by omega) (by omega)).mono ?_; rintro e w' ⟨rfl, rfl⟩))
      go_ret
      exact ⟨rfl, rfl⟩
    · have H := Lib.hid (show n < -719162 ∨ 2932896 < n by omega)
      clear hn
      go_enter Try.func6, Try.ntmps6
      go_wp2_with (first | (go_at_call 17; refine (Date_in _ _ (by omega) (by omega)).mono ?_; rintro e w' ⟨rfl, rfl⟩) | (go_at_call 17; refine (Date_out _ _ (by exact H.out)).mono ?_; rintro e w' ⟨rfl, rfl⟩) | (go_at_call 20; refine (ok_in _ _ (by omega) (by omega)).mono ?_; rintro e w' ⟨rfl, rfl⟩) | (go_at_call 20; refine (ok_out _ _ (by exact H.out)).mono ?_; rintro e w' ⟨rfl, rfl⟩) | (go_at_call 19; refine (Days_in _ _ _ _ (by omega) (by omega) (by omega) (by omega) (by omega) (by omega)).mono ?_; rintro e w' ⟨rfl, rfl⟩))
      go_ret
      exact ⟨rfl, rfl⟩
  · have HB := Lib.hid hg
    clear hg
    by_cases hn : -719162 ≤ n ∧ n ≤ 2932896
    · obtain ⟨n1, n2⟩ := hn
      have hs := dt_spec n n1 n2
      have e1 := ieq (show dnum (dY n) (dM n) (dD n) = n from hs.2.2.2.2.2.2)
      obtain ⟨y1, y2, m1, m2, d1, d2, _⟩ := hs
      go_enter Try.func6, Try.ntmps6
      go_wp2_with (first | (go_at_call 17; refine (Date_in _ _ (by omega) (by omega)).mono ?_; rintro e w' ⟨rfl, rfl⟩) | (go_at_call 19; refine (Days_in _ _ _ _ (by omega) (by omega) (by omega) (by omega) (by omega) (by omega)).mono ?_; rintro e w' ⟨rfl, rfl⟩) | (go_at_call 19; refine (Days_out _ _ _ _ (by exact HB.out)).mono ?_; rintro e w' ⟨rfl, rfl⟩))
      go_ret
      exact ⟨rfl, rfl⟩
    · have H := Lib.hid (show n < -719162 ∨ 2932896 < n by omega)
      clear hn
      go_enter Try.func6, Try.ntmps6
      go_wp2_with (first | (go_at_call 17; refine (Date_out _ _ (by exact H.out)).mono ?_; rintro e w' ⟨rfl, rfl⟩) | (go_at_call 20; refine (ok_out _ _ (by exact H.out)).mono ?_; rintro e w' ⟨rfl, rfl⟩) | (go_at_call 19; refine (Days_in _ _ _ _ (by omega) (by omega) (by omega) (by omega) (by omega) (by omega)).mono ?_; rintro e w' ⟨rfl, rfl⟩) | (go_at_call 19; refine (Days_out _ _ _ _ (by exact HB.out)).mono ?_; rintro e w' ⟨rfl, rfl⟩))
      go_ret
      exact ⟨rfl, rfl⟩
/-- the Thursday of a day's week -/
def thu (n : Int) : Int := n + (4 - wday n)
def wkN (n : Int) : Int := (thu n - ybeg (dY (thu n))) / 7 + 1
theorem yearOf {y n : Int} (h1 : 1 ≤ y) (h2 : y ≤ 9999) (h3 : ybeg y ≤ n) (h4 : n < ybeg (y + 1)) : dY n = y := by
  have hb := ybeg_bd y h1 (by omega)
  have hb2 := ybeg_bd (y + 1) (by omega) (by omega)
  have hs := dt_spec n (by omega) (by omega)
  have hy := hs.year
  have k1 := hs.1
  have k2 := hs.2.1
  rcases Int.lt_trichotomy (dY n) y with g | g | g
  · have := ybeg_mono (dY n + 1) y (by omega) (by omega); omega
  · exact g
  · have := ybeg_mono (y + 1) (dY n) (by omega) (by omega); omega
theorem week0 : dY (thu 0) = 1970 ∧ wkN 0 = 1 := by
  have h : dY (thu 0) = 1970 := yearOf (by decide) (by decide) (by decide) (by decide)
  refine ⟨h, ?_⟩
  unfold wkN
  rw [h]
  decide
theorem week4 (y : Int) (h1 : 1 ≤ y) (h2 : y ≤ 9999) : dY (thu (dnum y 1 4)) = y ∧ wkN (dnum y 1 4) = 1 := by
  have hk : dnum y 1 4 = ybeg y + 3 := by unfold dnum; rw [mcum_1]; omega
  have hs := ybeg_succ y h1
  have hl := LB_01 y
  have ht : ybeg y ≤ thu (dnum y 1 4) ∧ thu (dnum y 1 4) ≤ ybeg y + 6 := by rw [hk]; unfold thu wday; omega
  have hy : dY (thu (dnum y 1 4)) = y := yearOf h1 h2 ht.1 (by omega)
  refine ⟨hy, ?_⟩
  unfold wkN
  rw [hy]
  omega
theorem week_bd (n : Int) (h1 : -719162 ≤ n) (h2 : n ≤ 2932896) : 1 ≤ wkN n ∧ wkN n ≤ 53 := by
  have ⟨t0, t1⟩ := thu_bd n h1 h2
  have hs := dt_spec (thu n) t0 t1
  have hy := hs.year
  have hss := ybeg_succ (dY (thu n)) hs.1
  have hl := LB_01 (dY (thu n))
  unfold wkN
  omega
theorem week_next (n : Int) (h1 : -719162 ≤ n) (h2 : n < 2932896) :
    (wday n < 7 ∧ dY (thu (n + 1)) = dY (thu n) ∧ wkN (n + 1) = wkN n) ∨
    (wday n = 7 ∧ ((dY (thu (n + 1)) = dY (thu n) ∧ wkN (n + 1) = wkN n + 1) ∨ (dY (thu (n + 1)) = dY (thu n) + 1 ∧ wkN (n + 1) = 1))) := by
  have hw := wday_bd n
  by_cases c : wday n < 7
  · left
    have e : thu (n + 1) = thu n := by unfold thu wday at *; omega
    refine ⟨c, by rw [e], ?_⟩
    unfold wkN
    rw [e]
  · right
    have e : thu (n + 1) = thu n + 7 := by unfold thu wday at *; omega
    refine ⟨by omega, ?_⟩
    have ⟨t0, t1⟩ := thu_bd n h1 (by omega)
    have ⟨t2, t3⟩ := thu_bd (n + 1) (by omega) (by omega)
    have hs := dt_spec (thu n) t0 t1
    have hs2 := dt_spec (thu (n + 1)) t2 t3
    have hy := hs.year
    have hy2 := hs2.year
    have hss := ybeg_succ (dY (thu n)) hs.1
    have k1 := hs.1
    have k2 := hs.2.1
    have k3 := hs2.1
    have k4 := hs2.2.1
    have hl := LB_01 (dY (thu n))
    by_cases c2 : thu n + 7 < ybeg (dY (thu n) + 1)
    · left
      have hyy : dY (thu (n + 1)) = dY (thu n) := yearOf k1 k2 (by omega) (by omega)
      refine ⟨hyy, ?_⟩
      unfold wkN
      rw [hyy, e]
      omega
    · right
      have hlt : dY (thu n) < 9999 := by
        by_cases e9 : dY (thu n) = 9999
        · exfalso
          rw [e9] at c2
          have : ybeg (9999 + 1) = 2932897 := by decide
          have ht3 : thu (n + 1) ≤ 2932896 := t3
          omega
        · omega
      have hss2 := ybeg_succ (dY (thu n) + 1) (by omega)
      have hl2 := LB_01 (dY (thu n) + 1)
      have hyy : dY (thu (n + 1)) = dY (thu n) + 1 := yearOf (by omega) (by omega) (by omega) (by omega)
      refine ⟨hyy, ?_⟩
      unfold wkN
      rw [hyy, e]
      omega
theorem Week_thu (n : Int) (w : World) (h0 : -719162 ≤ n) (h1 : n ≤ 2932896) :
    Calls Try.prog 22 #[.int .i64 n] w fun e w' => e = .returned (.tuple #[.int .i64 (dY (thu n)), .int .i64 (wkN n), .int .i64 0]) ∧ w = w' := Week_in n w h0 h1
set_option maxRecDepth 100000 in
set_option maxHeartbeats 2000000 in
theorem civilWeek_walk (n year : Int) (w : World) :
    Calls Try.prog 9 #[.int .i64 n, .int .i64 year] w fun e w' => e = .returned (.bool true) ∧ w = w' := by
  have q1 := ieq' week0.1
  have q2 := ieq' week0.2
  have hY : (∃ k : Int, Hid (k = dnum year 1 4) ∧ Good year 1 4 ∧ -719162 ≤ k ∧ k ≤ 2932896 ∧ (dY (thu k) != year) = false ∧ (wkN k != 1) = false) ∨ ¬ Good year 1 4 := by
    by_cases hg : Good year 1 4
    · left
      have hr := (dnum_date hg).range
      have h4 := week4 year hg.1 hg.2.1
      exact ⟨_, rfl, hg, hr.1, hr.2, ieq' h4.1, ieq' h4.2⟩
    · exact .inr hg
  have hN : (n < -719162 ∨ 2932896 ≤ n) ∨ (-719162 ≤ n ∧ n < 2932896) := by omega
  rcases hY with ⟨k, hk, ⟨g1, g2, g3, g4, g5, g6⟩, r1, r2, v1, v2⟩ | hb
  · have CD : Hid (∀ w, Calls Try.prog 19 #[.int .i64 year, .int .i64 1, .int .i64 4] w fun e w' => e = .returned (.tuple #[.int .i64 k, .int .i64 0]) ∧ w = w') := fun w => by rw [hk.out]; exact Days_in year 1 4 w g1 g2 g3 g4 g5 g6
    rcases hN with h | ⟨n1, n2⟩
    · rcases h with h | h
      all_goals
        go_enter Try.func9, Try.ntmps9
        go_wp2_with (first | (go_at_call 22; refine (Week_thu _ _ (by omega) (by omega)).mono ?_; rintro e w' ⟨rfl, rfl⟩) | (go_at_call 19; refine (CD.out _).mono ?_; rintro e w' ⟨rfl, rfl⟩))
        go_ret
        exact ⟨rfl, rfl⟩
    · have wb := week_bd n n1 (by omega)
      obtain ⟨wb1, wb2⟩ := wb
      have db := wday_bd n
      rcases week_next n n1 n2 with ⟨c, e1, e2⟩ | ⟨c, ⟨e1, e2⟩ | ⟨e1, e2⟩⟩
      · have x1 := ieq e1
        have x2 := ieq e2
        have x3 : (wkN (n + 1) == wkN n + 1) = false := ine (by omega)
        have x4 : (dY (thu (n + 1)) == dY (thu n) + 1) = false := ine (by omega)
        have hs := dt_spec (thu n) (thu_bd n n1 (by omega)).1 (thu_bd n n1 (by omega)).2
        have y1 := hs.1
        have y2 := hs.2.1
        clear e1 e2 hs
        go_enter Try.func9, Try.ntmps9
        go_wp2_with (first | (go_at_call 22; refine (Week_thu _ _ (by omega) (by omega)).mono ?_; rintro e w' ⟨rfl, rfl⟩) | (go_at_call 19; refine (CD.out _).mono ?_; rintro e w' ⟨rfl, rfl⟩) | (go_at_call 18; refine (Weekday_in _ _ (by omega) (by omega)).mono ?_; rintro e w' ⟨rfl, rfl⟩))
        go_ret
        exact ⟨rfl, rfl⟩
      · have x1 := ieq e1
        have x2 := ieq e2
        have x3 : (wkN (n + 1) == wkN n) = false := ine (by omega)
        have c7 : 7 ≤ wday n := by omega
        have x4 := ieq c
        have hs := dt_spec (thu n) (thu_bd n n1 (by omega)).1 (thu_bd n n1 (by omega)).2
        have y1 := hs.1
        have y2 := hs.2.1
        clear e1 e2 c hs
        go_enter Try.func9, Try.ntmps9
        go_wp2_with (first | (go_at_call 22; refine (Week_thu _ _ (by omega) (by omega)).mono ?_; rintro e w' ⟨rfl, rfl⟩) | (go_at_call 19; refine (CD.out _).mono ?_; rintro e w' ⟨rfl, rfl⟩) | (go_at_call 18; refine (Weekday_in _ _ (by omega) (by omega)).mono ?_; rintro e w' ⟨rfl, rfl⟩))
        go_ret
        exact ⟨rfl, rfl⟩
      · have x1 := ieq e1
        have x2 := ieq e2
        have x3 : (dY (thu (n + 1)) == dY (thu n)) = false := ine (by omega)
        have c7 : 7 ≤ wday n := by omega
        have x4 := ieq c
        have hs := dt_spec (thu n) (thu_bd n n1 (by omega)).1 (thu_bd n n1 (by omega)).2
        have y1 := hs.1
        have y2 := hs.2.1
        clear e1 e2 c hs
        go_enter Try.func9, Try.ntmps9
        go_wp2_with (first | (go_at_call 22; refine (Week_thu _ _ (by omega) (by omega)).mono ?_; rintro e w' ⟨rfl, rfl⟩) | (go_at_call 19; refine (CD.out _).mono ?_; rintro e w' ⟨rfl, rfl⟩) | (go_at_call 18; refine (Weekday_in _ _ (by omega) (by omega)).mono ?_; rintro e w' ⟨rfl, rfl⟩))
        go_ret
        exact ⟨rfl, rfl⟩
  · have CD : Hid (∀ w, Calls Try.prog 19 #[.int .i64 year, .int .i64 1, .int .i64 4] w fun e w' => e = .returned (.tuple #[.int .i64 0, .int .i64 1]) ∧ w = w') := fun w => Days_out year 1 4 w hb
    clear hb
    rcases hN with h | ⟨n1, n2⟩
    · rcases h with h | h
      all_goals
        go_enter Try.func9, Try.ntmps9
        go_wp2_with (first | (go_at_call 22; refine (Week_thu _ _ (by omega) (by omega)).mono ?_; rintro e w' ⟨rfl, rfl⟩) | (go_at_call 19; refine (CD.out _).mono ?_; rintro e w' ⟨rfl, rfl⟩))
        go_ret
        exact ⟨rfl, rfl⟩
    · have wb := week_bd n n1 (by omega)
      obtain ⟨wb1, wb2⟩ := wb
      have db := wday_bd n
      rcases week_next n n1 n2 with ⟨c, e1, e2⟩ | ⟨c, ⟨e1, e2⟩ | ⟨e1, e2⟩⟩
      · have x1 := ieq e1
        have x2 := ieq e2
        have x3 : (wkN (n + 1) == wkN n + 1) = false := ine (by omega)
        have x4 : (dY (thu (n + 1)) == dY (thu n) + 1) = false := ine (by omega)
        have hs := dt_spec (thu n) (thu_bd n n1 (by omega)).1 (thu_bd n n1 (by omega)).2
        have y1 := hs.1
        have y2 := hs.2.1
        clear e1 e2 hs
        go_enter Try.func9, Try.ntmps9
        go_wp2_with (first | (go_at_call 22; refine (Week_thu _ _ (by omega) (by omega)).mono ?_; rintro e w' ⟨rfl, rfl⟩) | (go_at_call 19; refine (CD.out _).mono ?_; rintro e w' ⟨rfl, rfl⟩) | (go_at_call 18; refine (Weekday_in _ _ (by omega) (by omega)).mono ?_; rintro e w' ⟨rfl, rfl⟩))
        go_ret
        exact ⟨rfl, rfl⟩
      · have x1 := ieq e1
        have x2 := ieq e2
        have x3 : (wkN (n + 1) == wkN n) = false := ine (by omega)
        have c7 : 7 ≤ wday n := by omega
        have x4 := ieq c
        have hs := dt_spec (thu n) (thu_bd n n1 (by omega)).1 (thu_bd n n1 (by omega)).2
        have y1 := hs.1
        have y2 := hs.2.1
        clear e1 e2 c hs
        go_enter Try.func9, Try.ntmps9
        go_wp2_with (first | (go_at_call 22; refine (Week_thu _ _ (by omega) (by omega)).mono ?_; rintro e w' ⟨rfl, rfl⟩) | (go_at_call 19; refine (CD.out _).mono ?_; rintro e w' ⟨rfl, rfl⟩) | (go_at_call 18; refine (Weekday_in _ _ (by omega) (by omega)).mono ?_; rintro e w' ⟨rfl, rfl⟩))
        go_ret
        exact ⟨rfl, rfl⟩
      · have x1 := ieq e1
        have x2 := ieq e2
        have x3 : (dY (thu (n + 1)) == dY (thu n)) = false := ine (by omega)
        have c7 : 7 ≤ wday n := by omega
        have x4 := ieq c
        have hs := dt_spec (thu n) (thu_bd n n1 (by omega)).1 (thu_bd n n1 (by omega)).2
        have y1 := hs.1
        have y2 := hs.2.1
        clear e1 e2 c hs
        go_enter Try.func9, Try.ntmps9
        go_wp2_with (first | (go_at_call 22; refine (Week_thu _ _ (by omega) (by omega)).mono ?_; rintro e w' ⟨rfl, rfl⟩) | (go_at_call 19; refine (CD.out _).mono ?_; rintro e w' ⟨rfl, rfl⟩) | (go_at_call 18; refine (Weekday_in _ _ (by omega) (by omega)).mono ?_; rintro e w' ⟨rfl, rfl⟩))
        go_ret
        exact ⟨rfl, rfl⟩
end Go.Proofs.Ythfjonicolhjnaa
