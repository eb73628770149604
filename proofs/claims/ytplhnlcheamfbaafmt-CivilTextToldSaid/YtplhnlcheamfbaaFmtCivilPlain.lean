/- Plain facts on the calendar: days and dates correspond, the calendar repeats after 400 years. -/
namespace Go.Proofs.YtplhnlcheamfbaaFmt.Plain
/-- a leap year -/
def lpB (y : Int) : Bool := decide (y % 4 = 0) && (decide (y % 100 ≠ 0) || decide (y % 400 = 0))
def LB (y : Int) : Int := if lpB y = true then 1 else 0
theorem LB_01 (y : Int) : LB y = 0 ∨ LB y = 1 := by unfold LB; split <;> simp
theorem LB_eq (y : Int) : LB y = if y % 4 = 0 ∧ (y % 100 ≠ 0 ∨ y % 400 = 0) then 1 else 0 := by
  unfold LB lpB
  simp only [Bool.and_eq_true, Bool.or_eq_true, decide_eq_true_eq]
/-- days of a month -/
def mlen (y m : Int) : Int := if m = 2 then 28 + LB y else if m = 4 ∨ m = 6 ∨ m = 9 ∨ m = 11 then 30 else 31
/-- days ahead of a month -/
def mcum (y m : Int) : Int :=
  if m ≤ 1 then 0 else if m = 2 then 31 else LB y + (if m = 3 then 59 else if m = 4 then 90 else if m = 5 then 120 else if m = 6 then 151 else if m = 7 then 181 else if m = 8 then 212 else if m = 9 then 243 else if m = 10 then 273 else if m = 11 then 304 else if m = 12 then 334 else 365)
/-- the first day of a year -/
def ybeg (y : Int) : Int := -719162 + (y - 1) * 365 + (y - 1) / 4 - (y - 1) / 100 + (y - 1) / 400
theorem mcases {m : Int} (h1 : 1 ≤ m) (h2 : m ≤ 12) : m = 1 ∨ m = 2 ∨ m = 3 ∨ m = 4 ∨ m = 5 ∨ m = 6 ∨ m = 7 ∨ m = 8 ∨ m = 9 ∨ m = 10 ∨ m = 11 ∨ m = 12 := by omega
theorem mlen_bd (y m : Int) : 28 ≤ mlen y m ∧ mlen y m ≤ 31 := by
  have := LB_01 y
  unfold mlen
  split <;> (try split) <;> omega
theorem mcum_succ (y m : Int) (h1 : 1 ≤ m) (h2 : m ≤ 12) : mcum y (m + 1) = mcum y m + mlen y m := by
  rcases mcases h1 h2 with rfl | rfl | rfl | rfl | rfl | rfl | rfl | rfl | rfl | rfl | rfl | rfl <;> simp [mcum, mlen] <;> omega
theorem mcum_13 (y : Int) : mcum y 13 = 365 + LB y := by simp [mcum]; omega
theorem mcum_1 (y : Int) : mcum y 1 = 0 := by simp [mcum]
theorem ybeg_succ (y : Int) (_h : 1 ≤ y) : ybeg (y + 1) = ybeg y + 365 + LB y := by
  rw [LB_eq]
  unfold ybeg
  split <;> omega
theorem mcum_bd (y m : Int) (h1 : 1 ≤ m) (h2 : m ≤ 12) : 0 ≤ mcum y m ∧ mcum y m + mlen y m ≤ 365 + LB y := by
  have := LB_01 y
  rcases mcases h1 h2 with rfl | rfl | rfl | rfl | rfl | rfl | rfl | rfl | rfl | rfl | rfl | rfl <;> simp [mcum, mlen] <;> omega
theorem ybeg_mono (a b : Int) (_h1 : 1 ≤ a) (h : a ≤ b) : ybeg a ≤ ybeg b := by
  unfold ybeg; omega
theorem ybeg_bd (y : Int) (h1 : 1 ≤ y) (h2 : y ≤ 10000) : -719162 ≤ ybeg y ∧ ybeg y ≤ 2932897 := by
  unfold ybeg; omega
/-- y, m, d is a date, and n its day -/
def IsDate (y m d n : Int) : Prop := 1 ≤ y ∧ y ≤ 9999 ∧ 1 ≤ m ∧ m ≤ 12 ∧ 1 ≤ d ∧ d ≤ mlen y m ∧ ybeg y + mcum y m + d - 1 = n
theorem IsDate.year {y m d n : Int} (h : IsDate y m d n) : ybeg y ≤ n ∧ n < ybeg (y + 1) := by
  obtain ⟨hy1, hy2, hm1, hm2, hd1, hd2, he⟩ := h
  have := mcum_bd y m hm1 hm2
  rw [ybeg_succ y hy1]
  omega
theorem IsDate.range {y m d n : Int} (h : IsDate y m d n) : -719162 ≤ n ∧ n ≤ 2932896 := by
  have h1 := h.year
  obtain ⟨hy1, hy2, _⟩ := h
  have := ybeg_bd y hy1 (by omega)
  have := ybeg_bd (y + 1) (by omega) (by omega)
  omega
theorem mcum_mono (y a b : Int) (h1 : 1 ≤ a) (h2 : a < b) (h3 : b ≤ 12) : mcum y a + mlen y a ≤ mcum y b := by
  have := LB_01 y
  rcases mcases h1 (by omega) with rfl | rfl | rfl | rfl | rfl | rfl | rfl | rfl | rfl | rfl | rfl | rfl <;> rcases mcases (show (1 : Int) ≤ b by omega) h3 with rfl | rfl | rfl | rfl | rfl | rfl | rfl | rfl | rfl | rfl | rfl | rfl <;> first | (exfalso; omega) | (simp [mcum, mlen]; done) | (simp [mcum, mlen]; omega)
theorem IsDate.unique {y m d y' m' d' n : Int} (h : IsDate y m d n) (k : IsDate y' m' d' n) : y = y' ∧ m = m' ∧ d = d' := by
  have hy := h.year
  have ky := k.year
  obtain ⟨hy1, hy2, hm1, hm2, hd1, hd2, he⟩ := h
  obtain ⟨ky1, ky2, km1, km2, kd1, kd2, ke⟩ := k
  have e1 : y = y' := by
    rcases Int.lt_trichotomy y y' with g | g | g
    · have := ybeg_mono (y + 1) y' (by omega) (by omega); omega
    · exact g
    · have := ybeg_mono (y' + 1) y (by omega) (by omega); omega
  subst e1
  have e2 : m = m' := by
    rcases Int.lt_trichotomy m m' with g | g | g
    · have := mcum_mono y m m' hm1 g km2; omega
    · exact g
    · have := mcum_mono y m' m km1 g hm2; omega
  subst e2
  exact ⟨rfl, rfl, by omega⟩
/-- the search for the year -/
def upY : Nat → Int → Int → Int
  | 0, y, _ => y
  | f + 1, y, n => if y < 9999 ∧ ybeg (y + 1) ≤ n then upY f (y + 1) n else y
/-- the search for the month -/
def upM : Nat → Int → Int → Int → Int × Int
  | 0, _, m, d => (m, d)
  | f + 1, y, m, d => if mlen y m < d then upM f y (m + 1) (d - mlen y m) else (m, d)
def y0 (n : Int) : Int := (n + 719162) / 366 + 1
def dY (n : Int) : Int := upY 10000 (y0 n) n
def dMD (n : Int) : Int × Int := upM 12 (dY n) 1 (n - ybeg (dY n) + 1)
def dM (n : Int) : Int := (dMD n).1
def dD (n : Int) : Int := (dMD n).2
theorem y0_bd (n : Int) (h1 : -719162 ≤ n) (h2 : n ≤ 2932896) : 1 ≤ y0 n ∧ y0 n ≤ 9999 ∧ ybeg (y0 n) ≤ n := by
  unfold y0 ybeg; omega
theorem upY_spec (f : Nat) (y n : Int) (hf : 9999 - y ≤ f) (h1 : 1 ≤ y) (h2 : y ≤ 9999) (hb : ybeg y ≤ n) (hn : n ≤ 2932896) :
    1 ≤ upY f y n ∧ upY f y n ≤ 9999 ∧ ybeg (upY f y n) ≤ n ∧ n < ybeg (upY f y n + 1) := by
  have h10000 : ybeg 10000 = 2932897 := by decide
  induction f generalizing y with
  | zero =>
    have : y = 9999 := by omega
    subst this
    refine ⟨h1, h2, hb, ?_⟩
    show n < ybeg (9999 + 1)
    rw [show (9999 : Int) + 1 = 10000 from rfl, h10000]; omega
  | succ f ih =>
    unfold upY
    by_cases c : y < 9999 ∧ ybeg (y + 1) ≤ n
    · rw [if_pos c]
      exact ih (y + 1) (by omega) (by omega) (by omega) c.2
    · rw [if_neg c]
      refine ⟨h1, h2, hb, ?_⟩
      by_cases e : y = 9999
      · subst e
        rw [show (9999 : Int) + 1 = 10000 from rfl, h10000]; omega
      · omega
theorem upM_spec (f : Nat) (y m d : Int) (hf : 12 - m ≤ f) (h1 : 1 ≤ m) (h2 : m ≤ 12) (hd : 1 ≤ d) (hm : mcum y m + d ≤ 365 + LB y) :
    1 ≤ (upM f y m d).1 ∧ (upM f y m d).1 ≤ 12 ∧ 1 ≤ (upM f y m d).2 ∧ (upM f y m d).2 ≤ mlen y (upM f y m d).1 ∧ mcum y (upM f y m d).1 + (upM f y m d).2 = mcum y m + d := by
  induction f generalizing m d with
  | zero =>
    have : m = 12 := by omega
    subst this
    have := mcum_succ y 12 (by omega) (by omega)
    rw [show (12 : Int) + 1 = 13 from rfl, mcum_13] at this
    exact ⟨h1, h2, hd, by show d ≤ mlen y 12; omega, rfl⟩
  | succ f ih =>
    unfold upM
    by_cases c : mlen y m < d
    · rw [if_pos c]
      have hs := mcum_succ y m h1 h2
      by_cases e : m = 12
      · subst e
        rw [show (12 : Int) + 1 = 13 from rfl, mcum_13] at hs
        omega
      · have := ih (m + 1) (d - mlen y m) (by omega) (by omega) (by omega) (by omega) (by omega)
        refine ⟨this.1, this.2.1, this.2.2.1, this.2.2.2.1, ?_⟩
        rw [this.2.2.2.2]; omega
    · rw [if_neg c]
      exact ⟨h1, h2, hd, by show d ≤ mlen y m; omega, rfl⟩
theorem dt_spec (n : Int) (h1 : -719162 ≤ n) (h2 : n ≤ 2932896) : IsDate (dY n) (dM n) (dD n) n := by
  have ⟨a1, a2, a3⟩ := y0_bd n h1 h2
  have ⟨b1, b2, b3, b4⟩ := upY_spec 10000 (y0 n) n (by omega) a1 a2 a3 h2
  have hs := ybeg_succ (dY n) b1
  have c := upM_spec 12 (dY n) 1 (n - ybeg (dY n) + 1) (by omega) (by omega) (by omega) (by unfold dY; omega) (by rw [mcum_1]; unfold dY at *; omega)
  rw [mcum_1] at c
  refine ⟨b1, b2, c.1, c.2.1, c.2.2.1, c.2.2.2.1, ?_⟩
  have := c.2.2.2.2
  unfold dM dD dMD
  omega
theorem dt_unique {y m d n : Int} (h : IsDate y m d n) : dY n = y ∧ dM n = m ∧ dD n = d :=
  (dt_spec n h.range.1 h.range.2).unique h
theorem ybeg_era (y : Int) : ybeg (y + 400) = ybeg y + 146097 := by unfold ybeg; omega
theorem LB_era (y : Int) : LB (y + 400) = LB y := by
  rw [LB_eq, LB_eq]
  have h1 : (y + 400) % 4 = y % 4 := by omega
  have h2 : (y + 400) % 100 = y % 100 := by omega
  have h3 : (y + 400) % 400 = y % 400 := by omega
  rw [h1, h2, h3]
theorem mlen_era (y m : Int) : mlen (y + 400) m = mlen y m := by unfold mlen; rw [LB_era]
theorem mcum_era (y m : Int) : mcum (y + 400) m = mcum y m := by unfold mcum; rw [LB_era]
theorem era (n : Int) (h1 : -719162 ≤ n) (h2 : n ≤ 2932896 - 146097) : dY (n + 146097) = dY n + 400 ∧ dM (n + 146097) = dM n ∧ dD (n + 146097) = dD n := by
  have h := dt_spec n h1 (by omega)
  have k := dt_spec (n + 146097) (by omega) (by omega)
  have hy := h.year
  have ky := k.year
  apply dt_unique
  obtain ⟨a1, a2, a3, a4, a5, a6, a7⟩ := h
  refine ⟨by omega, ?_, a3, a4, a5, by rw [mlen_era]; exact a6, by rw [ybeg_era, mcum_era]; omega⟩
  have h10000 : ybeg 10000 = 2932897 := by decide
  rcases Int.lt_or_le (dY n) 9600 with g | g
  · omega
  · exfalso
    have e := ybeg_era (dY n)
    have := ybeg_mono 10000 (dY n + 400) (by omega) (by omega)
    omega
def wday (n : Int) : Int := (n + 719162) % 7 + 1
end Go.Proofs.YtplhnlcheamfbaaFmt.Plain
