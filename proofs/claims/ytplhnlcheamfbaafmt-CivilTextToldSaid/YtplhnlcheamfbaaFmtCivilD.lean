/- The walks of package civil that search: date, Date, Weekday, Week, Days. -/
import Derived.Test.YtplhnlcheamfbaaFmtCivilW
namespace Go.Proofs.YtplhnlcheamfbaaFmt
open Go.RowKit Plain
theorem upY_go (f : Nat) (y n : Int) (hf : 9999 - y ≤ f) (h1 : y < 9999) (h2 : ybeg (y + 1) ≤ n) : ∃ g : Nat, 9999 - (y + 1) ≤ g ∧ upY f y n = upY g (y + 1) n := by
  cases f with
  | zero => omega
  | succ f => exact ⟨f, by omega, by rw [upY, if_pos ⟨h1, h2⟩]⟩
theorem upY_end (f : Nat) (y n : Int) (h : ¬ (y < 9999 ∧ ybeg (y + 1) ≤ n)) : upY f y n = y := by
  cases f with
  | zero => rfl
  | succ f => rw [upY, if_neg h]
theorem upM_go (f : Nat) (y m d : Int) (hf : 12 - m ≤ f) (h1 : m < 12) (h2 : mlen y m < d) : ∃ g : Nat, 12 - (m + 1) ≤ g ∧ upM f y m d = upM g y (m + 1) (d - mlen y m) := by
  cases f with
  | zero => omega
  | succ f => exact ⟨f, by omega, by rw [upM, if_pos h2]⟩
theorem upM_end (f : Nat) (y m d : Int) (h : ¬ mlen y m < d) : upM f y m d = (m, d) := by
  cases f with
  | zero => rfl
  | succ f => rw [upM, if_neg h]
set_option maxRecDepth 100000 in
set_option maxHeartbeats 1000000 in
theorem date_any (n : Int) (w : World) (h0 : -719162 ≤ n) (h1 : n ≤ 2932896) :
    Calls Tryf.prog 7 #[.int .i64 n] w fun e w' => e = .returned (.tuple #[.int .i64 (dY n), .int .i64 (dM n), .int .i64 (dD n)]) ∧ w = w' := by
  have ⟨a1, a2, a3⟩ := y0_bd n h0 h1
  have HY : Hid (upY 10000 (y0 n) n = dY n) := rfl
  have hy0 : y0 n = (n + 719162) / 366 + 1 := rfl
  rw [hy0] at a1 a2 a3 HY
  clear hy0
  go_enter Tryf.func7, Tryf.ntmps7
  go_wp2
  go_loop [2] (fun t => ∃ (y : Int) (f : Nat), 1 ≤ y ∧ y ≤ 9999 ∧ ybeg y ≤ n ∧ 9999 - y ≤ f ∧ upY f y n = dY n ∧ t = .int .i64 y) (fun t => (9999 - intOf t).toNat)
  case atStart => exact ⟨_, 10000, by omega, by omega, a3, by omega, HY.out, by first | rfl | go_num⟩
  case round =>
    obtain ⟨y, f, hy1, hy2, hb, hf, he, rfl⟩ := hrel
    have hbd := ybeg_bd y hy1 (by omega)
    have hbd2 := ybeg_bd (y + 1) (by omega) (by omega)
    by_cases hc : y < 9999 ∧ ybeg (y + 1) ≤ n
    · obtain ⟨g, hg, hge⟩ := upY_go f y n hf hc.1 hc.2
      rw [he] at hge
      have HG := Lib.hid hge
      obtain ⟨c1, c2⟩ := hc
      clear hge he
      go_wp2_with (go_at_call 11; refine (begin_any _ _ (by omega) (by omega)).mono ?_; rintro e w' ⟨rfl, rfl⟩)
      go_round
      case rel => exact ⟨y + 1, g, by omega, by omega, c2, hg, HG.out.symm, by go_num⟩
      case measure => simp [intOf]; omega
    · rw [upY_end f y n hc] at he
      have hlast : n < ybeg (y + 1) := by
        by_cases e : y = 9999
        · subst e
          have : ybeg 10000 = 2932897 := by decide
          show n < ybeg 10000
          omega
        · omega
      have hsucc := ybeg_succ y hy1
      have hLB := LB_01 y
      have HM : Hid (upM 12 (dY n) 1 (n - ybeg (dY n) + 1) = dMD n) := rfl
      rw [← he] at HM
      have hm1 := mcum_1 y
      have HE := Lib.hid he
      clear he a1 a2 a3 HY
      by_cases hlt : y < 9999
      all_goals
        go_wp2_with (go_at_call 11; refine (begin_any _ _ (by omega) (by omega)).mono ?_; rintro e w' ⟨rfl, rfl⟩)
        clear hc
        go_loop [3, 4] (fun s t => ∃ (m d : Int) (f : Nat), 1 ≤ m ∧ m ≤ 12 ∧ 1 ≤ d ∧ mcum y m + d ≤ 365 + LB y ∧ 12 - m ≤ f ∧ upM f y m d = dMD n ∧ s = .int .i64 m ∧ t = .int .i64 d) (fun s _ => (12 - intOf s).toNat)
        case atStart => exact ⟨1, n - ybeg y + 1, 12, by omega, by omega, by omega, by omega, by omega, HM.out, rfl, by first | rfl | go_num⟩
        case round =>
          obtain ⟨m, d, f, hm1, hm2, hd1, hmd, hf, hg, rfl, rfl⟩ := hrel
          have hl := mlen_bd y m
          have hs := mcum_succ y m hm1 hm2
          have hcb := mcum_bd y m hm1 hm2
          by_cases hc : mlen y m < d
          · have hm3 : m < 12 := by
              by_cases e : m = 12
              · subst e
                have := mcum_13 y
                rw [show (12 : Int) + 1 = 13 from rfl] at hs
                omega
              · omega
            obtain ⟨g, hgf, hgg⟩ := upM_go f y m d hf hm3 hc
            rw [hg] at hgg
            have HG := Lib.hid hgg
            have HS := Lib.hid hs
            clear hg hgg hs
            go_wp2_with (go_at_call 12; refine (length_any _ _ _ (by omega) (by omega) (by omega) (by omega)).mono ?_; rintro e w' ⟨rfl, rfl⟩)
            go_round
            case rel => exact ⟨m + 1, d - mlen y m, g, by omega, by omega, by omega, by rw [HS.out]; omega, hgf, HG.out.symm, by go_num, by go_num⟩
            case measure => simp [intOf]; omega
          · rw [upM_end f y m d hc] at hg
            have hM : dM n = m := by unfold dM; rw [← hg]
            have hD : dD n = d := by unfold dD; rw [← hg]
            have HMM := Lib.hid hM
            have HDD := Lib.hid hD
            clear hg hM hD hs
            go_wp2_with (go_at_call 12; refine (length_any _ _ _ (by omega) (by omega) (by omega) (by omega)).mono ?_; rintro e w' ⟨rfl, rfl⟩)
            go_ret3
            exact ⟨by rw [← HE.out, HMM.out, HDD.out]; rfl, rfl⟩
/-- the values of Date -/
def dateV (n : Int) : Value := .tuple #[.int .i64 (dY n), .int .i64 (dM n), .int .i64 (dD n), .int .i64 0]
theorem results_tmp4 {fn : Func} {t u v x : Tmp} (h : fn.results = #[.tmp t, .tmp u, .tmp v, .tmp x]) (tmps : Array Value) (P : Program) (w : World) :
    (results fn tmps).run P w = .ok (.tuple #[tmps.getD t undef, tmps.getD u undef, tmps.getD v undef, tmps.getD x undef]) w := by simp [results, h]
theorem wday_bd (n : Int) : 1 ≤ wday n ∧ wday n ≤ 7 := by unfold wday; omega
theorem thu_bd (n : Int) (h0 : -719162 ≤ n) (h1 : n ≤ 2932896) : -719162 ≤ n + (4 - wday n) ∧ n + (4 - wday n) ≤ 2932896 := by unfold wday; omega
/-- y, m, d is a date -/
def Good (y m d : Int) : Prop := 1 ≤ y ∧ y ≤ 9999 ∧ 1 ≤ m ∧ m ≤ 12 ∧ 1 ≤ d ∧ d ≤ mlen y m
def dnum (y m d : Int) : Int := ybeg y + mcum y m + d - 1
set_option maxRecDepth 100000 in
set_option maxHeartbeats 1000000 in
theorem Days_in (y m d : Int) (w : World) (hy1 : 1 ≤ y) (hy2 : y ≤ 9999) (hm1 : 1 ≤ m) (hm2 : m ≤ 12) (hd1 : 1 ≤ d) (hd2 : d ≤ mlen y m) :
    Calls Tryf.prog 10 #[.int .i64 y, .int .i64 m, .int .i64 d] w fun e w' => e = .returned (.tuple #[.int .i64 (dnum y m d), .int .i64 0]) ∧ w = w' := by
  have hl := mlen_bd y m
  have hb := ybeg_bd y hy1 (by omega)
  have hLB := LB_01 y
  go_enter Tryf.func10, Tryf.ntmps10
  go_wp2_with (first | (go_at_call 12; refine (length_any _ _ _ (by omega) (by omega) (by omega) (by omega)).mono ?_; rintro e w' ⟨rfl, rfl⟩) | (go_at_call 11; refine (begin_any _ _ (by omega) (by omega)).mono ?_; rintro e w' ⟨rfl, rfl⟩))
  go_loop [8, 9] (fun s t => ∃ k : Int, 1 ≤ k ∧ k ≤ m ∧ s = .int .i64 (ybeg y + mcum y k + d - 1) ∧ t = .int .i64 k) (fun _ t => (m - intOf t).toNat)
  case atStart => exact ⟨1, by omega, by omega, by rw [mcum_1]; go_num, rfl⟩
  case round =>
    obtain ⟨k, hk1, hk2, rfl, rfl⟩ := hrel
    have hs := mcum_succ y k (by omega) (by omega)
    have hcb := mcum_bd y k (by omega) (by omega)
    have hlk := mlen_bd y k
    have HS := Lib.hid hs
    clear hs
    by_cases hlt : k < m
    · go_wp2_with (go_at_call 12; refine (length_any _ _ _ (by omega) (by omega) (by omega) (by omega)).mono ?_; rintro e w' ⟨rfl, rfl⟩)
      go_round
      case rel => exact ⟨k + 1, by omega, by omega, by rw [HS.out]; go_num, by go_num⟩
      case measure => simp [intOf]; omega
    · obtain rfl : k = m := by omega
      go_wp2
      go_ret2
      exact ⟨rfl, rfl⟩
set_option maxRecDepth 100000 in
set_option maxHeartbeats 1000000 in
theorem Days_out (y m d : Int) (w : World) (h : ¬ Good y m d) :
    Calls Tryf.prog 10 #[.int .i64 y, .int .i64 m, .int .i64 d] w fun e w' => e = .returned (.tuple #[.int .i64 0, .int .i64 1]) ∧ w = w' := by
  unfold Good at h
  by_cases c1 : y < 1
  · clear h
    go_enter Tryf.func10, Tryf.ntmps10
    go_wp2
    go_ret2
    exact ⟨rfl, rfl⟩
  by_cases c2 : 9999 < y
  · clear h
    go_enter Tryf.func10, Tryf.ntmps10
    go_wp2
    go_ret2
    exact ⟨rfl, rfl⟩
  by_cases c3 : m < 1
  · clear h
    go_enter Tryf.func10, Tryf.ntmps10
    go_wp2
    go_ret2
    exact ⟨rfl, rfl⟩
  by_cases c4 : 12 < m
  · clear h
    go_enter Tryf.func10, Tryf.ntmps10
    go_wp2
    go_ret2
    exact ⟨rfl, rfl⟩
  by_cases c5 : d < 1
  · clear h
    go_enter Tryf.func10, Tryf.ntmps10
    go_wp2
    go_ret2
    exact ⟨rfl, rfl⟩
  have c6 : mlen y m < d := by omega
  have hl := mlen_bd y m
  clear h
  go_enter Tryf.func10, Tryf.ntmps10
  go_wp2_with (go_at_call 12; refine (length_any _ _ _ (by omega) (by omega) (by omega) (by omega)).mono ?_; rintro e w' ⟨rfl, rfl⟩)
  go_ret2
  exact ⟨rfl, rfl⟩
end Go.Proofs.YtplhnlcheamfbaaFmt
