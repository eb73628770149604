/- The walks of the order of names: cmp.Compare, slices.Compare, names.Less, lumkeep's less and beneath. -/
import Derived.Test.YtmdodcpmbhehdaaDoorNamesW2
namespace Go.Proofs.YtmdodcpmbhehdaaDoor
open Go.RowKit Plain
open Lib (compareBytes)
theorem bytesLess_cb : ∀ a b : T, Op.bytesLess a b = decide (compareBytes a b < 0)
  | [], [] => by simp [Op.bytesLess, compareBytes]
  | [], _ :: _ => by simp [Op.bytesLess, compareBytes]
  | _ :: _, [] => by simp [Op.bytesLess, compareBytes]
  | x :: a, y :: b => by
    have ih := bytesLess_cb a b
    rw [compareBytes]
    rcases u8_tri x y with h | rfl | h
    · rw [if_pos h]
      simp [Op.bytesLess, h]
    · simp only [u8_irrefl, if_false]
      rw [← ih]
      simp [Op.bytesLess]
    · rw [if_neg (u8_asymm h), if_pos h]
      have hne : x ≠ y := fun e => u8_irrefl y (by rw [e] at h; exact h)
      simp [Op.bytesLess, u8_asymm h, hne]
theorem cb_sign : ∀ a b : T, compareBytes a b = -1 ∨ compareBytes a b = 0 ∨ compareBytes a b = 1
  | [], [] => by simp [compareBytes]
  | [], _ :: _ => by simp [compareBytes]
  | _ :: _, [] => by simp [compareBytes]
  | x :: a, y :: b => by
    have ih := cb_sign a b
    rw [compareBytes]
    split
    · simp
    · split
      · simp
      · exact ih
set_option maxRecDepth 100000 in
theorem isnan_any (s : ByteArray) (w : World) : Calls Tryd.prog 117 #[.string s] w fun e w' => e = .returned (.bool false) ∧ w = w' := by
  have f1 : (s.toList != s.toList) = false := by simp
  go_enter Tryd.func117, Tryd.ntmps117
  go_wp2_with fail
  go_ret
  exact ⟨rfl, rfl⟩
set_option maxRecDepth 100000 in
theorem cmpS_any (a b : ByteArray) (w : World) : Calls Tryd.prog 108 #[.string a, .string b] w fun e w' => e = .returned (.int .i64 (compareBytes (bT a) (bT b))) ∧ w = w' := by
  have h1 : Op.bytesLess a.toList b.toList = decide (compareBytes (bT a) (bT b) < 0) := by rw [Lib.toList_data, Lib.toList_data]; exact bytesLess_cb _ _
  have h2 : Op.bytesLess b.toList a.toList = decide (0 < compareBytes (bT a) (bT b)) := by
    rw [Lib.toList_data, Lib.toList_data]
    refine (bytesLess_cb _ _).trans ?_
    show decide (compareBytes (bT b) (bT a) < 0) = _
    rw [cb_neg (bT a), decide_eq_decide]; omega
  have HN := Lib.hid isnan_any
  have hsg := cb_sign (bT a) (bT b)
  have hz : compareBytes (bT a) (bT b) = 0 ↔ a = b := (cb_zero _ _).trans ⟨fun e => bT_inj e, fun e => by rw [e]⟩
  generalize compareBytes (bT a) (bT b) = c at *
  rcases hsg with rfl | rfl | rfl
  · have g1 : Op.bytesLess a.toList b.toList = true := by rw [h1]; rfl
    clear h1 h2 hz
    go_enter Tryd.func108, Tryd.ntmps108
    go_wp2_with (go_at_call 117; refine (HN.out _ _).mono ?_; rintro e w' ⟨rfl, rfl⟩)
    go_ret
    exact ⟨rfl, rfl⟩
  · have g1 : Op.bytesLess a.toList b.toList = false := by rw [h1]; rfl
    have g2 : Op.bytesLess b.toList a.toList = false := by rw [h2]; rfl
    have g3 : (a.toList == b.toList) = true := same_strB (hz.1 rfl)
    clear h1 h2 g2 hz
    go_enter Tryd.func108, Tryd.ntmps108
    go_wp2_with (go_at_call 117; refine (HN.out _ _).mono ?_; rintro e w' ⟨rfl, rfl⟩)
    go_ret
    exact ⟨rfl, rfl⟩
  · have g1 : Op.bytesLess a.toList b.toList = false := by rw [h1]; rfl
    have g2 : Op.bytesLess b.toList a.toList = true := by rw [h2]; rfl
    have g3 : (a.toList == b.toList) = false := other_strB (fun e => by have := hz.2 e; omega)
    clear h1 h2 g2 hz
    go_enter Tryd.func108, Tryd.ntmps108
    go_wp2_with (go_at_call 117; refine (HN.out _ _).mono ?_; rintro e w' ⟨rfl, rfl⟩)
    go_ret
    exact ⟨rfl, rfl⟩
set_option maxRecDepth 100000 in
theorem compareL_any (a b : Option Addr) (ca cb : Nat) (x y : List ByteArray) (w : World) (hx : SAt 1 sC w a x) (hy : SAt 1 sC w b y) (nx : x.length ≤ 9223372036854775807) (ny : y.length ≤ 9223372036854775807) :
    Calls Tryd.prog 95 #[.slice a x.length ca, .slice b y.length cb] w fun e w' => e = .returned (.int .i64 (cmpL (tl x) (tl y))) ∧ w = w' := by
  have HX := Lib.hid hx
  have HY := Lib.hid hy
  have HC := Lib.hid cmpS_any
  clear hx hy
  go_enter Tryd.func95, Tryd.ntmps95
  go_wp2_with fail
  go_loopw [11] (fun iv wr => ∃ i : Nat, i ≤ x.length ∧ i ≤ y.length ∧ iv = .int .i64 (i : Int) ∧ wr = w ∧ Hid (cmpL (tl (x.drop i)) (tl (y.drop i)) = cmpL (tl x) (tl y))) (fun iv _ => x.length - (intOf iv).toNat)
  case atStart => exact ⟨0, by omega, by omega, rfl, rfl, Lib.hid rfl⟩
  case round =>
    obtain ⟨i, hi, hiy, rfl, rfl, HR⟩ := hrel
    by_cases hlt : i < x.length
    · have m1 : (i : Int) < (x.length : Int) := by omega
      obtain ⟨g, off, rfl, hr⟩ := str_cell HX.out i hlt
      have HD : Hid (cmpL (bT x[i] :: tl (x.drop (i + 1))) (tl (y.drop i)) = cmpL (tl x) (tl y)) := by
        have := HR.out
        rw [List.drop_eq_getElem_cons hlt] at this
        exact this
      clear HR
      generalize x[i] = s at *
      by_cases hly : i < y.length
      · have m2 : ¬ (y.length : Int) ≤ (i : Int) := by omega
        have m3 : (i : Int) < (y.length : Int) := by omega
        obtain ⟨g', off', rfl, hr'⟩ := str_cell HY.out i hly
        have HD2 : Hid (cmpL (bT s :: tl (x.drop (i + 1))) (bT y[i] :: tl (y.drop (i + 1))) = cmpL (tl x) (tl y)) := by
          have := HD.out
          rw [List.drop_eq_getElem_cons hly] at this
          exact this
        clear HD
        generalize y[i] = t at *
        rw [cmpL] at HD2
        go_wp2_with fail
        refine (HC.out s t wr).mono ?_
        rintro e w' ⟨rfl, rfl⟩
        clear hr hr'
        generalize compareBytes (bT s) (bT t) = c at *
        by_cases hc : c = 0
        · have f1 : (c != 0) = false := by simp [hc]
          have HN : Hid (cmpL (tl (x.drop (i + 1))) (tl (y.drop (i + 1))) = cmpL (tl x) (tl y)) := by
            have := HD2.out
            rwa [if_neg (by simp [hc])] at this
          clear HD2 hc
          go_wp2_with fail
          go_roundw
          case rel => exact ⟨i + 1, by omega, by omega, by go_num, trivial, HN⟩
          case measure => simp [intOf]; omega
        · have f1 : (c != 0) = true := by simpa using hc
          have HN : Hid (cmpL (tl x) (tl y) = c) := by
            have := HD2.out
            rw [if_pos hc] at this
            exact this.symm
          clear HD2 hc
          go_wp2_with fail
          go_ret
          exact ⟨by rw [HN.out]; rfl, rfl⟩
      · have m2 : (y.length : Int) ≤ (i : Int) := by omega
        have HN : Hid (cmpL (tl x) (tl y) = 1) := by
          have := HD.out
          rw [List.drop_eq_nil_of_le (by omega : y.length ≤ i)] at this
          exact this.symm
        clear HD
        go_wp2_with fail
        go_ret
        exact ⟨by rw [HN.out]; rfl, rfl⟩
    · have m1 : ¬ (i : Int) < (x.length : Int) := by omega
      have HD : Hid (cmpL [] (tl (y.drop i)) = cmpL (tl x) (tl y)) := by
        have := HR.out
        rw [List.drop_eq_nil_of_le (by omega : x.length ≤ i)] at this
        exact this
      by_cases hly : i < y.length
      · have m3 : (x.length : Int) < (y.length : Int) := by omega
        have HN : Hid (cmpL (tl x) (tl y) = -1) := by
          have := HD.out
          rw [List.drop_eq_getElem_cons hly] at this
          exact this.symm
        clear HD HR
        go_wp2_with fail
        go_ret
        exact ⟨by rw [HN.out]; rfl, rfl⟩
      · have m3 : ¬ (x.length : Int) < (y.length : Int) := by omega
        have HN : Hid (cmpL (tl x) (tl y) = 0) := by
          have := HD.out
          rw [List.drop_eq_nil_of_le (by omega : y.length ≤ i)] at this
          exact this.symm
        clear HD HR
        go_wp2_with fail
        go_ret
        exact ⟨by rw [HN.out]; rfl, rfl⟩
theorem slash_list : (⟨#[47]⟩ : ByteArray).toList = [47] := by rw [Lib.toList_data]
end Go.Proofs.YtmdodcpmbhehdaaDoor
