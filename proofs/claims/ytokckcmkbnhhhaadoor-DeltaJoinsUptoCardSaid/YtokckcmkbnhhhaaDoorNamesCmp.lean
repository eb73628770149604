/- The walks of the order of names: cmp.Compare, slices.Compare, names.Less, lumkeep's less and beneath. -/
import Derived.Test.YtokckcmkbnhhhaaDoorNamesW2
namespace Go.Proofs.YtokckcmkbnhhhaaDoor
open Go.RowKit Plain
open Lib (compareBytes)
theorem bytesLess_cb : ∀ a b : T, Op.bytesLess a b = decide (compareBytes a b < 0)
  | [], [] => by simp [Op.bytesLess, compareBytes]
  | [], _ :: _ => by simp [Op.bytesLess, compareBytes]
  | _ :: _, [] => by simp [Op.bytesLess, compareBytes]
  | x :: a, y :: b => by
    have ih := bytesLess_cb a b
    rw [compareBytes]
    rcases u8_tri x y with h | rfl | h
    · rw [if_pos h]
      simp [Op.bytesLess, h]
    · simp only [u8_irrefl, if_false]
      rw [← ih]
      simp [Op.bytesLess]
    · rw [if_neg (u8_asymm h), if_pos h]
      have hne : x ≠ y := fun e => u8_irrefl y (by rw [e] at h; exact h)
      simp [Op.bytesLess, u8_asymm h, hne]
theorem cb_sign : ∀ a b : T, compareBytes a b = -1 ∨ compareBytes a b = 0 ∨ compareBytes a b = 1
  | [], [] => by simp [compareBytes]
  | [], _ :: _ => by simp [compareBytes]
  | _ :: _, [] => by simp [compareBytes]
  | x :: a, y :: b => by
    have ih := cb_sign a b
    rw [compareBytes]
    split
    · simp
    · split
      · simp
      · exact ih
set_option maxRecDepth 100000 in
theorem isnan_any (s : ByteArray) (w : World) : Calls Tryd.prog 100 #[.string s] w fun e w' => e = .returned (.bool false) ∧ w = w' := by
  have f1 : (s.toList != s.toList) = false := by simp
  go_enter Tryd.func100, Tryd.ntmps100
  go_wp2_with fail
  go_ret
  exact ⟨rfl, rfl⟩
set_option maxRecDepth 100000 in
theorem cmpS_any (a b : ByteArray) (w : World) : Calls Tryd.prog 86 #[.string a, .string b] w fun e w' => e = .returned (.int .i64 (compareBytes (bT a) (bT b))) ∧ w = w' := by
  have h1 : Op.bytesLess a.toList b.toList = decide (compareBytes (bT a) (bT b) < 0) := by rw [Lib.toList_data, Lib.toList_data]; exact bytesLess_cb _ _
  have h2 : Op.bytesLess b.toList a.toList = decide (0 < compareBytes (bT a) (bT b)) := by
    rw [Lib.toList_data, Lib.toList_data]
    refine (bytesLess_cb _ _).trans ?_
    show decide (compareBytes (bT b) (bT a) < 0) = _
    rw [cb_neg (bT a), decide_eq_decide]; omega
  have HN := Lib.hid isnan_any
  have hsg := cb_sign (bT a) (bT b)
  have hz : compareBytes (bT a) (bT b) = 0 ↔ a = b := (cb_zero _ _).trans ⟨fun e => bT_inj e, fun e => by rw [e]⟩
  generalize compareBytes (bT a) (bT b) = c at *
  rcases hsg with rfl | rfl | rfl
  · have g1 : Op.bytesLess a.toList b.toList = true := by rw [h1]; rfl
    clear h1 h2 hz
    go_enter Tryd.func86, Tryd.ntmps86
    go_wp2_with (go_at_call 100; refine (HN.out _ _).mono ?_; rintro e w' ⟨rfl, rfl⟩)
    go_ret
    exact ⟨rfl, rfl⟩
  · have g1 : Op.bytesLess a.toList b.toList = false := by rw [h1]; rfl
    have g2 : Op.bytesLess b.toList a.toList = false := by rw [h2]; rfl
    have g3 : (a.toList == b.toList) = true := same_strB (hz.1 rfl)
    clear h1 h2 g2 hz
    go_enter Tryd.func86, Tryd.ntmps86
    go_wp2_with (go_at_call 100; refine (HN.out _ _).mono ?_; rintro e w' ⟨rfl, rfl⟩)
    go_ret
    exact ⟨rfl, rfl⟩
  · have g1 : Op.bytesLess a.toList b.toList = false := by rw [h1]; rfl
    have g2 : Op.bytesLess b.toList a.toList = true := by rw [h2]; rfl
    have g3 : (a.toList == b.toList) = false := other_strB (fun e => by have := hz.2 e; omega)
    clear h1 h2 g2 hz
    go_enter Tryd.func86, Tryd.ntmps86
    go_wp2_with (go_at_call 100; refine (HN.out _ _).mono ?_; rintro e w' ⟨rfl, rfl⟩)
    go_ret
    exact ⟨rfl, rfl⟩
set_option maxRecDepth 100000 in
theorem compareL_any (a b : Option Addr) (ca cb : Nat) (x y : List ByteArray) (w : World) (hx : SAt 1 sC w a x) (hy : SAt 1 sC w b y) (nx : x.length ≤ 9223372036854775807) (ny : y.length ≤ 9223372036854775807) :
    Calls Tryd.prog 68 #[.slice a x.length ca, .slice b y.length cb] w fun e w' => e = .returned (.int .i64 (cmpL (tl x) (tl y))) ∧ w = w' := by
  have HX := Lib.hid hx
  have HY := Lib.hid hy
  have HC := Lib.hid cmpS_any
  clear hx hy
  go_enter Tryd.func68, Tryd.ntmps68
  go_wp2_with fail
  go_loopw [11] (fun iv wr => ∃ i : Nat, i ≤ x.length ∧ i ≤ y.length ∧ iv = .int .i64 (i : Int) ∧ wr = w ∧ Hid (cmpL (tl (x.drop i)) (tl (y.drop i)) = cmpL (tl x) (tl y))) (fun iv _ => x.length - (intOf iv).toNat)
  case atStart => exact ⟨0, by omega, by omega, rfl, rfl, Lib.hid rfl⟩
  case round =>
    obtain ⟨i, hi, hiy, rfl, rfl, HR⟩ := hrel
    by_cases hlt : i < x.length
    · have m1 : (i : Int) < (x.length : Int) := by omega
      obtain ⟨g, off, rfl, hr⟩ := str_cell HX.out i hlt
      have HD : Hid (cmpL (bT x[i] :: tl (x.drop (i + 1))) (tl (y.drop i)) = cmpL (tl x) (tl y)) := by
        have := HR.out
        rw [List.drop_eq_getElem_cons hlt] at this
        exact this
      clear HR
      generalize x[i] = s at *
      by_cases hly : i < y.length
      · have m2 : ¬ (y.length : Int) ≤ (i : Int) := by omega
        have m3 : (i : Int) < (y.length : Int) := by omega
        obtain ⟨g', off', rfl, hr'⟩ := str_cell HY.out i hly
        have HD2 : Hid (cmpL (bT s :: tl (x.drop (i + 1))) (bT y[i] :: tl (y.drop (i + 1))) = cmpL (tl x) (tl y)) := by
          have := HD.out
          rw [List.drop_eq_getElem_cons hly] at this
          exact this
        clear HD
        generalize y[i] = t at *
        rw [cmpL] at HD2
        go_wp2_with fail
        refine (HC.out s t wr).mono ?_
        rintro e w' ⟨rfl, rfl⟩
        clear hr hr'
        generalize compareBytes (bT s) (bT t) = c at *
        by_cases hc : c = 0
        · have f1 : (c != 0) = false := by simp [hc]
          have HN : Hid (cmpL (tl (x.drop (i + 1))) (tl (y.drop (i + 1))) = cmpL (tl x) (tl y)) := by
            have := HD2.out
            rwa [if_neg (by simp [hc])] at this
          clear HD2 hc
          go_wp2_with fail
          go_roundw
          case rel => exact ⟨i + 1, by omega, by omega, by go_num, trivial, HN⟩
          case measure => simp [intOf]; omega
        · have f1 : (c != 0) = true := by simpa using hc
          have HN : Hid (cmpL (tl x) (tl y) = c) := by
            have := HD2.out
            rw [if_pos hc] at this
            exact this.symm
          clear HD2 hc
          go_wp2_with fail
          go_ret
          exact ⟨by rw [HN.out]; rfl, rfl⟩
      · have m2 : (y.length : Int) ≤ (i : Int) := by omega
        have HN : Hid (cmpL (tl x) (tl y) = 1) := by
          have := HD.out
          rw [List.drop_eq_nil_of_le (by omega : y.length ≤ i)] at this
          exact this.symm
        clear HD
        go_wp2_with fail
        go_ret
        exact ⟨by rw [HN.out]; rfl, rfl⟩
    · have m1 : ¬ (i : Int) < (x.length : Int) := by omega
      have HD : Hid (cmpL [] (tl (y.drop i)) = cmpL (tl x) (tl y)) := by
        have := HR.out
        rw [List.drop_eq_nil_of_le (by omega : x.length ≤ i)] at this
        exact this
      by_cases hly : i < y.length
      · have m3 : (x.length : Int) < (y.length : Int) := by omega
        have HN : Hid (cmpL (tl x) (tl y) = -1) := by
          have := HD.out
          rw [List.drop_eq_getElem_cons hly] at this
          exact this.symm
        clear HD HR
        go_wp2_with fail
        go_ret
        exact ⟨by rw [HN.out]; rfl, rfl⟩
      · have m3 : ¬ (x.length : Int) < (y.length : Int) := by omega
        have HN : Hid (cmpL (tl x) (tl y) = 0) := by
          have := HD.out
          rw [List.drop_eq_nil_of_le (by omega : y.length ≤ i)] at this
          exact this.symm
        clear HD HR
        go_wp2_with fail
        go_ret
        exact ⟨by rw [HN.out]; rfl, rfl⟩
set_option maxRecDepth 100000 in
theorem nless_any (a b : ByteArray) (m : Int) (w : World) (ha : a.size < 4294967281) (hb : b.size < 4294967281) (hm : MaxL m w) (hT : Tabs w) :
    Calls Tryd.prog 45 #[.string a, .string b] w fun e w' => Below w.heap.size w w' ∧ ∃ (r : Bool) (c : Int), e = .returned (.tuple #[.bool r, .int .i64 c]) ∧ (r && decide (c = 0)) = lessP ck (bT a) (bT b) := by
  have HSP := Lib.hid split_any
  have HC := Lib.hid compareL_any
  have HM := Lib.hid hm
  have HT := Lib.hid hT
  have HL : Hid (lessP ck (bT a) (bT b) = (decide ((splP ck (bT a)).2 = 0) && decide ((splP ck (bT b)).2 = 0) && decide (cmpL (splP ck (bT a)).1 (splP ck (bT b)).1 < 0))) := rfl
  clear hm hT
  go_enter Tryd.func45, Tryd.ntmps45
  go_wp2_with fail
  refine (HSP.out a m w ha HM.out HT.out).mono ?_
  rintro e w1 ⟨hb1, hr⟩
  have HB1 := Lib.hid hb1
  clear hb1
  rcases hr with ⟨hok, a1, c1, L1, rfl, hs1, htl1, _, h81, _⟩ | ⟨hno, rfl⟩
  · have HO1 := Lib.hid hok
    have HS1 := Lib.hid hs1
    have HT1 := Lib.hid htl1
    clear hok hs1 htl1
    go_wp2_with fail
    refine (HSP.out b m w1 hb (HM.out.below HB1.out) (HT.out.below HB1.out)).mono ?_
    rintro e w2 ⟨hb2, hr⟩
    have HB2 := Lib.hid (Below.step HB1.out hb2)
    have HS2 := Lib.hid (HS1.out.below hb2)
    clear hb2
    rcases hr with ⟨hok, a2, c2, L2, rfl, hs2, htl2, _, h82, _⟩ | ⟨hno, rfl⟩
    · have HQ : Hid (lessP ck (bT a) (bT b) = decide (cmpL (tl L1) (tl L2) < 0)) := by
        show _ = _; rw [HL.out, HO1.out, hok, HT1.out, htl2]; simp
      have HS3 := Lib.hid hs2
      clear hok hs2 htl2
      go_wp2_with fail
      refine (HC.out a1 a2 c1 c2 L1 L2 w2 HS2.out HS3.out (by omega) (by omega)).mono ?_
      rintro e w3 ⟨rfl, rfl⟩
      generalize cmpL (tl L1) (tl L2) = c at *
      go_wp2_with fail
      go_ret2
      exact ⟨HB2.out, _, _, rfl, by rw [HQ.out]; simp⟩
    · have f1 : ((splP ck (bT b)).2 != 0) = true := by simpa using hno
      have HQ : Hid (lessP ck (bT a) (bT b) = false) := by
        show _ = _; rw [HL.out]; simp [hno]
      generalize (splP ck (bT b)).2 = c at *
      clear hno
      go_wp2_with fail
      go_ret2
      exact ⟨HB2.out, _, _, rfl, by rw [HQ.out]; rfl⟩
  · have f1 : ((splP ck (bT a)).2 != 0) = true := by simpa using hno
    have HQ : Hid (lessP ck (bT a) (bT b) = false) := by
      show _ = _; rw [HL.out]; simp [hno]
    generalize (splP ck (bT a)).2 = c at *
    clear hno
    go_wp2_with fail
    go_ret2
    exact ⟨HB1.out, _, _, rfl, by rw [HQ.out]; rfl⟩
set_option maxRecDepth 100000 in
theorem less_any (a b : ByteArray) (m : Int) (w : World) (ha : a.size < 4294967281) (hb : b.size < 4294967281) (hm : MaxL m w) (hT : Tabs w) :
    Calls Tryd.prog 21 #[.string a, .string b] w fun e w' => e = .returned (.bool (lessP ck (bT a) (bT b))) ∧ Below w.heap.size w w' := by
  have HN := Lib.hid (nless_any a b m w ha hb hm hT)
  clear hm hT
  generalize lessP ck (bT a) (bT b) = q at *
  go_enter Tryd.func21, Tryd.ntmps21
  go_wp2_with fail
  refine HN.out.mono ?_
  rintro e w1 ⟨hb1, r, c, rfl, hq⟩
  have HB1 := Lib.hid hb1
  have HQ := Lib.hid hq
  clear hb1 HN hq
  cases r
  · go_wp2_with fail
    go_ret
    exact ⟨by rw [← HQ.out]; rfl, HB1.out⟩
  · by_cases hc : c = 0
    · have f1 : (c == 0) = true := by simp [hc]
      have HQ2 : Hid (true = q) := by have := HQ.out; rw [decide_eq_true hc] at this; exact this
      clear hc HQ
      go_wp2_with fail
      go_ret
      exact ⟨by rw [← HQ2.out]; rfl, HB1.out⟩
    · have f1 : (c == 0) = false := by simpa using hc
      have HQ2 : Hid (false = q) := by have := HQ.out; rw [decide_eq_false hc] at this; exact this
      clear hc HQ
      go_wp2_with fail
      go_ret
      exact ⟨by rw [← HQ2.out]; rfl, HB1.out⟩
theorem slash_list : (⟨#[47]⟩ : ByteArray).toList = [47] := by rw [Lib.toList_data]
set_option maxRecDepth 100000 in
theorem beneath_any (p d : ByteArray) (w : World) (hd : d.size < 4294967281) :
    Calls Tryd.prog 23 #[.string p, .string d] w fun e w' => e = .returned (.bool (benP (bT p) (bT d))) ∧ w' = w := by
  have HH := Lib.hid (Tryd.strings_HasPrefix p (d ++ ⟨#[47]⟩) w)
  have HE : Hid (benP (bT p) (bT d) = (decide (bT p = bT d) || decide (bT d = [47]) || (bT d ++ [47]).isPrefixOf (bT p))) := rfl
  have h63 : d.size + (⟨#[47]⟩ : ByteArray).size ≤ 9223372036854775807 := by show d.size + 1 ≤ _; omega
  by_cases h1 : p = d
  · have f1 : (p.toList == d.toList) = true := same_strB h1
    have HQ : Hid (benP (bT p) (bT d) = true) := by show _ = _; rw [HE.out, h1]; simp
    clear h1 HH
    go_enter Tryd.func23, Tryd.ntmps23
    go_wp2_with fail
    go_ret
    exact ⟨by rw [HQ.out]; rfl, rfl⟩
  · have f1 : (p.toList == d.toList) = false := other_strB h1
    by_cases h2 : d = ⟨#[47]⟩
    · have f2 : (d.toList == [47]) = true := slash_list ▸ same_strB h2
      have HQ : Hid (benP (bT p) (bT d) = true) := by
        have e : bT d = [47] := by rw [h2]
        show _ = _; rw [HE.out, e]; simp
      clear h1 h2 HH
      go_enter Tryd.func23, Tryd.ntmps23
      go_wp2_with fail
      go_ret
      exact ⟨by rw [HQ.out]; rfl, rfl⟩
    · have f2 : (d.toList == [47]) = false := slash_list ▸ other_strB h2
      have HQ : Hid (benP (bT p) (bT d) = (bT d ++ [47]).isPrefixOf (bT p)) := by
        have e1 : bT p ≠ bT d := fun e => h1 (bT_inj e)
        have e2 : bT d ≠ [47] := fun e => h2 (bT_inj e)
        show _ = _; rw [HE.out]; simp [e1, e2]
      have HX : Hid (Lib.hasPrefix p.data.toList (d ++ (⟨#[47]⟩ : ByteArray)).data.toList = (bT d ++ [47]).isPrefixOf (bT p)) := by
        have e : (d ++ (⟨#[47]⟩ : ByteArray)).data.toList = bT d ++ [47] := by simp [bT]
        show _ = _; rw [e]; rfl
      rw [HX.out] at HH
      clear h1 h2 HX
      generalize (bT d ++ [47]).isPrefixOf (bT p) = q at *
      go_enter Tryd.func23, Tryd.ntmps23
      go_wp2_with fail
      refine HH.out.mono ?_
      rintro e w1 ⟨rfl, rfl⟩
      go_wp2_with fail
      go_ret
      exact ⟨by rw [HQ.out]; rfl, rfl⟩
end Go.Proofs.YtokckcmkbnhhhaaDoor
