/- The walks of KeepAgain, KeepFew and KeepYears. Printed by wip/gen_keep.py. -/
import Derived.Test.YthfjonicolhjnaaKeepLawsW
namespace Go.Proofs.Ythfjonicolhjnaa
open Go.RowKit Plain

set_option maxRecDepth 100000 in
set_option maxHeartbeats 1000000 in
theorem keepAgain_any (p1 p2 p3 p4 p5 : Int) (sa : Option Addr) (cap : Nat) (l : List Int) (w : World) (hs : SAt 1 iC w sa l) (hl : l.length ≤ 9223372036854775807) :
    Calls Try.prog 11 #[.agg #[.int .i64 p1, .int .i64 p2, .int .i64 p3, .int .i64 p4, .int .i64 p5], .slice sa l.length cap] w fun e w' => e = .returned (.bool true) ∧ Below w.heap.size w w' := by
  have HEI := Lib.hid eqInt_any
  have HSA := Lib.hid hs
  have HPK := Lib.hid pick_any
  have HPO := Lib.hid pick_ok
  have HEB := Lib.hid eqBool_any
  clear hs
  have ⟨b0, r1, r2⟩ := alloc_2 w (.cells #[.int .i64 p1, .int .i64 p2, .int .i64 p3, .int .i64 p4, .int .i64 p5] 48) (.cells #[.int .i64 5, .int .i64 4] 3)
  have HR1 := Lib.hid r1
  have HB0 := Lib.hid b0
  have HR2 := Lib.hid r2
  clear b0 r1 r2
  go_enter Try.func11, Try.ntmps11
  go_wp2_with fail
  generalize (w.alloc (.cells #[.int .i64 p1, .int .i64 p2, .int .i64 p3, .int .i64 p4, .int .i64 p5] 48)).alloc (.cells #[.int .i64 5, .int .i64 4] 3) = wa at *
  refine (HPO.out 0 1 0 0 0 _ 2 [5, 4] [true, false] wa (sat_ints1 HR2.out rfl) (by unfold pOK; decide) (by unfold tOK; decide) pick_g2).mono ?_
  rintro e w1 ⟨hb1, g1, rfl, hs1⟩
  have HB1 := Lib.hid (Below.step HB0.out hb1)
  have HP1 := Lib.hid ((hb1.block _ (lt_of_block HR1.out)).trans HR1.out)
  have HS1 := Lib.hid hs1
  clear hb1 hs1 HB0 HR2 HR1
  have ⟨b2, r2⟩ := alloc_1 w1 (.cells #[.bool true, .bool false] 4)
  have HB2 := Lib.hid (Below.step HB1.out b2)
  have HS2 := Lib.hid (HS1.out.below b2)
  have HN2 := Lib.hid (sat_bools1 (l := [true, false]) r2 rfl)
  have HP2 := Lib.hid ((b2.block _ (lt_of_block HP1.out)).trans HP1.out)
  clear b2 r2 HB1 HS1 HP1
  go_wp2_with fail
  have HC : Hid (Calls Try.prog 24 #[.slice (some ⟨g1, 0, none⟩) 2 2, .slice (some ⟨w1.heap.size, 0, none⟩) 2 2] (w1.alloc (.cells #[.bool true, .bool false] 4)) fun e w' => e = .returned (.bool true) ∧ Below (w1.alloc (.cells #[.bool true, .bool false] 4)).heap.size (w1.alloc (.cells #[.bool true, .bool false] 4)) w') := HEB.out _ _ 2 2 [true, false] [true, false] _ HS2.out HN2.out (by decide) (by decide)
  generalize w1.alloc (.cells #[.bool true, .bool false] 4) = w2 at *
  refine HC.out.mono ?_
  rintro e w3 ⟨rfl, hb3⟩
  have HB3 := Lib.hid (Below.step HB2.out hb3)
  have HP3 := Lib.hid ((hb3.block _ (lt_of_block HP2.out)).trans HP2.out)
  have ⟨x1, x2, x3, x4, x5⟩ := pol_cells HP3.out
  have HSA3 := Lib.hid (HSA.out.below HB3.out)
  clear hb3 HC HB2 HS2 HN2 HP2
  go_wp2_with fail
  refine (HPK.out p1 p2 p3 p4 p5 sa cap l w3 HSA3.out hl).mono ?_
  rintro e w4 ⟨hb4, hres⟩
  have HB4 := Lib.hid (Below.step HB3.out hb4)
  have HP4 := Lib.hid ((hb4.block _ (lt_of_block HP3.out)).trans HP3.out)
  have HSA4 := Lib.hid (HSA3.out.below hb4)
  clear hb4 x1 x2 x3 x4 x5
  rcases hres with ⟨_, c, hc0, rfl⟩ | ⟨hok, g, rfl, hsat⟩
  · have fc : (c != 0) = true := by simpa using hc0
    clear hc0
    go_wp2_with fail
    go_ret
    exact ⟨rfl, HB4.out⟩
  · have HOK := Lib.hid hok
    have h200 := hok.2.1
    have HSP := Lib.hid hsat
    have HTK := Lib.hid (tOK_sub (pk_sub l (pickL ⟨p1, p2, p3, p4, p5⟩ l)) hok.2)
    have HKL := Lib.hid (pk_len l (pickL ⟨p1, p2, p3, p4, p5⟩ l))
    have HKA := Lib.hid (keep_again ⟨p1, p2, p3, p4, p5⟩ l)
    have HPC := Lib.hid (picked_any sa (some ⟨g, 0, none⟩) cap l.length l (pickL ⟨p1, p2, p3, p4, p5⟩ l) w4 HSA4.out hsat (pickL_length _ _) h200)
    rw [pickL_length] at HPC
    clear hok hsat
    generalize pickL ⟨p1, p2, p3, p4, p5⟩ l = b1 at *
    go_wp2_with fail
    refine HPC.out.mono ?_
    rintro e w5 ⟨hb5, a, c, rfl, hsk⟩
    have HB5 := Lib.hid (Below.step HB4.out hb5)
    have HP5 := Lib.hid ((hb5.block _ (lt_of_block HP4.out)).trans HP4.out)
    have HSK := Lib.hid hsk
    have ⟨x1, x2, x3, x4, x5⟩ := pol_cells HP5.out
    clear hb5 hsk HPC
    generalize hkk : pk l b1 = k at *
    have hk200 : k.length ≤ 200 := HTK.out.1
    go_wp2_with fail
    refine (HPO.out p1 p2 p3 p4 p5 a c k _ w5 HSK.out HOK.out.1 HTK.out rfl).mono ?_
    rintro e w6 ⟨hb6, g6, rfl, hs6⟩
    have HB6 := Lib.hid (Below.step HB5.out hb6)
    have HSK6 := Lib.hid (HSK.out.below hb6)
    have HPC := Lib.hid (picked_any a (some ⟨g6, 0, none⟩) c (pickL ⟨p1, p2, p3, p4, p5⟩ k).length k (pickL ⟨p1, p2, p3, p4, p5⟩ k) w6 HSK6.out hs6 (pickL_length _ _) hk200)
    clear hb6 hs6 x1 x2 x3 x4 x5
    generalize pickL ⟨p1, p2, p3, p4, p5⟩ k = b2 at *
    go_wp2_with fail
    refine HPC.out.mono ?_
    rintro e w7 ⟨hb7, a7, c7, rfl, hs7⟩
    have HB7 := Lib.hid (Below.step HB6.out hb7)
    have HSK7 := Lib.hid (HSK6.out.below hb7)
    have HS7 := Lib.hid hs7
    rw [HKA.out] at HS7
    have hkq : pk k b2 = k := HKA.out
    rw [hkq]
    clear hb7 hs7 HPC hkq
    go_wp2_with fail
    refine (HEI.out a7 a c7 c k k w7 HS7.out HSK7.out (by omega) (by omega)).mono ?_
    rintro e w8 ⟨rfl, hb8⟩
    have HB8 := Lib.hid (Below.step HB7.out hb8)
    clear hb8
    have ft : decide (k = k) = true := by simp
    go_wp2_with fail
    go_ret
    exact ⟨by simp, HB8.out⟩

set_option maxRecDepth 100000 in
set_option maxHeartbeats 1000000 in
theorem keepFew_any (p1 p2 p3 p4 p5 : Int) (sa : Option Addr) (cap : Nat) (l : List Int) (w : World) (hs : SAt 1 iC w sa l) (hl : l.length ≤ 9223372036854775807) :
    Calls Try.prog 12 #[.agg #[.int .i64 p1, .int .i64 p2, .int .i64 p3, .int .i64 p4, .int .i64 p5], .slice sa l.length cap] w fun e w' => e = .returned (.bool true) ∧ Below w.heap.size w w' := by
  have HSA := Lib.hid hs
  have HPK := Lib.hid pick_any
  have HPO := Lib.hid pick_ok
  have HEB := Lib.hid eqBool_any
  clear hs
  have ⟨b0, r1, r2⟩ := alloc_2 w (.cells #[.int .i64 p1, .int .i64 p2, .int .i64 p3, .int .i64 p4, .int .i64 p5] 48) (.cells #[.int .i64 5, .int .i64 5] 3)
  have HR1 := Lib.hid r1
  have HB0 := Lib.hid b0
  have HR2 := Lib.hid r2
  clear b0 r1 r2
  go_enter Try.func12, Try.ntmps12
  go_wp2_with fail
  generalize (w.alloc (.cells #[.int .i64 p1, .int .i64 p2, .int .i64 p3, .int .i64 p4, .int .i64 p5] 48)).alloc (.cells #[.int .i64 5, .int .i64 5] 3) = wa at *
  refine (HPO.out 0 0 0 0 1 _ 2 [5, 5] [true, false] wa (sat_ints1 HR2.out rfl) (by unfold pOK; decide) (by unfold tOK; decide) pick_g3).mono ?_
  rintro e w1 ⟨hb1, g1, rfl, hs1⟩
  have HB1 := Lib.hid (Below.step HB0.out hb1)
  have HP1 := Lib.hid ((hb1.block _ (lt_of_block HR1.out)).trans HR1.out)
  have HS1 := Lib.hid hs1
  clear hb1 hs1 HB0 HR2 HR1
  have ⟨b2, r2⟩ := alloc_1 w1 (.cells #[.bool true, .bool false] 4)
  have HB2 := Lib.hid (Below.step HB1.out b2)
  have HS2 := Lib.hid (HS1.out.below b2)
  have HN2 := Lib.hid (sat_bools1 (l := [true, false]) r2 rfl)
  have HP2 := Lib.hid ((b2.block _ (lt_of_block HP1.out)).trans HP1.out)
  clear b2 r2 HB1 HS1 HP1
  go_wp2_with fail
  have HC : Hid (Calls Try.prog 24 #[.slice (some ⟨g1, 0, none⟩) 2 2, .slice (some ⟨w1.heap.size, 0, none⟩) 2 2] (w1.alloc (.cells #[.bool true, .bool false] 4)) fun e w' => e = .returned (.bool true) ∧ Below (w1.alloc (.cells #[.bool true, .bool false] 4)).heap.size (w1.alloc (.cells #[.bool true, .bool false] 4)) w') := HEB.out _ _ 2 2 [true, false] [true, false] _ HS2.out HN2.out (by decide) (by decide)
  generalize w1.alloc (.cells #[.bool true, .bool false] 4) = w2 at *
  refine HC.out.mono ?_
  rintro e w3 ⟨rfl, hb3⟩
  have HB3 := Lib.hid (Below.step HB2.out hb3)
  have HP3 := Lib.hid ((hb3.block _ (lt_of_block HP2.out)).trans HP2.out)
  have ⟨x1, x2, x3, x4, x5⟩ := pol_cells HP3.out
  have HSA3 := Lib.hid (HSA.out.below HB3.out)
  clear hb3 HC HB2 HS2 HN2 HP2
  go_wp2_with fail
  refine (HPK.out p1 p2 p3 p4 p5 sa cap l w3 HSA3.out hl).mono ?_
  rintro e w4 ⟨hb4, hres⟩
  have HB4 := Lib.hid (Below.step HB3.out hb4)
  have HP4 := Lib.hid ((hb4.block _ (lt_of_block HP3.out)).trans HP3.out)
  have HSA4 := Lib.hid (HSA3.out.below hb4)
  clear hb4 x1 x2 x3 x4 x5
  rcases hres with ⟨_, c, hc0, rfl⟩ | ⟨hok, g, rfl, hsat⟩
  · have fc : (c != 0) = true := by simpa using hc0
    clear hc0
    go_wp2_with fail
    go_ret
    exact ⟨rfl, HB4.out⟩
  · have h200 := hok.2.1
    have HSP := Lib.hid hsat
    have HFW := Lib.hid (keep_few ⟨p1, p2, p3, p4, p5⟩ hok.1 l)
    have HKL := Lib.hid (pk_len l (pickL ⟨p1, p2, p3, p4, p5⟩ l))
    have HFI : Hid (∀ h : 0 < l.length, (pickL ⟨p1, p2, p3, p4, p5⟩ l)[0]'(by rw [pickL_length]; exact h) = decide (0 < p1 + p2 + p3 + p4 + p5)) := by
      intro h
      have := keep_first ⟨p1, p2, p3, p4, p5⟩ hok.1 l h
      rw [List.getD_eq_getElem?_getD, List.getElem?_eq_getElem (by rw [pickL_length]; exact h)] at this
      exact this
    have HPC := Lib.hid (picked_any sa (some ⟨g, 0, none⟩) cap l.length l (pickL ⟨p1, p2, p3, p4, p5⟩ l) w4 HSA4.out hsat (pickL_length _ _) h200)
    rw [pickL_length] at HPC
    have ⟨⟨u1, v1⟩, ⟨u2, v2⟩, ⟨u3, v3⟩, ⟨u4, v4⟩, ⟨u5, v5⟩⟩ := hok.1
    simp only at u1 v1 u2 v2 u3 v3 u4 v4 u5 v5
    have i1 : IntKind.i64.wrap (p1 + p2) = p1 + p2 := wraps_i64 _ (by omega) (by omega)
    have i2 : IntKind.i64.wrap (p1 + p2 + p3) = p1 + p2 + p3 := wraps_i64 _ (by omega) (by omega)
    have i3 : IntKind.i64.wrap (p1 + p2 + p3 + p4) = p1 + p2 + p3 + p4 := wraps_i64 _ (by omega) (by omega)
    have i4 : IntKind.i64.wrap (p1 + p2 + p3 + p4 + p5) = p1 + p2 + p3 + p4 + p5 := wraps_i64 _ (by omega) (by omega)
    have ⟨x1, x2, x3, x4, x5⟩ := pol_cells HP4.out
    have HU := Lib.hid hok.1
    clear hok hsat
    go_wp2_with fail
    refine HPC.out.mono ?_
    rintro e w5 ⟨hb5, a, c, rfl, hsk⟩
    have HB5 := Lib.hid (Below.step HB4.out hb5)
    have HSP5 := Lib.hid (HSP.out.below hb5)
    clear hb5 hsk HPC x1 x2 x3 x4 x5 i1 i2 i3 i4 HU u1 v1 u2 v2 u3 v3 u4 v4 u5 v5
    have hle : ((pk l (pickL ⟨p1, p2, p3, p4, p5⟩ l)).length : Int) ≤ p1 + p2 + p3 + p4 + p5 := HFW.out
    generalize (pk l (pickL ⟨p1, p2, p3, p4, p5⟩ l)).length = n at *
    generalize p1 + p2 + p3 + p4 + p5 = S at *
    by_cases hz : l.length = 0
    · have f2 : ((l.length : Int) == 0) = true := by simp [hz]
      clear hz
      go_wp2_with fail
      go_ret
      exact ⟨rfl, HB5.out⟩
    · have f2 : ((l.length : Int) == 0) = false := by simp; intro h; exact hz (by simp [h])
      have hpos : 0 < l.length := by omega
      have m2 : (0 : Int) < (l.length : Int) := by omega
      obtain ⟨_, _, e, _, ha⟩ := HSP5.out.bool 0 (by rw [pickL_length]; exact hpos)
      injection e with e
      injection e with e1 e2 _
      subst e1 e2
      rw [HFI.out hpos] at ha
      have ha : w5.cell? ⟨g, 0, none⟩ = some (.bool (decide (0 < S))) := ha
      have f3 : (decide (0 < S) == decide (0 < S)) = true := by simp
      clear hz
      generalize hSS : decide (0 < S) = bS at *
      by_cases hs0 : 0 < S
      · have : bS = true := by rw [← hSS]; exact decide_eq_true hs0
        subst this
        clear hSS
        go_wp2_with fail
        go_ret
        exact ⟨rfl, HB5.out⟩
      · have : bS = false := by rw [← hSS]; exact decide_eq_false hs0
        subst this
        clear hSS
        go_wp2_with fail
        go_ret
        refine ⟨?_, HB5.out⟩
        show Ending.returned (.bool (!decide (0 < S))) = _
        rw [decide_eq_false (by omega)]
        rfl

set_option maxRecDepth 100000 in
set_option maxHeartbeats 1000000 in
theorem keepYears_any (n : Int) (sa : Option Addr) (cap : Nat) (l : List Int) (w : World) (hs : SAt 1 iC w sa l) (hl : l.length ≤ 9223372036854775807) :
    Calls Try.prog 13 #[.int .i64 n, .slice sa l.length cap] w fun e w' => e = .returned (.bool true) ∧ Below w.heap.size w w' := by
  have HDT := Lib.hid Date_in
  have HSA := Lib.hid hs
  have HPK := Lib.hid pick_any
  have HPO := Lib.hid pick_ok
  have HEB := Lib.hid eqBool_any
  clear hs
  have ⟨b0, r2⟩ := alloc_1 w (.cells #[.int .i64 2097152, .int .i64 5] 3)
  have HB0 := Lib.hid b0
  have HR2 := Lib.hid r2
  clear b0 r2
  go_enter Try.func13, Try.ntmps13
  go_wp2_with fail
  generalize w.alloc (.cells #[.int .i64 2097152, .int .i64 5] 3) = wa at *
  refine (HPO.out 0 0 0 0 2 _ 2 [2097152, 5] [true, true] wa (sat_ints1 HR2.out rfl) (by unfold pOK; decide) (by unfold tOK; decide) pick_g4).mono ?_
  rintro e w1 ⟨hb1, g1, rfl, hs1⟩
  have HB1 := Lib.hid (Below.step HB0.out hb1)
  have HS1 := Lib.hid hs1
  clear hb1 hs1 HB0 HR2
  have ⟨b2, r2⟩ := alloc_1 w1 (.cells #[.bool true, .bool true] 4)
  have HB2 := Lib.hid (Below.step HB1.out b2)
  have HS2 := Lib.hid (HS1.out.below b2)
  have HN2 := Lib.hid (sat_bools1 (l := [true, true]) r2 rfl)
  clear b2 r2 HB1 HS1
  go_wp2_with fail
  have HC : Hid (Calls Try.prog 24 #[.slice (some ⟨g1, 0, none⟩) 2 2, .slice (some ⟨w1.heap.size, 0, none⟩) 2 2] (w1.alloc (.cells #[.bool true, .bool true] 4)) fun e w' => e = .returned (.bool true) ∧ Below (w1.alloc (.cells #[.bool true, .bool true] 4)).heap.size (w1.alloc (.cells #[.bool true, .bool true] 4)) w') := HEB.out _ _ 2 2 [true, true] [true, true] _ HS2.out HN2.out (by decide) (by decide)
  generalize w1.alloc (.cells #[.bool true, .bool true] 4) = w2 at *
  refine HC.out.mono ?_
  rintro e w3 ⟨rfl, hb3⟩
  have HB3 := Lib.hid (Below.step HB2.out hb3)
  have HSA3 := Lib.hid (HSA.out.below HB3.out)
  clear hb3 HC HB2 HS2 HN2
  go_wp2_with fail
  refine (HPK.out 0 0 0 0 n sa cap l w3 HSA3.out hl).mono ?_
  rintro e w4 ⟨hb4, hres⟩
  have HB4 := Lib.hid (Below.step HB3.out hb4)
  have HSA4 := Lib.hid (HSA3.out.below hb4)
  clear hb4
  rcases hres with ⟨_, c, hc0, rfl⟩ | ⟨hok, g, rfl, hsat⟩
  · have fc : (c != 0) = true := by simpa using hc0
    clear hc0
    go_wp2_with fail
    go_ret
    exact ⟨rfl, HB4.out⟩
  · have HTO := Lib.hid hok.2
    have h200 := hok.2.1
    have HSP := Lib.hid hsat
    clear hok hsat
    go_wp2_with fail
    go_loopw [9, 10, 45] (fun lv yv iv wr => ∃ (i : Nat) (Y N : Int), i ≤ l.length ∧ lv = .int .i64 Y ∧ yv = .int .i64 N ∧ iv = .int .i64 (i : Int) ∧ wr = w4 ∧ Hid (Y = lastY (l.take i)) ∧ Hid (N = nY (l.take i)) ∧ 0 ≤ N ∧ N ≤ i) (fun _ _ iv _ => l.length - (intOf iv).toNat)
    case atStart => exact ⟨0, 0, 0, by omega, rfl, rfl, rfl, rfl, Lib.hid rfl, Lib.hid rfl, by omega, by omega⟩
    case round =>
      obtain ⟨i, Y, N, hi, rfl, rfl, rfl, rfl, HY, HN, hN0, hN1⟩ := hrel
      by_cases hlt : i < l.length
      · have m1 : (i : Int) < (l.length : Int) := by omega
        obtain ⟨gs, off, rfl, hg, hr⟩ := HSA4.out.int i hlt
        obtain ⟨_, _, e, _, ha⟩ := HSP.out.bool i (by rw [pickL_length]; exact hlt)
        injection e with e
        injection e with e1 e2 _
        subst e1 e2
        rw [Nat.zero_add] at ha
        have HT : Hid (0 ≤ l[i] ∧ l[i] ≤ 4223371679) := HTO.out.2.1 _ (List.getElem_mem hlt)
        have hgd : l.getD i 0 = l[i] := by rw [List.getD_eq_getElem?_getD, List.getElem?_eq_getElem hlt]; rfl
        have HSN : Hid (l.take (i + 1) = l.take i ++ [l[i]]) := List.take_succ_eq_append_getElem hlt
        have HTS : Hid (tOK (l.take i ++ [l[i]])) := by rw [← HSN.out]; exact tOK_sub (List.take_sublist _ _) HTO.out
        have HLY : Hid (lastY (l.take (i + 1)) = dY (l[i] / 1440)) := by show _ = _; rw [HSN.out]; exact lastY_snoc _ _
        have HNY : Hid (nY (l.take (i + 1)) = if dY (l[i] / 1440) = Y then N else N + 1) := by
          show _ = _
          rw [HSN.out, nY_snoc _ _ HTS.out, ← HY.out, ← HN.out]
        have HKY : Hid ((pickL ⟨0, 0, 0, 0, n⟩ l)[i]'(by rw [pickL_length]; exact hlt) = (decide (dY (l[i] / 1440) ≠ Y) && decide ((if dY (l[i] / 1440) = Y then N else N + 1) ≤ n))) := by
          have := keep_years n l HTO.out i hlt
          rw [List.getD_eq_getElem?_getD, List.getElem?_eq_getElem (by rw [pickL_length]; exact hlt), hgd, ← HY.out, HNY.out] at this
          exact this
        clear hg hgd HSN HTS
        generalize (pickL ⟨0, 0, 0, 0, n⟩ l)[i]'(by rw [pickL_length]; exact hlt) = x at *
        generalize l[i] = t at *
        have hq : Int.tdiv t 1440 = t / 1440 := Int.tdiv_eq_ediv_of_nonneg HT.out.1
        have hq1 : 0 ≤ t / 1440 := by have := HT.out; omega
        have hq2 : t / 1440 ≤ 2932896 := by have := HT.out; omega
        have ht0 : 0 ≤ t := HT.out.1
        have ht1 : t ≤ 4223371679 := HT.out.2
        go_wp2_with fail
        refine (HDT.out (t / 1440) _ (by omega) (by omega)).mono ?_
        rintro e w5 ⟨rfl, rfl⟩
        clear hq hr
        generalize dY (t / 1440) = y at *
        by_cases hy : y = Y
        · have hx : x = false := by rw [HKY.out]; simp [hy]
          have HN' : Hid (nY (l.take (i + 1)) = N) := by have := HNY.out; rwa [if_pos hy] at this
          have f1 : (y != Y) = false := by simp [hy]
          subst hx
          clear HKY HNY hy
          go_wp2_with fail
          go_roundw
          case rel => exact ⟨i + 1, y, N, by omega, rfl, rfl, by go_num, trivial, Lib.hid HLY.out.symm, Lib.hid HN'.out.symm, by omega, by omega⟩
          case measure => simp [intOf]; omega
        · have hx : x = decide (N + 1 ≤ n) := by rw [HKY.out]; simp [hy]
          have HN' : Hid (nY (l.take (i + 1)) = N + 1) := by have := HNY.out; rwa [if_neg hy] at this
          have f1 : (y != Y) = true := by simpa using hy
          have i1 : IntKind.i64.wrap (N + 1) = N + 1 := wraps_i64 _ (by omega) (by omega)
          clear HKY HNY hy
          by_cases hn : N + 1 ≤ n
          · rw [decide_eq_true hn] at hx
            subst hx
            go_wp2_with fail
            go_roundw
            case rel => exact ⟨i + 1, y, N + 1, by omega, rfl, rfl, by go_num, trivial, Lib.hid HLY.out.symm, Lib.hid HN'.out.symm, by omega, by omega⟩
            case measure => simp [intOf]; omega
          · rw [decide_eq_false hn] at hx
            subst hx
            go_wp2_with fail
            go_roundw
            case rel => exact ⟨i + 1, y, N + 1, by omega, rfl, rfl, by go_num, trivial, Lib.hid HLY.out.symm, Lib.hid HN'.out.symm, by omega, by omega⟩
            case measure => simp [intOf]; omega
      · have m1 : ¬ (i : Int) < (l.length : Int) := by omega
        go_wp2_with fail
        go_ret
        exact ⟨rfl, HB4.out⟩

end Go.Proofs.Ythfjonicolhjnaa
