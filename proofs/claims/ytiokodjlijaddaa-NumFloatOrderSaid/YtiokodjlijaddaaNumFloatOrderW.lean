/- The walk of NumFloatOrder. -/
import Derived.Test.YtiokodjlijaddaaFloatW
import Derived.Laws.Cover2
namespace Go.Proofs.Ytiokodjlijaddaa
open Go.RowKit Plain
theorem str_list (l : List Nat) : (strOf l).toList = l.map UInt8.ofNat := by
  rw [ByteArray.toList_eq]
  rfl
theorem less_str (g h : Nat) (hg : g < 18446744073709551616) (hh : h < 18446744073709551616) : Op.bytesLess (strOf (be8 g)).toList (strOf (be8 h)).toList = decide (g < h) := by
  rw [str_list, str_list, bytesLess_ofNat _ _ (be8_lt g) (be8_lt h), less_be8 g h hg hh]
theorem eq_str (g h : Nat) (hg : g < 18446744073709551616) (hh : h < 18446744073709551616) : ((strOf (be8 g)).toList == (strOf (be8 h)).toList) = decide (g = h) := by
  by_cases e : g = h
  · subst e; simp
  · rw [decide_eq_false e]
    rw [beq_eq_false_iff_ne, str_list, str_list]
    intro h1
    refine e (be8_inj hg hh ?_)
    have h2 := congrArg (List.map UInt8.toNat) h1
    simp only [List.map_map] at h2
    have h3 : ∀ l : List Nat, (∀ c ∈ l, c < 256) → l.map (UInt8.toNat ∘ UInt8.ofNat) = l := by
      intro l hl
      conv => rhs; rw [← List.map_id l]
      apply List.map_congr_left
      intro c hc
      simp [Nat.mod_eq_of_lt (hl c hc)]
    rwa [h3 _ (be8_lt g), h3 _ (be8_lt h)] at h2
namespace Plain
theorem key_less {x y : Nat} (hx : x < 18446744073709551616) (hy : y < 18446744073709551616) (nx : isNaN x = false) (ny : isNaN y = false) (h : place x < place y) : key x < key y := by
  obtain ⟨a1, a2, a3, a4⟩ := key_num hx nx
  obtain ⟨b1, b2, b3, b4⟩ := key_num hy ny
  unfold place at h
  cases e1 : isNeg x <;> cases e2 : isNeg y <;> rw [e1, e2] at h <;> simp only [Bool.false_eq_true, if_true, if_false] at h <;> simp only [e1, e2, Bool.false_eq_true, forall_const, false_implies, reduceCtorEq] at a1 a2 a3 b1 b2 b3 <;> omega
theorem key_same {x y : Nat} (hx : x < 18446744073709551616) (hy : y < 18446744073709551616) (nx : isNaN x = false) (ny : isNaN y = false) (h : place x = place y) : decide (key x = key y) = (isNeg x == isNeg y) := by
  obtain ⟨a1, a2, a3, a4⟩ := key_num hx nx
  obtain ⟨b1, b2, b3, b4⟩ := key_num hy ny
  unfold place at h
  cases e1 : isNeg x <;> cases e2 : isNeg y <;> rw [e1, e2] at h <;> simp only [Bool.false_eq_true, if_true, if_false] at h <;> simp only [e1, e2, Bool.false_eq_true, forall_const, false_implies, reduceCtorEq] at a1 a2 a3 b1 b2 b3
  · exact decide_eq_true (by omega)
  · exact decide_eq_false (by omega)
  · exact decide_eq_false (by omega)
  · exact decide_eq_true (by omega)
theorem key_below_nan {x : Nat} (hx : x < 18446744073709551616) (nx : isNaN x = false) : key x < 18444492273895866369 := by
  obtain ⟨a1, a2, a3, a4⟩ := key_num hx nx
  cases e1 : isNeg x <;> simp only [e1, Bool.false_eq_true, forall_const, false_implies, reduceCtorEq] at a1 a2 a3 <;> omega
end Plain
set_option maxRecDepth 100000 in
set_option maxHeartbeats 2000000 in
theorem numFloatOrder_any (x y : Nat) (hx : x < 18446744073709551616) (hy : y < 18446744073709551616) (w : World) :
    Calls Try.prog 3 #[.float .f64 x, .float .f64 y] w fun e w' => e = .returned (.bool true) ∧ Below w.heap.size w w' := by
  have HX := Lib.hid fun u => putFloat_any x hx u
  have HY := Lib.hid fun u => putFloat_any y hy u
  have H0 := Lib.hid fun u => putFloat_any 0 (by decide) u
  have HM0 := Lib.hid fun u => putFloat_any 9223372036854775808 (by decide) u
  have HI := Lib.hid fun u => putFloat_any 9218868437227405312 (by decide) u
  have HN := Lib.hid fun u => putFloat_any 9221120237041090561 (by decide) u
  have HSX := Lib.hid fun u => signbit_any x hx u
  have HSY := Lib.hid fun u => signbit_any y hy u
  have l1 : Op.bytesLess (strOf (be8 (key 9223372036854775808))).toList (strOf (be8 (key 0))).toList = true := by
    rw [less_str _ _ (by decide +kernel) (by decide +kernel)]; decide +kernel
  have l2 : Op.bytesLess (strOf (be8 (key 9218868437227405312))).toList (strOf (be8 (key 9221120237041090561))).toList = true := by
    rw [less_str _ _ (by decide +kernel) (by decide +kernel)]; decide +kernel
  have l3 := less_str (key x) (key y) (key_lt x hx) (key_lt y hy)
  have l4 := eq_str (key x) (key y) (key_lt x hx) (key_lt y hy)
  unfold PutEnd at HX HY H0 HM0 HI HN
  generalize strOf (be8 (key x)) = A at *
  generalize strOf (be8 (key y)) = B at *
  generalize strOf (be8 (key 0)) = S0 at *
  generalize strOf (be8 (key 9223372036854775808)) = S1 at *
  generalize strOf (be8 (key 9218868437227405312)) = S2 at *
  generalize strOf (be8 (key 9221120237041090561)) = S3 at *
  have ox := order_self x
  have oy := order_self y
  have HCS := Lib.hid copysign_any
  have HIN := Lib.hid inf_any
  have HNA := Lib.hid nan_any
  cases nx : isNaN x with
  | true =>
    have kx := key_nan nx
    cases ny : isNaN y with
    | true =>
      have ky := key_nan ny
      rw [kx, ky] at l3 l4
      rw [nx] at ox
      rw [ny] at oy
      have l5 : Op.bytesLess A.toList B.toList = false := l3.trans (by decide)
      have l6 : (A.toList == B.toList) = true := l4.trans (by decide)
      clear l3 l4 hx hy nx ny kx ky
      go_enter Try.func3, Try.ntmps3
      go_wp2_with fail
      refine (HX.out _).mono ?_
      rintro e w1 ⟨rfl, hb1⟩
      have B1 := Lib.hid hb1
      clear hb1
      go_wp2_with fail
      refine (HY.out _).mono ?_
      rintro e w2 ⟨rfl, hb2⟩
      have B2 := Lib.hid (Below.step B1.out hb2)
      clear hb2
      go_wp2_with fail
      refine (HCS.out _).mono ?_
      rintro e w3 ⟨rfl, rfl⟩
      go_wp2_with fail
      refine (HM0.out _).mono ?_
      rintro e w4 ⟨rfl, hb4⟩
      have B4 := Lib.hid (Below.step B2.out hb4)
      clear hb4
      go_wp2_with fail
      refine (H0.out _).mono ?_
      rintro e w5 ⟨rfl, hb5⟩
      have B5 := Lib.hid (Below.step B4.out hb5)
      clear hb5
      go_wp2_with fail
      refine (HIN.out _).mono ?_
      rintro e w6 ⟨rfl, rfl⟩
      go_wp2_with fail
      refine (HI.out _).mono ?_
      rintro e w7 ⟨rfl, hb7⟩
      have B7 := Lib.hid (Below.step B5.out hb7)
      clear hb7
      go_wp2_with fail
      refine (HNA.out _).mono ?_
      rintro e w8 ⟨rfl, rfl⟩
      go_wp2_with fail
      refine (HN.out _).mono ?_
      rintro e w9 ⟨rfl, hb9⟩
      have B9 := Lib.hid (Below.step B7.out hb9)
      clear hb9
      go_wp2_with fail
      go_ret
      exact ⟨rfl, B9.out⟩
    | false =>
      have ky := key_below_nan hy ny
      rw [kx] at l3 l4
      rw [nx] at ox
      rw [ny] at oy
      have l5 : Op.bytesLess A.toList B.toList = false := l3.trans (decide_eq_false (by omega))
      have l6 : (A.toList == B.toList) = false := l4.trans (decide_eq_false (by omega))
      clear l3 l4 hx hy nx ny kx ky
      go_enter Try.func3, Try.ntmps3
      go_wp2_with fail
      refine (HX.out _).mono ?_
      rintro e w1 ⟨rfl, hb1⟩
      have B1 := Lib.hid hb1
      clear hb1
      go_wp2_with fail
      refine (HY.out _).mono ?_
      rintro e w2 ⟨rfl, hb2⟩
      have B2 := Lib.hid (Below.step B1.out hb2)
      clear hb2
      go_wp2_with fail
      refine (HCS.out _).mono ?_
      rintro e w3 ⟨rfl, rfl⟩
      go_wp2_with fail
      refine (HM0.out _).mono ?_
      rintro e w4 ⟨rfl, hb4⟩
      have B4 := Lib.hid (Below.step B2.out hb4)
      clear hb4
      go_wp2_with fail
      refine (H0.out _).mono ?_
      rintro e w5 ⟨rfl, hb5⟩
      have B5 := Lib.hid (Below.step B4.out hb5)
      clear hb5
      go_wp2_with fail
      refine (HIN.out _).mono ?_
      rintro e w6 ⟨rfl, rfl⟩
      go_wp2_with fail
      refine (HI.out _).mono ?_
      rintro e w7 ⟨rfl, hb7⟩
      have B7 := Lib.hid (Below.step B5.out hb7)
      clear hb7
      go_wp2_with fail
      refine (HNA.out _).mono ?_
      rintro e w8 ⟨rfl, rfl⟩
      go_wp2_with fail
      refine (HN.out _).mono ?_
      rintro e w9 ⟨rfl, hb9⟩
      have B9 := Lib.hid (Below.step B7.out hb9)
      clear hb9
      go_wp2_with fail
      go_ret
      exact ⟨rfl, B9.out⟩
  | false =>
    cases ny : isNaN y with
    | true =>
      have ky := key_nan ny
      have kx := key_below_nan hx nx
      rw [ky] at l3 l4
      rw [nx] at ox
      rw [ny] at oy
      have l5 : Op.bytesLess A.toList B.toList = true := l3.trans (decide_eq_true kx)
      clear l3 l4 hx hy nx ny kx ky
      go_enter Try.func3, Try.ntmps3
      go_wp2_with fail
      refine (HX.out _).mono ?_
      rintro e w1 ⟨rfl, hb1⟩
      have B1 := Lib.hid hb1
      clear hb1
      go_wp2_with fail
      refine (HY.out _).mono ?_
      rintro e w2 ⟨rfl, hb2⟩
      have B2 := Lib.hid (Below.step B1.out hb2)
      clear hb2
      go_wp2_with fail
      refine (HCS.out _).mono ?_
      rintro e w3 ⟨rfl, rfl⟩
      go_wp2_with fail
      refine (HM0.out _).mono ?_
      rintro e w4 ⟨rfl, hb4⟩
      have B4 := Lib.hid (Below.step B2.out hb4)
      clear hb4
      go_wp2_with fail
      refine (H0.out _).mono ?_
      rintro e w5 ⟨rfl, hb5⟩
      have B5 := Lib.hid (Below.step B4.out hb5)
      clear hb5
      go_wp2_with fail
      refine (HIN.out _).mono ?_
      rintro e w6 ⟨rfl, rfl⟩
      go_wp2_with fail
      refine (HI.out _).mono ?_
      rintro e w7 ⟨rfl, hb7⟩
      have B7 := Lib.hid (Below.step B5.out hb7)
      clear hb7
      go_wp2_with fail
      refine (HNA.out _).mono ?_
      rintro e w8 ⟨rfl, rfl⟩
      go_wp2_with fail
      refine (HN.out _).mono ?_
      rintro e w9 ⟨rfl, hb9⟩
      have B9 := Lib.hid (Below.step B7.out hb9)
      clear hb9
      go_wp2_with fail
      go_ret
      exact ⟨rfl, B9.out⟩
    | false =>
      have ho : FloatKind.f64.format.order x y = some (compare (place x) (place y)) := order_place x y nx ny
      rw [nx] at ox
      rw [ny] at oy
      rcases Int.lt_trichotomy (place x) (place y) with h | h | h
      · rw [Int.compare_eq_lt.2 h] at ho
        have l5 : Op.bytesLess A.toList B.toList = true := l3.trans (decide_eq_true (key_less hx hy nx ny h))
        have o1 : (FloatKind.f64.format.order x y == some .gt) = false := by rw [ho]; decide
        have o2 : (FloatKind.f64.format.order x y == some .eq) = false := by rw [ho]; decide
        have o3 : (FloatKind.f64.format.order x y != some .eq) = true := by rw [ho]; decide
        clear l3 l4 hx hy nx ny h ho
        go_enter Try.func3, Try.ntmps3
        go_wp2_with fail
        refine (HX.out _).mono ?_
        rintro e w1 ⟨rfl, hb1⟩
        have B1 := Lib.hid hb1
        clear hb1
        go_wp2_with fail
        refine (HY.out _).mono ?_
        rintro e w2 ⟨rfl, hb2⟩
        have B2 := Lib.hid (Below.step B1.out hb2)
        clear hb2
        go_wp2_with fail
        refine (HCS.out _).mono ?_
        rintro e w3 ⟨rfl, rfl⟩
        go_wp2_with fail
        refine (HM0.out _).mono ?_
        rintro e w4 ⟨rfl, hb4⟩
        have B4 := Lib.hid (Below.step B2.out hb4)
        clear hb4
        go_wp2_with fail
        refine (H0.out _).mono ?_
        rintro e w5 ⟨rfl, hb5⟩
        have B5 := Lib.hid (Below.step B4.out hb5)
        clear hb5
        go_wp2_with fail
        refine (HIN.out _).mono ?_
        rintro e w6 ⟨rfl, rfl⟩
        go_wp2_with fail
        refine (HI.out _).mono ?_
        rintro e w7 ⟨rfl, hb7⟩
        have B7 := Lib.hid (Below.step B5.out hb7)
        clear hb7
        go_wp2_with fail
        refine (HNA.out _).mono ?_
        rintro e w8 ⟨rfl, rfl⟩
        go_wp2_with fail
        refine (HN.out _).mono ?_
        rintro e w9 ⟨rfl, hb9⟩
        have B9 := Lib.hid (Below.step B7.out hb9)
        clear hb9
        go_wp2_with fail
        go_ret
        exact ⟨rfl, B9.out⟩
      · rw [Int.compare_eq_eq.2 h] at ho
        have l7 := l4.trans (key_same hx hy nx ny h)
        have o1 : (FloatKind.f64.format.order x y == some .gt) = false := by rw [ho]; decide
        have o2 : (FloatKind.f64.format.order x y == some .eq) = true := by rw [ho]; decide
        have o3 : (FloatKind.f64.format.order x y != some .eq) = false := by rw [ho]; decide
        clear l3 l4 hx hy nx ny h ho
        generalize isNeg x = sx at *
        generalize isNeg y = sy at *
        have l8 : (A.toList == B.toList) = (sx == sy) := l7
        clear l7
        cases sx <;> cases sy
        · have l9 : (A.toList == B.toList) = true := l8
          clear l8
          go_enter Try.func3, Try.ntmps3
          go_wp2_with fail
          refine (HX.out _).mono ?_
          rintro e w1 ⟨rfl, hb1⟩
          have B1 := Lib.hid hb1
          clear hb1
          go_wp2_with fail
          refine (HY.out _).mono ?_
          rintro e w2 ⟨rfl, hb2⟩
          have B2 := Lib.hid (Below.step B1.out hb2)
          clear hb2
          go_wp2_with fail
          refine (HCS.out _).mono ?_
          rintro e w3 ⟨rfl, rfl⟩
          go_wp2_with fail
          refine (HM0.out _).mono ?_
          rintro e w4 ⟨rfl, hb4⟩
          have B4 := Lib.hid (Below.step B2.out hb4)
          clear hb4
          go_wp2_with fail
          refine (H0.out _).mono ?_
          rintro e w5 ⟨rfl, hb5⟩
          have B5 := Lib.hid (Below.step B4.out hb5)
          clear hb5
          go_wp2_with fail
          refine (HIN.out _).mono ?_
          rintro e w6 ⟨rfl, rfl⟩
          go_wp2_with fail
          refine (HI.out _).mono ?_
          rintro e w7 ⟨rfl, hb7⟩
          have B7 := Lib.hid (Below.step B5.out hb7)
          clear hb7
          go_wp2_with fail
          refine (HNA.out _).mono ?_
          rintro e w8 ⟨rfl, rfl⟩
          go_wp2_with fail
          refine (HN.out _).mono ?_
          rintro e w9 ⟨rfl, hb9⟩
          have B9 := Lib.hid (Below.step B7.out hb9)
          clear hb9
          go_wp2_with fail
          refine (HSX.out _).mono ?_
          rintro e w10 ⟨rfl, rfl⟩
          go_wp2_with fail
          refine (HSY.out _).mono ?_
          rintro e w11 ⟨rfl, rfl⟩
          go_wp2_with fail
          go_ret
          exact ⟨rfl, B9.out⟩
        · have l9 : (A.toList == B.toList) = false := l8
          clear l8
          go_enter Try.func3, Try.ntmps3
          go_wp2_with fail
          refine (HX.out _).mono ?_
          rintro e w1 ⟨rfl, hb1⟩
          have B1 := Lib.hid hb1
          clear hb1
          go_wp2_with fail
          refine (HY.out _).mono ?_
          rintro e w2 ⟨rfl, hb2⟩
          have B2 := Lib.hid (Below.step B1.out hb2)
          clear hb2
          go_wp2_with fail
          refine (HCS.out _).mono ?_
          rintro e w3 ⟨rfl, rfl⟩
          go_wp2_with fail
          refine (HM0.out _).mono ?_
          rintro e w4 ⟨rfl, hb4⟩
          have B4 := Lib.hid (Below.step B2.out hb4)
          clear hb4
          go_wp2_with fail
          refine (H0.out _).mono ?_
          rintro e w5 ⟨rfl, hb5⟩
          have B5 := Lib.hid (Below.step B4.out hb5)
          clear hb5
          go_wp2_with fail
          refine (HIN.out _).mono ?_
          rintro e w6 ⟨rfl, rfl⟩
          go_wp2_with fail
          refine (HI.out _).mono ?_
          rintro e w7 ⟨rfl, hb7⟩
          have B7 := Lib.hid (Below.step B5.out hb7)
          clear hb7
          go_wp2_with fail
          refine (HNA.out _).mono ?_
          rintro e w8 ⟨rfl, rfl⟩
          go_wp2_with fail
          refine (HN.out _).mono ?_
          rintro e w9 ⟨rfl, hb9⟩
          have B9 := Lib.hid (Below.step B7.out hb9)
          clear hb9
          go_wp2_with fail
          refine (HSX.out _).mono ?_
          rintro e w10 ⟨rfl, rfl⟩
          go_wp2_with fail
          refine (HSY.out _).mono ?_
          rintro e w11 ⟨rfl, rfl⟩
          go_wp2_with fail
          go_ret
          exact ⟨rfl, B9.out⟩
        · have l9 : (A.toList == B.toList) = false := l8
          clear l8
          go_enter Try.func3, Try.ntmps3
          go_wp2_with fail
          refine (HX.out _).mono ?_
          rintro e w1 ⟨rfl, hb1⟩
          have B1 := Lib.hid hb1
          clear hb1
          go_wp2_with fail
          refine (HY.out _).mono ?_
          rintro e w2 ⟨rfl, hb2⟩
          have B2 := Lib.hid (Below.step B1.out hb2)
          clear hb2
          go_wp2_with fail
          refine (HCS.out _).mono ?_
          rintro e w3 ⟨rfl, rfl⟩
          go_wp2_with fail
          refine (HM0.out _).mono ?_
          rintro e w4 ⟨rfl, hb4⟩
          have B4 := Lib.hid (Below.step B2.out hb4)
          clear hb4
          go_wp2_with fail
          refine (H0.out _).mono ?_
          rintro e w5 ⟨rfl, hb5⟩
          have B5 := Lib.hid (Below.step B4.out hb5)
          clear hb5
          go_wp2_with fail
          refine (HIN.out _).mono ?_
          rintro e w6 ⟨rfl, rfl⟩
          go_wp2_with fail
          refine (HI.out _).mono ?_
          rintro e w7 ⟨rfl, hb7⟩
          have B7 := Lib.hid (Below.step B5.out hb7)
          clear hb7
          go_wp2_with fail
          refine (HNA.out _).mono ?_
          rintro e w8 ⟨rfl, rfl⟩
          go_wp2_with fail
          refine (HN.out _).mono ?_
          rintro e w9 ⟨rfl, hb9⟩
          have B9 := Lib.hid (Below.step B7.out hb9)
          clear hb9
          go_wp2_with fail
          refine (HSX.out _).mono ?_
          rintro e w10 ⟨rfl, rfl⟩
          go_wp2_with fail
          refine (HSY.out _).mono ?_
          rintro e w11 ⟨rfl, rfl⟩
          go_wp2_with fail
          go_ret
          exact ⟨rfl, B9.out⟩
        · have l9 : (A.toList == B.toList) = true := l8
          clear l8
          go_enter Try.func3, Try.ntmps3
          go_wp2_with fail
          refine (HX.out _).mono ?_
          rintro e w1 ⟨rfl, hb1⟩
          have B1 := Lib.hid hb1
          clear hb1
          go_wp2_with fail
          refine (HY.out _).mono ?_
          rintro e w2 ⟨rfl, hb2⟩
          have B2 := Lib.hid (Below.step B1.out hb2)
          clear hb2
          go_wp2_with fail
          refine (HCS.out _).mono ?_
          rintro e w3 ⟨rfl, rfl⟩
          go_wp2_with fail
          refine (HM0.out _).mono ?_
          rintro e w4 ⟨rfl, hb4⟩
          have B4 := Lib.hid (Below.step B2.out hb4)
          clear hb4
          go_wp2_with fail
          refine (H0.out _).mono ?_
          rintro e w5 ⟨rfl, hb5⟩
          have B5 := Lib.hid (Below.step B4.out hb5)
          clear hb5
          go_wp2_with fail
          refine (HIN.out _).mono ?_
          rintro e w6 ⟨rfl, rfl⟩
          go_wp2_with fail
          refine (HI.out _).mono ?_
          rintro e w7 ⟨rfl, hb7⟩
          have B7 := Lib.hid (Below.step B5.out hb7)
          clear hb7
          go_wp2_with fail
          refine (HNA.out _).mono ?_
          rintro e w8 ⟨rfl, rfl⟩
          go_wp2_with fail
          refine (HN.out _).mono ?_
          rintro e w9 ⟨rfl, hb9⟩
          have B9 := Lib.hid (Below.step B7.out hb9)
          clear hb9
          go_wp2_with fail
          refine (HSX.out _).mono ?_
          rintro e w10 ⟨rfl, rfl⟩
          go_wp2_with fail
          refine (HSY.out _).mono ?_
          rintro e w11 ⟨rfl, rfl⟩
          go_wp2_with fail
          go_ret
          exact ⟨rfl, B9.out⟩
      · rw [Int.compare_eq_gt.2 h] at ho
        have o1 : (FloatKind.f64.format.order x y == some .gt) = true := by rw [ho]; decide
        have o2 : (FloatKind.f64.format.order x y == some .eq) = false := by rw [ho]; decide
        have o3 : (FloatKind.f64.format.order x y != some .eq) = true := by rw [ho]; decide
        clear l3 l4 hx hy nx ny h ho
        go_enter Try.func3, Try.ntmps3
        go_wp2_with fail
        refine (HX.out _).mono ?_
        rintro e w1 ⟨rfl, hb1⟩
        have B1 := Lib.hid hb1
        clear hb1
        go_wp2_with fail
        refine (HY.out _).mono ?_
        rintro e w2 ⟨rfl, hb2⟩
        have B2 := Lib.hid (Below.step B1.out hb2)
        clear hb2
        go_wp2_with fail
        refine (HCS.out _).mono ?_
        rintro e w3 ⟨rfl, rfl⟩
        go_wp2_with fail
        refine (HM0.out _).mono ?_
        rintro e w4 ⟨rfl, hb4⟩
        have B4 := Lib.hid (Below.step B2.out hb4)
        clear hb4
        go_wp2_with fail
        refine (H0.out _).mono ?_
        rintro e w5 ⟨rfl, hb5⟩
        have B5 := Lib.hid (Below.step B4.out hb5)
        clear hb5
        go_wp2_with fail
        refine (HIN.out _).mono ?_
        rintro e w6 ⟨rfl, rfl⟩
        go_wp2_with fail
        refine (HI.out _).mono ?_
        rintro e w7 ⟨rfl, hb7⟩
        have B7 := Lib.hid (Below.step B5.out hb7)
        clear hb7
        go_wp2_with fail
        refine (HNA.out _).mono ?_
        rintro e w8 ⟨rfl, rfl⟩
        go_wp2_with fail
        refine (HN.out _).mono ?_
        rintro e w9 ⟨rfl, hb9⟩
        have B9 := Lib.hid (Below.step B7.out hb9)
        clear hb9
        go_wp2_with fail
        go_ret
        exact ⟨rfl, B9.out⟩
end Go.Proofs.Ytiokodjlijaddaa
