/- The walk of NamesOrder. -/
import Derived.Test.YtokckcmkbnhhhaaDoorNamesCmp
namespace Go.Proofs.YtokckcmkbnhhhaaDoor
open Go.RowKit Plain
theorem ord_g1 : lessP ck [47, 97] [47, 97, 47, 98] = true := by decide +kernel
theorem ord_g2 : lessP ck [47, 97, 47, 98] [47, 97, 33] = true := by decide +kernel
/-- a call of less from wherever the walk stands -/
def LessAt (w0 : World) (a b : ByteArray) (r : Bool) : Prop := ∀ u, Below w0.heap.size w0 u → Calls Tryd.prog 21 #[.string a, .string b] u fun e u' => e = .returned (.bool r) ∧ Below w0.heap.size w0 u'
def BenAt (w0 : World) (a b : ByteArray) (r : Bool) : Prop := ∀ u, Below w0.heap.size w0 u → Calls Tryd.prog 23 #[.string a, .string b] u fun e u' => e = .returned (.bool r) ∧ Below w0.heap.size w0 u'
theorem less_at (a b : ByteArray) (m : Int) (w : World) (ha : a.size < 4294967281) (hb : b.size < 4294967281) (hm : MaxL m w) (hT : Tabs w) : LessAt w a b (lessP ck (bT a) (bT b)) := by
  intro u hu
  exact (less_any a b m u ha hb (hm.below hu) (hT.below hu)).mono fun e u' ⟨h1, h2⟩ => ⟨h1, Below.step hu h2⟩
theorem ben_at (a b : ByteArray) (w : World) (hb : b.size < 4294967281) : BenAt w a b (benP (bT a) (bT b)) := by
  intro u hu
  exact (beneath_any a b u hb).mono fun e u' ⟨h1, h2⟩ => ⟨h1, by rw [h2]; exact hu⟩
set_option maxRecDepth 100000 in
set_option maxHeartbeats 1000000 in
theorem namesOrder_any (a b c : ByteArray) (m : Int) (w : World) (ha : a.size ≤ 1048576) (hb : b.size ≤ 1048576) (hc : c.size ≤ 1048576) (hm : MaxL m w) (hT : Tabs w) :
    Calls Tryd.prog 5 #[.string a, .string b, .string c] w fun e w' => e = .returned (.bool true) ∧ Below w.heap.size w w' := by
  have HSP := Lib.hid split_any
  have HM := Lib.hid hm
  have HT := Lib.hid hT
  have G1 : Hid (LessAt w ⟨#[47, 97]⟩ ⟨#[47, 97, 47, 98]⟩ true) := by
    have := less_at ⟨#[47, 97]⟩ ⟨#[47, 97, 47, 98]⟩ m w (by decide) (by decide) hm hT
    rw [show lessP ck (bT ⟨#[47, 97]⟩) (bT ⟨#[47, 97, 47, 98]⟩) = true from ord_g1] at this
    exact this
  have G2 : Hid (LessAt w ⟨#[47, 97, 47, 98]⟩ ⟨#[47, 97, 33]⟩ true) := by
    have := less_at ⟨#[47, 97, 47, 98]⟩ ⟨#[47, 97, 33]⟩ m w (by decide) (by decide) hm hT
    rw [show lessP ck (bT ⟨#[47, 97, 47, 98]⟩) (bT ⟨#[47, 97, 33]⟩) = true from ord_g2] at this
    exact this
  have LAB := Lib.hid (less_at a b m w (by omega) (by omega) hm hT)
  have LBA := Lib.hid (less_at b a m w (by omega) (by omega) hm hT)
  have LAA := Lib.hid (less_at a a m w (by omega) (by omega) hm hT)
  have LBC := Lib.hid (less_at b c m w (by omega) (by omega) hm hT)
  have LAC := Lib.hid (less_at a c m w (by omega) (by omega) hm hT)
  have BBA := Lib.hid (ben_at b a w (by omega))
  have BCA := Lib.hid (ben_at c a w (by omega))
  clear hm hT
  go_enter Tryd.func5, Tryd.ntmps5
  go_wp2_with fail
  refine (G1.out w (Below.refl _ _)).mono ?_
  rintro e w1 ⟨rfl, hb1⟩
  have HB1 := Lib.hid hb1
  clear hb1
  go_wp2_with fail
  refine (G2.out w1 HB1.out).mono ?_
  rintro e w2 ⟨rfl, hb2⟩
  have HB2 := Lib.hid hb2
  have HB3 := Lib.hid (HB2.out.alloc HB2.out.size (.cells #[.string a, .string b, .string c] 9))
  have HR3 := Lib.hid (heap_alloc_new w2 (.cells #[.string a, .string b, .string c] 9))
  clear hb2 G1 G2 HB1
  go_wp2_with fail
  generalize w2.alloc (.cells #[.string a, .string b, .string c] 9) = w3 at *
  generalize w2.heap.size = B at *
  go_loopw [22] (fun iv wr => ∃ i : Int, (0 ≤ i ∧ i ≤ 3) ∧ iv = .int .i64 i ∧ Hid (Below w.heap.size w wr) ∧ Hid (wr.heap[B]? = some (.cells #[.string a, .string b, .string c] 9 (0, 0))) ∧ Hid ((0 < i → (splP ck (bT a)).2 = 0) ∧ (1 < i → (splP ck (bT b)).2 = 0) ∧ (2 < i → (splP ck (bT c)).2 = 0))) (fun iv _ => 3 - (intOf iv).toNat)
  case atStart => exact ⟨0, by omega, rfl, HB3, HR3, Lib.hid ⟨by omega, by omega, by omega⟩⟩
  case round =>
    obtain ⟨i, hi, rfl, HBR, HRW, HOK⟩ := hrel
    obtain rfl | rfl | rfl | rfl : i = 3 ∨ i = 0 ∨ i = 1 ∨ i = 2 := by omega
    · have ha0 := HOK.out.1 (by decide)
      have hb0 := HOK.out.2.1 (by decide)
      have hc0 := HOK.out.2.2 (by decide)
      have F1 : Hid ((lessP ck (bT a) (bT b) == lessP ck (bT b) (bT a)) = decide (a = b)) := by
        show _ = _
        rw [less_tri ha0 hb0, decide_eq_decide]
        exact ⟨fun e => bT_inj e, fun e => by rw [e]⟩
      have F2 : lessP ck (bT a) (bT a) = false := less_self _
      have F3 : Hid (lessP ck (bT a) (bT b) = true → lessP ck (bT b) (bT c) = true → lessP ck (bT a) (bT c) = true) := less_trans ha0 hb0 hc0
      have F4 : Hid (benP (bT b) (bT a) = true → a ≠ b → lessP ck (bT a) (bT b) = true) := fun h hne => ben_less ha0 hb0 h (fun e => hne (bT_inj e))
      have F5 : Hid (benP (bT c) (bT a) = true → lessP ck (bT a) (bT b) = true → lessP ck (bT b) (bT c) = true → benP (bT b) (bT a) = true) := ben_mid ha0 hb0 hc0
      have F6 : Hid (lessP ck (bT a) (bT b) = true → a ≠ b) := fun h e => by subst e; rw [F2] at h; cases h
      rw [F2] at LAA
      clear F2 ha0 hb0 hc0 HOK HRW
      generalize lessP ck (bT a) (bT b) = X at *
      generalize lessP ck (bT b) (bT a) = Y at *
      generalize lessP ck (bT b) (bT c) = Z at *
      generalize lessP ck (bT a) (bT c) = V at *
      generalize benP (bT b) (bT a) = BA at *
      generalize benP (bT c) (bT a) = CA at *
      have HB4 := HBR
      by_cases he : a = b
      · have fe : (a.toList == b.toList) = true := same_strB he
        have hX : X = false := by
          cases hx : X
          · rfl
          · exact absurd he (F6.out hx)
        have hY : Y = false := by
          have := F1.out
          rw [hX, decide_eq_true he] at this
          cases Y
          · rfl
          · cases this
        subst hX hY
        clear F1 F3 F4 F5 F6 he
        go_wp2_with fail
        refine (LAB.out _ HBR.out).mono ?_
        rintro e w5 ⟨rfl, hb5⟩
        have HB5 := Lib.hid hb5
        clear hb5
        go_wp2_with fail
        refine (LBA.out _ HB5.out).mono ?_
        rintro e w6 ⟨rfl, hb6⟩
        have HB6 := Lib.hid hb6
        clear hb6
        go_wp2_with fail
        refine (LAA.out _ HB6.out).mono ?_
        rintro e w7 ⟨rfl, hb7⟩
        have HB7 := Lib.hid hb7
        clear hb7
        go_wp2_with fail
        refine (LAB.out _ HB7.out).mono ?_
        rintro e w8 ⟨rfl, hb8⟩
        have HB8 := Lib.hid hb8
        clear hb8
        go_wp2_with fail
        refine (BBA.out _ HB8.out).mono ?_
        rintro e w9 ⟨rfl, hb9⟩
        have HB9 := Lib.hid hb9
        clear hb9
        cases BA
        · go_wp2_with fail
          refine (BCA.out _ HB9.out).mono ?_
          rintro e w10 ⟨rfl, hb10⟩
          have HB10 := Lib.hid hb10
          clear hb10
          cases CA
          · go_wp2_with fail
            go_ret
            exact ⟨rfl, HB10.out⟩
          · go_wp2_with fail
            refine (LAB.out _ HB10.out).mono ?_
            rintro e w11 ⟨rfl, hb11⟩
            have HB11 := Lib.hid hb11
            clear hb11
            go_wp2_with fail
            go_ret
            exact ⟨rfl, HB11.out⟩
        · go_wp2_with fail
          refine (BCA.out _ HB9.out).mono ?_
          rintro e w12 ⟨rfl, hb12⟩
          have HB12 := Lib.hid hb12
          clear hb12
          cases CA
          · go_wp2_with fail
            go_ret
            exact ⟨rfl, HB12.out⟩
          · go_wp2_with fail
            refine (LAB.out _ HB12.out).mono ?_
            rintro e w13 ⟨rfl, hb13⟩
            have HB13 := Lib.hid hb13
            clear hb13
            go_wp2_with fail
            go_ret
            exact ⟨rfl, HB13.out⟩
      · have fe : (a.toList == b.toList) = false := other_strB he
        have hXY : (X == Y) = false := by rw [F1.out]; exact decide_eq_false he
        cases X
        · obtain rfl : Y = true := by cases Y <;> first | rfl | cases hXY
          obtain rfl : BA = false := by
            cases hB : BA
            · rfl
            · have := F4.out hB he; cases this
          clear F1 F3 F4 F5 F6 he hXY
          go_wp2_with fail
          refine (LAB.out _ HBR.out).mono ?_
          rintro e w14 ⟨rfl, hb14⟩
          have HB14 := Lib.hid hb14
          clear hb14
          go_wp2_with fail
          refine (LBA.out _ HB14.out).mono ?_
          rintro e w15 ⟨rfl, hb15⟩
          have HB15 := Lib.hid hb15
          clear hb15
          go_wp2_with fail
          refine (LAA.out _ HB15.out).mono ?_
          rintro e w16 ⟨rfl, hb16⟩
          have HB16 := Lib.hid hb16
          clear hb16
          go_wp2_with fail
          refine (LAB.out _ HB16.out).mono ?_
          rintro e w17 ⟨rfl, hb17⟩
          have HB17 := Lib.hid hb17
          clear hb17
          go_wp2_with fail
          refine (BBA.out _ HB17.out).mono ?_
          rintro e w18 ⟨rfl, hb18⟩
          have HB18 := Lib.hid hb18
          clear hb18
          go_wp2_with fail
          refine (BCA.out _ HB18.out).mono ?_
          rintro e w19 ⟨rfl, hb19⟩
          have HB19 := Lib.hid hb19
          clear hb19
          cases CA
          · go_wp2_with fail
            go_ret
            exact ⟨rfl, HB19.out⟩
          · go_wp2_with fail
            refine (LAB.out _ HB19.out).mono ?_
            rintro e w20 ⟨rfl, hb20⟩
            have HB20 := Lib.hid hb20
            clear hb20
            go_wp2_with fail
            go_ret
            exact ⟨rfl, HB20.out⟩
        · obtain rfl : Y = false := by cases Y <;> first | rfl | cases hXY
          cases Z
          · cases BA
            · cases CA
              · clear F1 F3 F4 F5 F6 he hXY
                go_wp2_with fail
                refine (LAB.out _ HBR.out).mono ?_
                rintro e w21 ⟨rfl, hb21⟩
                have HB21 := Lib.hid hb21
                clear hb21
                go_wp2_with fail
                refine (LBA.out _ HB21.out).mono ?_
                rintro e w22 ⟨rfl, hb22⟩
                have HB22 := Lib.hid hb22
                clear hb22
                go_wp2_with fail
                refine (LAA.out _ HB22.out).mono ?_
                rintro e w23 ⟨rfl, hb23⟩
                have HB23 := Lib.hid hb23
                clear hb23
                go_wp2_with fail
                refine (LAB.out _ HB23.out).mono ?_
                rintro e w24 ⟨rfl, hb24⟩
                have HB24 := Lib.hid hb24
                clear hb24
                go_wp2_with fail
                refine (LBC.out _ HB24.out).mono ?_
                rintro e w25 ⟨rfl, hb25⟩
                have HB25 := Lib.hid hb25
                clear hb25
                go_wp2_with fail
                refine (BBA.out _ HB25.out).mono ?_
                rintro e w26 ⟨rfl, hb26⟩
                have HB26 := Lib.hid hb26
                clear hb26
                go_wp2_with fail
                refine (BCA.out _ HB26.out).mono ?_
                rintro e w27 ⟨rfl, hb27⟩
                have HB27 := Lib.hid hb27
                clear hb27
                go_wp2_with fail
                go_ret
                exact ⟨rfl, HB27.out⟩
              · clear F1 F3 F4 F5 F6 he hXY
                go_wp2_with fail
                refine (LAB.out _ HBR.out).mono ?_
                rintro e w28 ⟨rfl, hb28⟩
                have HB28 := Lib.hid hb28
                clear hb28
                go_wp2_with fail
                refine (LBA.out _ HB28.out).mono ?_
                rintro e w29 ⟨rfl, hb29⟩
                have HB29 := Lib.hid hb29
                clear hb29
                go_wp2_with fail
                refine (LAA.out _ HB29.out).mono ?_
                rintro e w30 ⟨rfl, hb30⟩
                have HB30 := Lib.hid hb30
                clear hb30
                go_wp2_with fail
                refine (LAB.out _ HB30.out).mono ?_
                rintro e w31 ⟨rfl, hb31⟩
                have HB31 := Lib.hid hb31
                clear hb31
                go_wp2_with fail
                refine (LBC.out _ HB31.out).mono ?_
                rintro e w32 ⟨rfl, hb32⟩
                have HB32 := Lib.hid hb32
                clear hb32
                go_wp2_with fail
                refine (BBA.out _ HB32.out).mono ?_
                rintro e w33 ⟨rfl, hb33⟩
                have HB33 := Lib.hid hb33
                clear hb33
                go_wp2_with fail
                refine (BCA.out _ HB33.out).mono ?_
                rintro e w34 ⟨rfl, hb34⟩
                have HB34 := Lib.hid hb34
                clear hb34
                go_wp2_with fail
                refine (LAB.out _ HB34.out).mono ?_
                rintro e w35 ⟨rfl, hb35⟩
                have HB35 := Lib.hid hb35
                clear hb35
                go_wp2_with fail
                refine (LBC.out _ HB35.out).mono ?_
                rintro e w36 ⟨rfl, hb36⟩
                have HB36 := Lib.hid hb36
                clear hb36
                go_wp2_with fail
                go_ret
                exact ⟨rfl, HB36.out⟩
            · cases CA
              · clear F1 F3 F4 F5 F6 he hXY
                go_wp2_with fail
                refine (LAB.out _ HBR.out).mono ?_
                rintro e w37 ⟨rfl, hb37⟩
                have HB37 := Lib.hid hb37
                clear hb37
                go_wp2_with fail
                refine (LBA.out _ HB37.out).mono ?_
                rintro e w38 ⟨rfl, hb38⟩
                have HB38 := Lib.hid hb38
                clear hb38
                go_wp2_with fail
                refine (LAA.out _ HB38.out).mono ?_
                rintro e w39 ⟨rfl, hb39⟩
                have HB39 := Lib.hid hb39
                clear hb39
                go_wp2_with fail
                refine (LAB.out _ HB39.out).mono ?_
                rintro e w40 ⟨rfl, hb40⟩
                have HB40 := Lib.hid hb40
                clear hb40
                go_wp2_with fail
                refine (LBC.out _ HB40.out).mono ?_
                rintro e w41 ⟨rfl, hb41⟩
                have HB41 := Lib.hid hb41
                clear hb41
                go_wp2_with fail
                refine (BBA.out _ HB41.out).mono ?_
                rintro e w42 ⟨rfl, hb42⟩
                have HB42 := Lib.hid hb42
                clear hb42
                go_wp2_with fail
                refine (LAB.out _ HB42.out).mono ?_
                rintro e w43 ⟨rfl, hb43⟩
                have HB43 := Lib.hid hb43
                clear hb43
                go_wp2_with fail
                refine (BCA.out _ HB43.out).mono ?_
                rintro e w44 ⟨rfl, hb44⟩
                have HB44 := Lib.hid hb44
                clear hb44
                go_wp2_with fail
                go_ret
                exact ⟨rfl, HB44.out⟩
              · clear F1 F3 F4 F5 F6 he hXY
                go_wp2_with fail
                refine (LAB.out _ HBR.out).mono ?_
                rintro e w45 ⟨rfl, hb45⟩
                have HB45 := Lib.hid hb45
                clear hb45
                go_wp2_with fail
                refine (LBA.out _ HB45.out).mono ?_
                rintro e w46 ⟨rfl, hb46⟩
                have HB46 := Lib.hid hb46
                clear hb46
                go_wp2_with fail
                refine (LAA.out _ HB46.out).mono ?_
                rintro e w47 ⟨rfl, hb47⟩
                have HB47 := Lib.hid hb47
                clear hb47
                go_wp2_with fail
                refine (LAB.out _ HB47.out).mono ?_
                rintro e w48 ⟨rfl, hb48⟩
                have HB48 := Lib.hid hb48
                clear hb48
                go_wp2_with fail
                refine (LBC.out _ HB48.out).mono ?_
                rintro e w49 ⟨rfl, hb49⟩
                have HB49 := Lib.hid hb49
                clear hb49
                go_wp2_with fail
                refine (BBA.out _ HB49.out).mono ?_
                rintro e w50 ⟨rfl, hb50⟩
                have HB50 := Lib.hid hb50
                clear hb50
                go_wp2_with fail
                refine (LAB.out _ HB50.out).mono ?_
                rintro e w51 ⟨rfl, hb51⟩
                have HB51 := Lib.hid hb51
                clear hb51
                go_wp2_with fail
                refine (BCA.out _ HB51.out).mono ?_
                rintro e w52 ⟨rfl, hb52⟩
                have HB52 := Lib.hid hb52
                clear hb52
                go_wp2_with fail
                refine (LAB.out _ HB52.out).mono ?_
                rintro e w53 ⟨rfl, hb53⟩
                have HB53 := Lib.hid hb53
                clear hb53
                go_wp2_with fail
                refine (LBC.out _ HB53.out).mono ?_
                rintro e w54 ⟨rfl, hb54⟩
                have HB54 := Lib.hid hb54
                clear hb54
                go_wp2_with fail
                go_ret
                exact ⟨rfl, HB54.out⟩
          · obtain rfl : V = true := F3.out rfl rfl
            cases BA
            · cases CA
              · clear F1 F3 F4 F5 F6 he hXY
                go_wp2_with fail
                refine (LAB.out _ HBR.out).mono ?_
                rintro e w55 ⟨rfl, hb55⟩
                have HB55 := Lib.hid hb55
                clear hb55
                go_wp2_with fail
                refine (LBA.out _ HB55.out).mono ?_
                rintro e w56 ⟨rfl, hb56⟩
                have HB56 := Lib.hid hb56
                clear hb56
                go_wp2_with fail
                refine (LAA.out _ HB56.out).mono ?_
                rintro e w57 ⟨rfl, hb57⟩
                have HB57 := Lib.hid hb57
                clear hb57
                go_wp2_with fail
                refine (LAB.out _ HB57.out).mono ?_
                rintro e w58 ⟨rfl, hb58⟩
                have HB58 := Lib.hid hb58
                clear hb58
                go_wp2_with fail
                refine (LBC.out _ HB58.out).mono ?_
                rintro e w59 ⟨rfl, hb59⟩
                have HB59 := Lib.hid hb59
                clear hb59
                go_wp2_with fail
                refine (LAC.out _ HB59.out).mono ?_
                rintro e w60 ⟨rfl, hb60⟩
                have HB60 := Lib.hid hb60
                clear hb60
                go_wp2_with fail
                refine (BBA.out _ HB60.out).mono ?_
                rintro e w61 ⟨rfl, hb61⟩
                have HB61 := Lib.hid hb61
                clear hb61
                go_wp2_with fail
                refine (BCA.out _ HB61.out).mono ?_
                rintro e w62 ⟨rfl, hb62⟩
                have HB62 := Lib.hid hb62
                clear hb62
                go_wp2_with fail
                go_ret
                exact ⟨rfl, HB62.out⟩
              · have := F5.out rfl rfl rfl; cases this
            · cases CA
              · clear F1 F3 F4 F5 F6 he hXY
                go_wp2_with fail
                refine (LAB.out _ HBR.out).mono ?_
                rintro e w63 ⟨rfl, hb63⟩
                have HB63 := Lib.hid hb63
                clear hb63
                go_wp2_with fail
                refine (LBA.out _ HB63.out).mono ?_
                rintro e w64 ⟨rfl, hb64⟩
                have HB64 := Lib.hid hb64
                clear hb64
                go_wp2_with fail
                refine (LAA.out _ HB64.out).mono ?_
                rintro e w65 ⟨rfl, hb65⟩
                have HB65 := Lib.hid hb65
                clear hb65
                go_wp2_with fail
                refine (LAB.out _ HB65.out).mono ?_
                rintro e w66 ⟨rfl, hb66⟩
                have HB66 := Lib.hid hb66
                clear hb66
                go_wp2_with fail
                refine (LBC.out _ HB66.out).mono ?_
                rintro e w67 ⟨rfl, hb67⟩
                have HB67 := Lib.hid hb67
                clear hb67
                go_wp2_with fail
                refine (LAC.out _ HB67.out).mono ?_
                rintro e w68 ⟨rfl, hb68⟩
                have HB68 := Lib.hid hb68
                clear hb68
                go_wp2_with fail
                refine (BBA.out _ HB68.out).mono ?_
                rintro e w69 ⟨rfl, hb69⟩
                have HB69 := Lib.hid hb69
                clear hb69
                go_wp2_with fail
                refine (LAB.out _ HB69.out).mono ?_
                rintro e w70 ⟨rfl, hb70⟩
                have HB70 := Lib.hid hb70
                clear hb70
                go_wp2_with fail
                refine (BCA.out _ HB70.out).mono ?_
                rintro e w71 ⟨rfl, hb71⟩
                have HB71 := Lib.hid hb71
                clear hb71
                go_wp2_with fail
                go_ret
                exact ⟨rfl, HB71.out⟩
              · clear F1 F3 F4 F5 F6 he hXY
                go_wp2_with fail
                refine (LAB.out _ HBR.out).mono ?_
                rintro e w72 ⟨rfl, hb72⟩
                have HB72 := Lib.hid hb72
                clear hb72
                go_wp2_with fail
                refine (LBA.out _ HB72.out).mono ?_
                rintro e w73 ⟨rfl, hb73⟩
                have HB73 := Lib.hid hb73
                clear hb73
                go_wp2_with fail
                refine (LAA.out _ HB73.out).mono ?_
                rintro e w74 ⟨rfl, hb74⟩
                have HB74 := Lib.hid hb74
                clear hb74
                go_wp2_with fail
                refine (LAB.out _ HB74.out).mono ?_
                rintro e w75 ⟨rfl, hb75⟩
                have HB75 := Lib.hid hb75
                clear hb75
                go_wp2_with fail
                refine (LBC.out _ HB75.out).mono ?_
                rintro e w76 ⟨rfl, hb76⟩
                have HB76 := Lib.hid hb76
                clear hb76
                go_wp2_with fail
                refine (LAC.out _ HB76.out).mono ?_
                rintro e w77 ⟨rfl, hb77⟩
                have HB77 := Lib.hid hb77
                clear hb77
                go_wp2_with fail
                refine (BBA.out _ HB77.out).mono ?_
                rintro e w78 ⟨rfl, hb78⟩
                have HB78 := Lib.hid hb78
                clear hb78
                go_wp2_with fail
                refine (LAB.out _ HB78.out).mono ?_
                rintro e w79 ⟨rfl, hb79⟩
                have HB79 := Lib.hid hb79
                clear hb79
                go_wp2_with fail
                refine (BCA.out _ HB79.out).mono ?_
                rintro e w80 ⟨rfl, hb80⟩
                have HB80 := Lib.hid hb80
                clear hb80
                go_wp2_with fail
                refine (LAB.out _ HB80.out).mono ?_
                rintro e w81 ⟨rfl, hb81⟩
                have HB81 := Lib.hid hb81
                clear hb81
                go_wp2_with fail
                refine (LBC.out _ HB81.out).mono ?_
                rintro e w82 ⟨rfl, hb82⟩
                have HB82 := Lib.hid hb82
                clear hb82
                go_wp2_with fail
                refine (BBA.out _ HB82.out).mono ?_
                rintro e w83 ⟨rfl, hb83⟩
                have HB83 := Lib.hid hb83
                clear hb83
                go_wp2_with fail
                go_ret
                exact ⟨rfl, HB83.out⟩
    · have hcl := cell_of_row wr B 0 _ _ _ HRW.out
      simp only [List.getElem?_toArray, List.getElem?_cons_zero] at hcl
      go_wp2_with fail
      refine (HSP.out a m wr (by omega) (HM.out.below HBR.out) (HT.out.below HBR.out)).mono ?_
      rintro e w4 ⟨hb4, hr⟩
      have HB4 := Lib.hid (Below.step HBR.out hb4)
      have HR4 := Lib.hid ((hb4.block _ (lt_of_block HRW.out)).trans HRW.out)
      clear hb4 hcl
      rcases hr with ⟨hok, a1, c1, L1, rfl, _⟩ | ⟨hno, rfl⟩
      · have HO := Lib.hid hok
        clear hok
        go_wp2_with fail
        go_roundw
        case rel => exact ⟨1, by omega, by go_num, HB4, HR4, Lib.hid ⟨fun _ => HO.out, by omega, by omega⟩⟩
        case measure => simp [intOf]
      · have f1 : ((splP ck (bT a)).2 != 0) = true := by simpa using hno
        clear hno
        generalize (splP ck (bT a)).2 = q at *
        go_wp2_with fail
        go_ret
        exact ⟨rfl, HB4.out⟩
    · have hcl := cell_of_row wr B 1 _ _ _ HRW.out
      simp only [List.getElem?_toArray, List.getElem?_cons_succ, List.getElem?_cons_zero] at hcl
      go_wp2_with fail
      refine (HSP.out b m wr (by omega) (HM.out.below HBR.out) (HT.out.below HBR.out)).mono ?_
      rintro e w4 ⟨hb4, hr⟩
      have HB4 := Lib.hid (Below.step HBR.out hb4)
      have HR4 := Lib.hid ((hb4.block _ (lt_of_block HRW.out)).trans HRW.out)
      clear hb4 hcl
      rcases hr with ⟨hok, a1, c1, L1, rfl, _⟩ | ⟨hno, rfl⟩
      · have HO := Lib.hid hok
        clear hok
        go_wp2_with fail
        go_roundw
        case rel => exact ⟨2, by omega, by go_num, HB4, HR4, Lib.hid ⟨fun _ => HOK.out.1 (by decide), fun _ => HO.out, by omega⟩⟩
        case measure => simp [intOf]
      · have f1 : ((splP ck (bT b)).2 != 0) = true := by simpa using hno
        clear hno
        generalize (splP ck (bT b)).2 = q at *
        go_wp2_with fail
        go_ret
        exact ⟨rfl, HB4.out⟩
    · have hcl := cell_of_row wr B 2 _ _ _ HRW.out
      simp only [List.getElem?_toArray, List.getElem?_cons_succ, List.getElem?_cons_zero] at hcl
      go_wp2_with fail
      refine (HSP.out c m wr (by omega) (HM.out.below HBR.out) (HT.out.below HBR.out)).mono ?_
      rintro e w4 ⟨hb4, hr⟩
      have HB4 := Lib.hid (Below.step HBR.out hb4)
      have HR4 := Lib.hid ((hb4.block _ (lt_of_block HRW.out)).trans HRW.out)
      clear hb4 hcl
      rcases hr with ⟨hok, a1, c1, L1, rfl, _⟩ | ⟨hno, rfl⟩
      · have HO := Lib.hid hok
        clear hok
        go_wp2_with fail
        go_roundw
        case rel => exact ⟨3, by omega, by go_num, HB4, HR4, Lib.hid ⟨fun _ => HOK.out.1 (by decide), fun _ => HOK.out.2.1 (by decide), fun _ => HO.out⟩⟩
        case measure => simp [intOf]
      · have f1 : ((splP ck (bT c)).2 != 0) = true := by simpa using hno
        clear hno
        generalize (splP ck (bT c)).2 = q at *
        go_wp2_with fail
        go_ret
        exact ⟨rfl, HB4.out⟩
end Go.Proofs.YtokckcmkbnhhhaaDoor
