/- The law DeltaJoins, walked. Printed by wip/gen_deltajoins.py. -/
import Derived.Test.YtokckcmkbnhhhaaDoorDeltaBackW
namespace Go.Proofs.YtokckcmkbnhhhaaDoor
open Go.RowKit Plain
theorem self_code {l n n0 : List Ed} {code : Int} (h1 : code = (if ecode l ≠ 0 then ecode l else if ecode l ≠ 0 then ecode l else if 200 < n0.length then 2 else 0)) (h2 : ecode l = 0 → ecode l = 0 → Joi nk l l n0) (h3 : code = 0 → n = n0) : code = ecode l ∧ (ecode l = 0 → n = l) := by
  by_cases h : ecode l = 0
  · have hj := joi_self (h2 h h) (ecode_zero h).2.2.2
    subst hj
    have hl := (ecode_zero h).1
    rw [three_of h h, if_neg (by omega)] at h1
    exact ⟨by rw [h1, h], fun _ => h3 h1⟩
  · rw [if_pos h] at h1
    exact ⟨h1, fun g => absurd g h⟩
def edA : Ed := (⟨#[47, 97]⟩, true, zIt)
theorem ecode_edA : ecode [edA] = 0 := by
  refine ecode_of (by simp) (fun x hx => ?_) (fun x hx => ?_) ?_
  · obtain rfl : x = edA := by simpa using hx
    decide
  · obtain rfl : x = edA := by simpa using hx
    exact ⟨fun _ => rfl, fun h => by cases h⟩
  · exact Srt.cons (by simp) Srt.nil
theorem ecode_nilE : ecode [] = 0 := by unfold ecode; rw [if_neg (by simp)]; rfl
theorem joi_edA {n : List Ed} (h : Joi nk [edA] [] n) : n.length = 1 := by
  obtain ⟨M, hM, rfl⟩ := h
  cases hM with
  | left _ hM =>
    cases hM
    rfl
theorem joins_same {la lb lc u v s t : List Ed} (h : Joi nk la lb u) (g : Joi nk lb lc v) (j : Joi nk u lc s) (d : Joi nk la v t) (ha : ecode la = 0) (hb : ecode lb = 0) (hc : ecode lc = 0) : s = t :=
  joi_assoc h g j d (ecode_zero ha).2.2.2 (ecode_zero hb).2.2.2 (ecode_zero hc).2.2.2
theorem app_same {a b c x : List It} {l m n : List Ed} (h : App nk Prod.fst a l b) (g : App nk Prod.fst b m c) (j : Joi nk l m n) (d : App nk Prod.fst a n x) (ha : wcode a = 0) (hl : ecode l = 0) (hm : ecode m = 0) : x = c :=
  app_joi h g j d (wcode_zero ha).2.2 (ecode_zero hl).2.2.2 (ecode_zero hm).2.2.2 (ecode_zero hl).2.2.1 (ecode_zero hm).2.2.1
set_option maxRecDepth 100000 in
set_option maxHeartbeats 8000000 in
theorem deltaJoins_any (av aa' ab ac : Option Addr) (cv ca' cb cc : Nat) (lv : List It) (la lb lc : List Ed) (m : Int) (w : World) (hv : SAt 5 iC w av lv) (ha : SAt 7 eC w aa' la) (hb : SAt 7 eC w ab lb) (hc : SAt 7 eC w ac lc) (hlv : lv.length ≤ cv) (hla : la.length ≤ ca') (hlb : lb.length ≤ cb) (hlc : lc.length ≤ cc) (hcv : cv ≤ 9223372036854775807) (hca : ca' ≤ 9223372036854775807) (hcb : cb ≤ 9223372036854775807) (hcc : cc ≤ 9223372036854775807) (hsv : ∀ x ∈ lv, x.1.size ≤ 1048576) (hsa : ∀ x ∈ la, szE x) (hsb : ∀ y ∈ lb, szE y) (hsc : ∀ y ∈ lc, szE y) (hm : MaxL m w) (hT : Tabs w) :
    Calls Tryd.prog 13 #[.slice av lv.length cv, .slice aa' la.length ca', .slice ab lb.length cb, .slice ac lc.length cc] w fun e w' => e = .returned (.bool true) ∧ Below w.heap.size w w' := by
  have HV := Lib.hid hv
  have HA := Lib.hid ha
  have HB := Lib.hid hb
  have HC := Lib.hid hc
  have HSV := Lib.hid hsv
  have HSA := Lib.hid hsa
  have HSB := Lib.hid hsb
  have HSC := Lib.hid hsc
  have HM := Lib.hid hm
  have HT := Lib.hid hT
  have HJO := Lib.hid join_any'
  have HAP := Lib.hid applied_any
  have HEC := Lib.hid echeck_any
  have HEQ := Lib.hid eqIts_any
  have HEE := Lib.hid eqEds_any
  have HB0 : Hid (Below w.heap.size w (w.alloc (.cells (eC edA).toArray 72))) := (Below.refl _ _).alloc (Nat.le_refl _) _
  have HO0 : Hid (SAt 7 eC (w.alloc (.cells (eC edA).toArray 72)) (some ⟨w.heap.size, 0, none⟩) [edA]) := by
    intro i hi
    obtain rfl : i = 0 := by simpa using hi
    refine ⟨w.heap.size, 0, rfl, by simp, ?_⟩
    intro j u hu
    rw [cell_of_row _ _ _ _ _ _ (heap_alloc_new w _), List.getElem?_toArray]
    simpa using hu
  clear hv ha hb hc hsv hsa hsb hsc hm hT
  go_enter Tryd.func13, Tryd.ntmps13
  go_wp2_with fail
  refine (HJO.out (some ⟨w.heap.size, 0, none⟩) none 1 0 [edA] [] m _ HO0.out SAt.nil (by decide) (Nat.le_refl _) (by omega) (by omega) (fun x hx => by obtain rfl : x = edA := (by simpa using hx); exact ⟨by decide, by decide⟩) (by simp) (HM.out.below HB0.out) (HT.out.below HB0.out)).mono ?_
  rintro e w1 ⟨hb1, c0, a0, q0, x0, n0, rfl, _, _, _, _, e0, j0, g0, _⟩
  have hn0 := joi_edA (j0 ecode_edA ecode_nilE)
  have hz : c0 = 0 := by rw [e0, three_of ecode_edA ecode_nilE, hn0]; rfl
  have hx0 : x0.length = 1 := by rw [g0 hz]; exact hn0
  subst hz
  have HB1 := Lib.hid (Below.step HB0.out hb1)
  rw [hx0]
  clear hb1 e0 j0 g0 hn0 hx0 HB0 HO0
  go_wp2_with fail
  refine (HJO.out aa' ab ca' cb la lb m w1 (HA.out.below HB1.out) (HB.out.below HB1.out) hla hlb hca hcb HSA.out HSB.out (HM.out.below HB1.out) (HT.out.below HB1.out)).mono ?_
  rintro e w2 ⟨hb2, c1, a1', q1, lm, n1, rfl, u1, v1, s1, z1, e1, j1, g1, _⟩
  have HB2 := Lib.hid (Below.step HB1.out hb2)
  have HS2 := Lib.hid s1
  have HZ1 := Lib.hid z1
  have HF1 : Hid (c1 = 0 → lm = n1 ∧ Joi nk la lb n1 ∧ ecode la = 0 ∧ ecode lb = 0 ∧ n1.length ≤ 200) := fun h => by
    obtain ⟨p1, p2, p3⟩ := three_zero (e1.symm.trans h)
    exact ⟨g1 h, j1 p1 p2, p1, p2, p3⟩
  clear hb2 s1 z1 e1 j1 g1 HB1
  go_wp2_with fail
  refine (HAP.out av aa' cv ca' lv la m w2 (HV.out.below HB2.out) (HA.out.below HB2.out) hlv hla hcv hca HSV.out HSA.out (HM.out.below HB2.out) (HT.out.below HB2.out)).mono ?_
  rintro e w3 ⟨hb3, ok1, a3, q3, b3, rfl, u3, v3, s3, z3, k3, _⟩
  have HB3 := Lib.hid (Below.step HB2.out hb3)
  have HS3 := Lib.hid s3
  have HZ3 := Lib.hid z3
  have HK3 := Lib.hid k3
  have HSM := Lib.hid (HS2.out.below hb3)
  clear hb3 s3 z3 k3 HS2 HB2
  cases ok1 with
  | false =>
    clear HK3 HS3 HZ3
    go_wp2_with fail
    refine (HJO.out aa' aa' ca' ca' la la m w3 (HA.out.below HB3.out) (HA.out.below HB3.out) hla hla hca hca HSA.out HSA.out (HM.out.below HB3.out) (HT.out.below HB3.out)).mono ?_
    rintro e w20 ⟨hb20, c2, a20, q20, ll, n2, rfl, u20, v20, s20, _, e20, j20, g20, _⟩
    have HB20 := Lib.hid (Below.step HB3.out hb20)
    have HS20 := Lib.hid s20
    have HSM2 := Lib.hid (HSM.out.below hb20)
    obtain ⟨rfl, hll⟩ := self_code e20 j20 g20
    have HLL := Lib.hid hll
    clear hb20 s20 e20 j20 g20 hll
    go_wp2_with fail
    refine (HEC.out aa' ca' la m w20 (HA.out.below HB20.out) (by omega) (fun x hx => (HSA.out x hx).1) (HM.out.below HB20.out) (HT.out.below HB20.out)).mono ?_
    rintro e w21 ⟨rfl, hb21⟩
    have HB21 := Lib.hid (Below.step HB20.out hb21)
    have HS21 := Lib.hid (HS20.out.below hb21)
    have HSM21 := Lib.hid (HSM2.out.below hb21)
    have k1 : (ecode la != ecode la) = false := by simp
    clear hb21 HS20 HSM2 HB20
    by_cases hel : ecode la = 0
    · obtain rfl := HLL.out hel
      rw [hel]
      rw [hel] at k1
      clear hel
      go_wp2_with fail
      refine (HEE.out a20 aa' q20 ca' ll ll w21 HS21.out (HA.out.below HB21.out) (by omega) (by omega)).mono ?_
      rintro e w22 ⟨⟨r, rfl, hr⟩, hb22⟩
      obtain rfl : r = true := hr.2 rfl
      have HB22 := Lib.hid (Below.step HB21.out hb22)
      have HSM22 := Lib.hid (HSM21.out.below hb22)
      clear hr hb22 HS21 HSM21 HB21
      go_wp2_with fail
      refine (HJO.out ab ac cb cc lb lc m w22 (HB.out.below HB22.out) (HC.out.below HB22.out) hlb hlc hcb hcc HSB.out HSC.out (HM.out.below HB22.out) (HT.out.below HB22.out)).mono ?_
      rintro e w30 ⟨hb30, c3, a30, q30, mn, n3, rfl, u30, v30, s30, z30, e30, j30, g30, _⟩
      have HB30 := Lib.hid (Below.step HB22.out hb30)
      have HS30 := Lib.hid s30
      have HZ30 := Lib.hid z30
      have HSM3 := Lib.hid (HSM22.out.below hb30)
      have HF30 : Hid (c3 = 0 → mn = n3 ∧ Joi nk lb lc n3 ∧ ecode lb = 0 ∧ ecode lc = 0 ∧ n3.length ≤ 200) := fun h => by
        obtain ⟨p1, p2, p3⟩ := three_zero (e30.symm.trans h)
        exact ⟨g30 h, j30 p1 p2, p1, p2, p3⟩
      clear hb30 s30 z30 e30 j30 g30
      by_cases hc1 : c1 = 0
      · by_cases hc3 : c3 = 0
        · obtain ⟨rfl, hj1, p1, p2, p3⟩ := HF1.out hc1
          obtain ⟨rfl, hj3, p4, p5, p6⟩ := HF30.out hc3
          have HJ1 := Lib.hid hj1
          have HJ3 := Lib.hid hj3
          have HL := Lib.hid p1
          have HMM := Lib.hid p2
          have HN := Lib.hid p5
          have HLM := Lib.hid (joi_ecode hj1 p1 p2 p3)
          have HMN := Lib.hid (joi_ecode hj3 p4 p5 p6)
          subst hc1 hc3
          clear hj1 hj3 p1 p2 p3 p4 p5 p6 HF1 HF30
          go_wp2_with fail
          refine (HJO.out a1' ac q1 cc lm lc m w30 HSM3.out (HC.out.below HB30.out) u1 hlc v1 hcc HZ1.out HSC.out (HM.out.below HB30.out) (HT.out.below HB30.out)).mono ?_
          rintro e w31 ⟨hb31, c4, a31, q31, x4, n4, rfl, u31, v31, s31, _, e31, j31, g31, k31⟩
          have HB31 := Lib.hid (Below.step HB30.out hb31)
          have HS31 := Lib.hid s31
          have HS30' := Lib.hid (HS30.out.below hb31)
          have HJ4 := Lib.hid (j31 HLM.out HN.out)
          have HE4 : Hid (c4 = if 200 < n4.length then (2 : Int) else 0) := e31.trans (three_of HLM.out HN.out)
          have HG4 : Hid (x4 = if c4 = 0 then n4 else []) := by
            show _ = _
            by_cases h : c4 = 0
            · rw [if_pos h]; exact g31 h
            · rw [if_neg h]; exact k31 h
          clear hb31 s31 e31 j31 g31 k31 HS30 HB30
          go_wp2_with fail
          refine (HJO.out aa' a30 ca' q30 ll mn m w31 (HA.out.below HB31.out) HS30'.out hla u30 hca v30 HSA.out HZ30.out (HM.out.below HB31.out) (HT.out.below HB31.out)).mono ?_
          rintro e w32 ⟨hb32, c5, a32, q32, x5, n5, rfl, u32, v32, s32, _, e32, j32, g32, k32⟩
          have HB32 := Lib.hid (Below.step HB31.out hb32)
          have HS32 := Lib.hid s32
          have HS31' := Lib.hid (HS31.out.below hb32)
          have hn : n4 = n5 := joins_same HJ1.out HJ3.out HJ4.out (j32 HL.out HMN.out) HL.out HMM.out HN.out
          have hc : c4 = c5 := by
            rw [HE4.out, e32, three_of HL.out HMN.out, hn]
          have hx : x4 = x5 := by
            rw [HG4.out]
            by_cases h : c4 = 0
            · rw [if_pos h, hn]; exact (g32 (hc ▸ h)).symm
            · rw [if_neg h]; exact (k32 (hc ▸ h)).symm
          subst hc hx
          clear hb32 s32 e32 j32 g32 k32 hn HS31 HB31 HE4 HG4 HJ4
          go_wp2_with fail
          refine (HEE.out a31 a32 q31 q32 x4 x4 w32 HS31'.out HS32.out (by omega) (by omega)).mono ?_
          rintro e w33 ⟨⟨r, rfl, hr⟩, hb33⟩
          obtain rfl : r = true := hr.2 rfl
          have HB33 := Lib.hid (Below.step HB32.out hb33)
          clear hr hb33
          go_wp2_with fail
          go_ret
          exact ⟨rfl, HB33.out⟩
        · have g1 : (c3 != 0) = true := by simpa using hc3
          subst hc1
          clear hc3
          go_wp2_with fail
          go_ret
          exact ⟨rfl, HB30.out⟩
      · have g1 : (c1 != 0) = true := by simpa using hc1
        clear hc1
        go_wp2_with fail
        go_ret
        exact ⟨rfl, HB30.out⟩
    · have k2 : (ecode la == 0) = false := beq_eq_false_iff_ne.2 hel
      clear HLL HS21
      generalize ecode la = k0 at k1 k2 ⊢
      go_wp2_with fail
      refine (HJO.out ab ac cb cc lb lc m w21 (HB.out.below HB21.out) (HC.out.below HB21.out) hlb hlc hcb hcc HSB.out HSC.out (HM.out.below HB21.out) (HT.out.below HB21.out)).mono ?_
      rintro e w30 ⟨hb30, c3, a30, q30, mn, n3, rfl, u30, v30, s30, z30, e30, j30, g30, _⟩
      have HB30 := Lib.hid (Below.step HB21.out hb30)
      have HS30 := Lib.hid s30
      have HZ30 := Lib.hid z30
      have HSM3 := Lib.hid (HSM21.out.below hb30)
      have HF30 : Hid (c3 = 0 → mn = n3 ∧ Joi nk lb lc n3 ∧ ecode lb = 0 ∧ ecode lc = 0 ∧ n3.length ≤ 200) := fun h => by
        obtain ⟨p1, p2, p3⟩ := three_zero (e30.symm.trans h)
        exact ⟨g30 h, j30 p1 p2, p1, p2, p3⟩
      clear hb30 s30 z30 e30 j30 g30
      by_cases hc1 : c1 = 0
      · by_cases hc3 : c3 = 0
        · obtain ⟨rfl, hj1, p1, p2, p3⟩ := HF1.out hc1
          obtain ⟨rfl, hj3, p4, p5, p6⟩ := HF30.out hc3
          have HJ1 := Lib.hid hj1
          have HJ3 := Lib.hid hj3
          have HL := Lib.hid p1
          have HMM := Lib.hid p2
          have HN := Lib.hid p5
          have HLM := Lib.hid (joi_ecode hj1 p1 p2 p3)
          have HMN := Lib.hid (joi_ecode hj3 p4 p5 p6)
          subst hc1 hc3
          clear hj1 hj3 p1 p2 p3 p4 p5 p6 HF1 HF30
          go_wp2_with fail
          refine (HJO.out a1' ac q1 cc lm lc m w30 HSM3.out (HC.out.below HB30.out) u1 hlc v1 hcc HZ1.out HSC.out (HM.out.below HB30.out) (HT.out.below HB30.out)).mono ?_
          rintro e w31 ⟨hb31, c4, a31, q31, x4, n4, rfl, u31, v31, s31, _, e31, j31, g31, k31⟩
          have HB31 := Lib.hid (Below.step HB30.out hb31)
          have HS31 := Lib.hid s31
          have HS30' := Lib.hid (HS30.out.below hb31)
          have HJ4 := Lib.hid (j31 HLM.out HN.out)
          have HE4 : Hid (c4 = if 200 < n4.length then (2 : Int) else 0) := e31.trans (three_of HLM.out HN.out)
          have HG4 : Hid (x4 = if c4 = 0 then n4 else []) := by
            show _ = _
            by_cases h : c4 = 0
            · rw [if_pos h]; exact g31 h
            · rw [if_neg h]; exact k31 h
          clear hb31 s31 e31 j31 g31 k31 HS30 HB30
          go_wp2_with fail
          refine (HJO.out aa' a30 ca' q30 la mn m w31 (HA.out.below HB31.out) HS30'.out hla u30 hca v30 HSA.out HZ30.out (HM.out.below HB31.out) (HT.out.below HB31.out)).mono ?_
          rintro e w32 ⟨hb32, c5, a32, q32, x5, n5, rfl, u32, v32, s32, _, e32, j32, g32, k32⟩
          have HB32 := Lib.hid (Below.step HB31.out hb32)
          have HS32 := Lib.hid s32
          have HS31' := Lib.hid (HS31.out.below hb32)
          have hn : n4 = n5 := joins_same HJ1.out HJ3.out HJ4.out (j32 HL.out HMN.out) HL.out HMM.out HN.out
          have hc : c4 = c5 := by
            rw [HE4.out, e32, three_of HL.out HMN.out, hn]
          have hx : x4 = x5 := by
            rw [HG4.out]
            by_cases h : c4 = 0
            · rw [if_pos h, hn]; exact (g32 (hc ▸ h)).symm
            · rw [if_neg h]; exact (k32 (hc ▸ h)).symm
          subst hc hx
          clear hb32 s32 e32 j32 g32 k32 hn HS31 HB31 HE4 HG4 HJ4
          go_wp2_with fail
          refine (HEE.out a31 a32 q31 q32 x4 x4 w32 HS31'.out HS32.out (by omega) (by omega)).mono ?_
          rintro e w33 ⟨⟨r, rfl, hr⟩, hb33⟩
          obtain rfl : r = true := hr.2 rfl
          have HB33 := Lib.hid (Below.step HB32.out hb33)
          clear hr hb33
          go_wp2_with fail
          go_ret
          exact ⟨rfl, HB33.out⟩
        · have g1 : (c3 != 0) = true := by simpa using hc3
          subst hc1
          clear hc3
          go_wp2_with fail
          go_ret
          exact ⟨rfl, HB30.out⟩
      · have g1 : (c1 != 0) = true := by simpa using hc1
        clear hc1
        go_wp2_with fail
        go_ret
        exact ⟨rfl, HB30.out⟩
  | true =>
    by_cases hc1 : c1 = 0
    · have k4 : (c1 == 0) = true := by simpa using hc1
      have HC1 := Lib.hid hc1
      clear hc1
      go_wp2_with fail
      refine (HAP.out a3 ab q3 cb b3 lb m w3 HS3.out (HB.out.below HB3.out) u3 hlb v3 hcb HZ3.out HSB.out (HM.out.below HB3.out) (HT.out.below HB3.out)).mono ?_
      rintro e w4 ⟨hb4, ok2, a4, q4, b4, rfl, u4, v4, s4, z4, k4', _⟩
      have HB4 := Lib.hid (Below.step HB3.out hb4)
      have HS4 := Lib.hid s4
      have HK4 := Lib.hid k4'
      have HSM4 := Lib.hid (HSM.out.below hb4)
      clear hb4 s4 z4 k4' HSM HB3 HS3 HZ3
      cases ok2 with
      | false =>
        clear HK3 HK4 HS4 HC1
        go_wp2_with fail
        refine (HJO.out aa' aa' ca' ca' la la m w4 (HA.out.below HB4.out) (HA.out.below HB4.out) hla hla hca hca HSA.out HSA.out (HM.out.below HB4.out) (HT.out.below HB4.out)).mono ?_
        rintro e w20 ⟨hb20, c2, a20, q20, ll, n2, rfl, u20, v20, s20, _, e20, j20, g20, _⟩
        have HB20 := Lib.hid (Below.step HB4.out hb20)
        have HS20 := Lib.hid s20
        have HSM2 := Lib.hid (HSM4.out.below hb20)
        obtain ⟨rfl, hll⟩ := self_code e20 j20 g20
        have HLL := Lib.hid hll
        clear hb20 s20 e20 j20 g20 hll
        go_wp2_with fail
        refine (HEC.out aa' ca' la m w20 (HA.out.below HB20.out) (by omega) (fun x hx => (HSA.out x hx).1) (HM.out.below HB20.out) (HT.out.below HB20.out)).mono ?_
        rintro e w21 ⟨rfl, hb21⟩
        have HB21 := Lib.hid (Below.step HB20.out hb21)
        have HS21 := Lib.hid (HS20.out.below hb21)
        have HSM21 := Lib.hid (HSM2.out.below hb21)
        have k1 : (ecode la != ecode la) = false := by simp
        clear hb21 HS20 HSM2 HB20
        by_cases hel : ecode la = 0
        · obtain rfl := HLL.out hel
          rw [hel]
          rw [hel] at k1
          clear hel
          go_wp2_with fail
          refine (HEE.out a20 aa' q20 ca' ll ll w21 HS21.out (HA.out.below HB21.out) (by omega) (by omega)).mono ?_
          rintro e w22 ⟨⟨r, rfl, hr⟩, hb22⟩
          obtain rfl : r = true := hr.2 rfl
          have HB22 := Lib.hid (Below.step HB21.out hb22)
          have HSM22 := Lib.hid (HSM21.out.below hb22)
          clear hr hb22 HS21 HSM21 HB21
          go_wp2_with fail
          refine (HJO.out ab ac cb cc lb lc m w22 (HB.out.below HB22.out) (HC.out.below HB22.out) hlb hlc hcb hcc HSB.out HSC.out (HM.out.below HB22.out) (HT.out.below HB22.out)).mono ?_
          rintro e w30 ⟨hb30, c3, a30, q30, mn, n3, rfl, u30, v30, s30, z30, e30, j30, g30, _⟩
          have HB30 := Lib.hid (Below.step HB22.out hb30)
          have HS30 := Lib.hid s30
          have HZ30 := Lib.hid z30
          have HSM3 := Lib.hid (HSM22.out.below hb30)
          have HF30 : Hid (c3 = 0 → mn = n3 ∧ Joi nk lb lc n3 ∧ ecode lb = 0 ∧ ecode lc = 0 ∧ n3.length ≤ 200) := fun h => by
            obtain ⟨p1, p2, p3⟩ := three_zero (e30.symm.trans h)
            exact ⟨g30 h, j30 p1 p2, p1, p2, p3⟩
          clear hb30 s30 z30 e30 j30 g30
          by_cases hc1 : c1 = 0
          · by_cases hc3 : c3 = 0
            · obtain ⟨rfl, hj1, p1, p2, p3⟩ := HF1.out hc1
              obtain ⟨rfl, hj3, p4, p5, p6⟩ := HF30.out hc3
              have HJ1 := Lib.hid hj1
              have HJ3 := Lib.hid hj3
              have HL := Lib.hid p1
              have HMM := Lib.hid p2
              have HN := Lib.hid p5
              have HLM := Lib.hid (joi_ecode hj1 p1 p2 p3)
              have HMN := Lib.hid (joi_ecode hj3 p4 p5 p6)
              subst hc1 hc3
              clear hj1 hj3 p1 p2 p3 p4 p5 p6 HF1 HF30
              go_wp2_with fail
              refine (HJO.out a1' ac q1 cc lm lc m w30 HSM3.out (HC.out.below HB30.out) u1 hlc v1 hcc HZ1.out HSC.out (HM.out.below HB30.out) (HT.out.below HB30.out)).mono ?_
              rintro e w31 ⟨hb31, c4, a31, q31, x4, n4, rfl, u31, v31, s31, _, e31, j31, g31, k31⟩
              have HB31 := Lib.hid (Below.step HB30.out hb31)
              have HS31 := Lib.hid s31
              have HS30' := Lib.hid (HS30.out.below hb31)
              have HJ4 := Lib.hid (j31 HLM.out HN.out)
              have HE4 : Hid (c4 = if 200 < n4.length then (2 : Int) else 0) := e31.trans (three_of HLM.out HN.out)
              have HG4 : Hid (x4 = if c4 = 0 then n4 else []) := by
                show _ = _
                by_cases h : c4 = 0
                · rw [if_pos h]; exact g31 h
                · rw [if_neg h]; exact k31 h
              clear hb31 s31 e31 j31 g31 k31 HS30 HB30
              go_wp2_with fail
              refine (HJO.out aa' a30 ca' q30 ll mn m w31 (HA.out.below HB31.out) HS30'.out hla u30 hca v30 HSA.out HZ30.out (HM.out.below HB31.out) (HT.out.below HB31.out)).mono ?_
              rintro e w32 ⟨hb32, c5, a32, q32, x5, n5, rfl, u32, v32, s32, _, e32, j32, g32, k32⟩
              have HB32 := Lib.hid (Below.step HB31.out hb32)
              have HS32 := Lib.hid s32
              have HS31' := Lib.hid (HS31.out.below hb32)
              have hn : n4 = n5 := joins_same HJ1.out HJ3.out HJ4.out (j32 HL.out HMN.out) HL.out HMM.out HN.out
              have hc : c4 = c5 := by
                rw [HE4.out, e32, three_of HL.out HMN.out, hn]
              have hx : x4 = x5 := by
                rw [HG4.out]
                by_cases h : c4 = 0
                · rw [if_pos h, hn]; exact (g32 (hc ▸ h)).symm
                · rw [if_neg h]; exact (k32 (hc ▸ h)).symm
              subst hc hx
              clear hb32 s32 e32 j32 g32 k32 hn HS31 HB31 HE4 HG4 HJ4
              go_wp2_with fail
              refine (HEE.out a31 a32 q31 q32 x4 x4 w32 HS31'.out HS32.out (by omega) (by omega)).mono ?_
              rintro e w33 ⟨⟨r, rfl, hr⟩, hb33⟩
              obtain rfl : r = true := hr.2 rfl
              have HB33 := Lib.hid (Below.step HB32.out hb33)
              clear hr hb33
              go_wp2_with fail
              go_ret
              exact ⟨rfl, HB33.out⟩
            · have g1 : (c3 != 0) = true := by simpa using hc3
              subst hc1
              clear hc3
              go_wp2_with fail
              go_ret
              exact ⟨rfl, HB30.out⟩
          · have g1 : (c1 != 0) = true := by simpa using hc1
            clear hc1
            go_wp2_with fail
            go_ret
            exact ⟨rfl, HB30.out⟩
        · have k2 : (ecode la == 0) = false := beq_eq_false_iff_ne.2 hel
          clear HLL HS21
          generalize ecode la = k0 at k1 k2 ⊢
          go_wp2_with fail
          refine (HJO.out ab ac cb cc lb lc m w21 (HB.out.below HB21.out) (HC.out.below HB21.out) hlb hlc hcb hcc HSB.out HSC.out (HM.out.below HB21.out) (HT.out.below HB21.out)).mono ?_
          rintro e w30 ⟨hb30, c3, a30, q30, mn, n3, rfl, u30, v30, s30, z30, e30, j30, g30, _⟩
          have HB30 := Lib.hid (Below.step HB21.out hb30)
          have HS30 := Lib.hid s30
          have HZ30 := Lib.hid z30
          have HSM3 := Lib.hid (HSM21.out.below hb30)
          have HF30 : Hid (c3 = 0 → mn = n3 ∧ Joi nk lb lc n3 ∧ ecode lb = 0 ∧ ecode lc = 0 ∧ n3.length ≤ 200) := fun h => by
            obtain ⟨p1, p2, p3⟩ := three_zero (e30.symm.trans h)
            exact ⟨g30 h, j30 p1 p2, p1, p2, p3⟩
          clear hb30 s30 z30 e30 j30 g30
          by_cases hc1 : c1 = 0
          · by_cases hc3 : c3 = 0
            · obtain ⟨rfl, hj1, p1, p2, p3⟩ := HF1.out hc1
              obtain ⟨rfl, hj3, p4, p5, p6⟩ := HF30.out hc3
              have HJ1 := Lib.hid hj1
              have HJ3 := Lib.hid hj3
              have HL := Lib.hid p1
              have HMM := Lib.hid p2
              have HN := Lib.hid p5
              have HLM := Lib.hid (joi_ecode hj1 p1 p2 p3)
              have HMN := Lib.hid (joi_ecode hj3 p4 p5 p6)
              subst hc1 hc3
              clear hj1 hj3 p1 p2 p3 p4 p5 p6 HF1 HF30
              go_wp2_with fail
              refine (HJO.out a1' ac q1 cc lm lc m w30 HSM3.out (HC.out.below HB30.out) u1 hlc v1 hcc HZ1.out HSC.out (HM.out.below HB30.out) (HT.out.below HB30.out)).mono ?_
              rintro e w31 ⟨hb31, c4, a31, q31, x4, n4, rfl, u31, v31, s31, _, e31, j31, g31, k31⟩
              have HB31 := Lib.hid (Below.step HB30.out hb31)
              have HS31 := Lib.hid s31
              have HS30' := Lib.hid (HS30.out.below hb31)
              have HJ4 := Lib.hid (j31 HLM.out HN.out)
              have HE4 : Hid (c4 = if 200 < n4.length then (2 : Int) else 0) := e31.trans (three_of HLM.out HN.out)
              have HG4 : Hid (x4 = if c4 = 0 then n4 else []) := by
                show _ = _
                by_cases h : c4 = 0
                · rw [if_pos h]; exact g31 h
                · rw [if_neg h]; exact k31 h
              clear hb31 s31 e31 j31 g31 k31 HS30 HB30
              go_wp2_with fail
              refine (HJO.out aa' a30 ca' q30 la mn m w31 (HA.out.below HB31.out) HS30'.out hla u30 hca v30 HSA.out HZ30.out (HM.out.below HB31.out) (HT.out.below HB31.out)).mono ?_
              rintro e w32 ⟨hb32, c5, a32, q32, x5, n5, rfl, u32, v32, s32, _, e32, j32, g32, k32⟩
              have HB32 := Lib.hid (Below.step HB31.out hb32)
              have HS32 := Lib.hid s32
              have HS31' := Lib.hid (HS31.out.below hb32)
              have hn : n4 = n5 := joins_same HJ1.out HJ3.out HJ4.out (j32 HL.out HMN.out) HL.out HMM.out HN.out
              have hc : c4 = c5 := by
                rw [HE4.out, e32, three_of HL.out HMN.out, hn]
              have hx : x4 = x5 := by
                rw [HG4.out]
                by_cases h : c4 = 0
                · rw [if_pos h, hn]; exact (g32 (hc ▸ h)).symm
                · rw [if_neg h]; exact (k32 (hc ▸ h)).symm
              subst hc hx
              clear hb32 s32 e32 j32 g32 k32 hn HS31 HB31 HE4 HG4 HJ4
              go_wp2_with fail
              refine (HEE.out a31 a32 q31 q32 x4 x4 w32 HS31'.out HS32.out (by omega) (by omega)).mono ?_
              rintro e w33 ⟨⟨r, rfl, hr⟩, hb33⟩
              obtain rfl : r = true := hr.2 rfl
              have HB33 := Lib.hid (Below.step HB32.out hb33)
              clear hr hb33
              go_wp2_with fail
              go_ret
              exact ⟨rfl, HB33.out⟩
            · have g1 : (c3 != 0) = true := by simpa using hc3
              subst hc1
              clear hc3
              go_wp2_with fail
              go_ret
              exact ⟨rfl, HB30.out⟩
          · have g1 : (c1 != 0) = true := by simpa using hc1
            clear hc1
            go_wp2_with fail
            go_ret
            exact ⟨rfl, HB30.out⟩
      | true =>
        obtain ⟨w1', e1', _, p1'⟩ := HK3.out (by simp)
        obtain ⟨_, e2', w3', p2'⟩ := HK4.out (by simp)
        obtain ⟨f1, f2, f3, f4, f5⟩ := HF1.out HC1.out
        rw [← f1] at f2 f5
        clear f1 f3 f4
        have HLMC := Lib.hid (joi_ecode f2 e1' e2' f5)
        have HSAME : Hid (∀ b', App nk Prod.fst lv lm b' → b' = b4) := fun b' hb' => app_same p1' p2' f2 hb' w1' e1' e2'
        have HWV := Lib.hid w1'
        have HW4 := Lib.hid w3'
        clear w1' e1' p1' e2' w3' p2' f2 f5 HK3 HK4 HC1
        go_wp2_with fail
        refine (HAP.out av a1' cv q1 lv lm m w4 (HV.out.below HB4.out) HSM4.out hlv u1 hcv v1 HSV.out HZ1.out (HM.out.below HB4.out) (HT.out.below HB4.out)).mono ?_
        rintro e w5 ⟨hb5, ok3, a5, q5, b5, rfl, u5, v5, s5, z5, k5, t5⟩
        obtain rfl : ok3 = true := t5 HWV.out HLMC.out (fun b' hb' => by rw [HSAME.out b' hb']; exact HW4.out)
        obtain rfl : b5 = b4 := HSAME.out _ (k5 rfl).2.2.2
        have HB5 := Lib.hid (Below.step HB4.out hb5)
        have HS5 := Lib.hid s5
        have HS45 := Lib.hid (HS4.out.below hb5)
        have HSM5 := Lib.hid (HSM4.out.below hb5)
        clear hb5 s5 z5 k5 t5 HS4 HSM4 HB4 HSAME HWV HW4 HLMC
        go_wp2_with fail
        refine (HEQ.out a4 a5 q4 q5 b5 b5 w5 HS45.out HS5.out (by omega) (by omega)).mono ?_
        rintro e w6 ⟨⟨r, rfl, hr⟩, hb6⟩
        obtain rfl : r = true := hr.2 rfl
        have HB6 := Lib.hid (Below.step HB5.out hb6)
        have HSM6 := Lib.hid (HSM5.out.below hb6)
        clear hr hb6 HS5 HS45 HSM5 HB5
        go_wp2_with fail
        refine (HJO.out aa' aa' ca' ca' la la m w6 (HA.out.below HB6.out) (HA.out.below HB6.out) hla hla hca hca HSA.out HSA.out (HM.out.below HB6.out) (HT.out.below HB6.out)).mono ?_
        rintro e w20 ⟨hb20, c2, a20, q20, ll, n2, rfl, u20, v20, s20, _, e20, j20, g20, _⟩
        have HB20 := Lib.hid (Below.step HB6.out hb20)
        have HS20 := Lib.hid s20
        have HSM2 := Lib.hid (HSM6.out.below hb20)
        obtain ⟨rfl, hll⟩ := self_code e20 j20 g20
        have HLL := Lib.hid hll
        clear hb20 s20 e20 j20 g20 hll
        go_wp2_with fail
        refine (HEC.out aa' ca' la m w20 (HA.out.below HB20.out) (by omega) (fun x hx => (HSA.out x hx).1) (HM.out.below HB20.out) (HT.out.below HB20.out)).mono ?_
        rintro e w21 ⟨rfl, hb21⟩
        have HB21 := Lib.hid (Below.step HB20.out hb21)
        have HS21 := Lib.hid (HS20.out.below hb21)
        have HSM21 := Lib.hid (HSM2.out.below hb21)
        have k1 : (ecode la != ecode la) = false := by simp
        clear hb21 HS20 HSM2 HB20
        by_cases hel : ecode la = 0
        · obtain rfl := HLL.out hel
          rw [hel]
          rw [hel] at k1
          clear hel
          go_wp2_with fail
          refine (HEE.out a20 aa' q20 ca' ll ll w21 HS21.out (HA.out.below HB21.out) (by omega) (by omega)).mono ?_
          rintro e w22 ⟨⟨r, rfl, hr⟩, hb22⟩
          obtain rfl : r = true := hr.2 rfl
          have HB22 := Lib.hid (Below.step HB21.out hb22)
          have HSM22 := Lib.hid (HSM21.out.below hb22)
          clear hr hb22 HS21 HSM21 HB21
          go_wp2_with fail
          refine (HJO.out ab ac cb cc lb lc m w22 (HB.out.below HB22.out) (HC.out.below HB22.out) hlb hlc hcb hcc HSB.out HSC.out (HM.out.below HB22.out) (HT.out.below HB22.out)).mono ?_
          rintro e w30 ⟨hb30, c3, a30, q30, mn, n3, rfl, u30, v30, s30, z30, e30, j30, g30, _⟩
          have HB30 := Lib.hid (Below.step HB22.out hb30)
          have HS30 := Lib.hid s30
          have HZ30 := Lib.hid z30
          have HSM3 := Lib.hid (HSM22.out.below hb30)
          have HF30 : Hid (c3 = 0 → mn = n3 ∧ Joi nk lb lc n3 ∧ ecode lb = 0 ∧ ecode lc = 0 ∧ n3.length ≤ 200) := fun h => by
            obtain ⟨p1, p2, p3⟩ := three_zero (e30.symm.trans h)
            exact ⟨g30 h, j30 p1 p2, p1, p2, p3⟩
          clear hb30 s30 z30 e30 j30 g30
          by_cases hc1 : c1 = 0
          · by_cases hc3 : c3 = 0
            · obtain ⟨rfl, hj1, p1, p2, p3⟩ := HF1.out hc1
              obtain ⟨rfl, hj3, p4, p5, p6⟩ := HF30.out hc3
              have HJ1 := Lib.hid hj1
              have HJ3 := Lib.hid hj3
              have HL := Lib.hid p1
              have HMM := Lib.hid p2
              have HN := Lib.hid p5
              have HLM := Lib.hid (joi_ecode hj1 p1 p2 p3)
              have HMN := Lib.hid (joi_ecode hj3 p4 p5 p6)
              subst hc1 hc3
              clear hj1 hj3 p1 p2 p3 p4 p5 p6 HF1 HF30
              go_wp2_with fail
              refine (HJO.out a1' ac q1 cc lm lc m w30 HSM3.out (HC.out.below HB30.out) u1 hlc v1 hcc HZ1.out HSC.out (HM.out.below HB30.out) (HT.out.below HB30.out)).mono ?_
              rintro e w31 ⟨hb31, c4, a31, q31, x4, n4, rfl, u31, v31, s31, _, e31, j31, g31, k31⟩
              have HB31 := Lib.hid (Below.step HB30.out hb31)
              have HS31 := Lib.hid s31
              have HS30' := Lib.hid (HS30.out.below hb31)
              have HJ4 := Lib.hid (j31 HLM.out HN.out)
              have HE4 : Hid (c4 = if 200 < n4.length then (2 : Int) else 0) := e31.trans (three_of HLM.out HN.out)
              have HG4 : Hid (x4 = if c4 = 0 then n4 else []) := by
                show _ = _
                by_cases h : c4 = 0
                · rw [if_pos h]; exact g31 h
                · rw [if_neg h]; exact k31 h
              clear hb31 s31 e31 j31 g31 k31 HS30 HB30
              go_wp2_with fail
              refine (HJO.out aa' a30 ca' q30 ll mn m w31 (HA.out.below HB31.out) HS30'.out hla u30 hca v30 HSA.out HZ30.out (HM.out.below HB31.out) (HT.out.below HB31.out)).mono ?_
              rintro e w32 ⟨hb32, c5, a32, q32, x5, n5, rfl, u32, v32, s32, _, e32, j32, g32, k32⟩
              have HB32 := Lib.hid (Below.step HB31.out hb32)
              have HS32 := Lib.hid s32
              have HS31' := Lib.hid (HS31.out.below hb32)
              have hn : n4 = n5 := joins_same HJ1.out HJ3.out HJ4.out (j32 HL.out HMN.out) HL.out HMM.out HN.out
              have hc : c4 = c5 := by
                rw [HE4.out, e32, three_of HL.out HMN.out, hn]
              have hx : x4 = x5 := by
                rw [HG4.out]
                by_cases h : c4 = 0
                · rw [if_pos h, hn]; exact (g32 (hc ▸ h)).symm
                · rw [if_neg h]; exact (k32 (hc ▸ h)).symm
              subst hc hx
              clear hb32 s32 e32 j32 g32 k32 hn HS31 HB31 HE4 HG4 HJ4
              go_wp2_with fail
              refine (HEE.out a31 a32 q31 q32 x4 x4 w32 HS31'.out HS32.out (by omega) (by omega)).mono ?_
              rintro e w33 ⟨⟨r, rfl, hr⟩, hb33⟩
              obtain rfl : r = true := hr.2 rfl
              have HB33 := Lib.hid (Below.step HB32.out hb33)
              clear hr hb33
              go_wp2_with fail
              go_ret
              exact ⟨rfl, HB33.out⟩
            · have g1 : (c3 != 0) = true := by simpa using hc3
              subst hc1
              clear hc3
              go_wp2_with fail
              go_ret
              exact ⟨rfl, HB30.out⟩
          · have g1 : (c1 != 0) = true := by simpa using hc1
            clear hc1
            go_wp2_with fail
            go_ret
            exact ⟨rfl, HB30.out⟩
        · have k2 : (ecode la == 0) = false := beq_eq_false_iff_ne.2 hel
          clear HLL HS21
          generalize ecode la = k0 at k1 k2 ⊢
          go_wp2_with fail
          refine (HJO.out ab ac cb cc lb lc m w21 (HB.out.below HB21.out) (HC.out.below HB21.out) hlb hlc hcb hcc HSB.out HSC.out (HM.out.below HB21.out) (HT.out.below HB21.out)).mono ?_
          rintro e w30 ⟨hb30, c3, a30, q30, mn, n3, rfl, u30, v30, s30, z30, e30, j30, g30, _⟩
          have HB30 := Lib.hid (Below.step HB21.out hb30)
          have HS30 := Lib.hid s30
          have HZ30 := Lib.hid z30
          have HSM3 := Lib.hid (HSM21.out.below hb30)
          have HF30 : Hid (c3 = 0 → mn = n3 ∧ Joi nk lb lc n3 ∧ ecode lb = 0 ∧ ecode lc = 0 ∧ n3.length ≤ 200) := fun h => by
            obtain ⟨p1, p2, p3⟩ := three_zero (e30.symm.trans h)
            exact ⟨g30 h, j30 p1 p2, p1, p2, p3⟩
          clear hb30 s30 z30 e30 j30 g30
          by_cases hc1 : c1 = 0
          · by_cases hc3 : c3 = 0
            · obtain ⟨rfl, hj1, p1, p2, p3⟩ := HF1.out hc1
              obtain ⟨rfl, hj3, p4, p5, p6⟩ := HF30.out hc3
              have HJ1 := Lib.hid hj1
              have HJ3 := Lib.hid hj3
              have HL := Lib.hid p1
              have HMM := Lib.hid p2
              have HN := Lib.hid p5
              have HLM := Lib.hid (joi_ecode hj1 p1 p2 p3)
              have HMN := Lib.hid (joi_ecode hj3 p4 p5 p6)
              subst hc1 hc3
              clear hj1 hj3 p1 p2 p3 p4 p5 p6 HF1 HF30
              go_wp2_with fail
              refine (HJO.out a1' ac q1 cc lm lc m w30 HSM3.out (HC.out.below HB30.out) u1 hlc v1 hcc HZ1.out HSC.out (HM.out.below HB30.out) (HT.out.below HB30.out)).mono ?_
              rintro e w31 ⟨hb31, c4, a31, q31, x4, n4, rfl, u31, v31, s31, _, e31, j31, g31, k31⟩
              have HB31 := Lib.hid (Below.step HB30.out hb31)
              have HS31 := Lib.hid s31
              have HS30' := Lib.hid (HS30.out.below hb31)
              have HJ4 := Lib.hid (j31 HLM.out HN.out)
              have HE4 : Hid (c4 = if 200 < n4.length then (2 : Int) else 0) := e31.trans (three_of HLM.out HN.out)
              have HG4 : Hid (x4 = if c4 = 0 then n4 else []) := by
                show _ = _
                by_cases h : c4 = 0
                · rw [if_pos h]; exact g31 h
                · rw [if_neg h]; exact k31 h
              clear hb31 s31 e31 j31 g31 k31 HS30 HB30
              go_wp2_with fail
              refine (HJO.out aa' a30 ca' q30 la mn m w31 (HA.out.below HB31.out) HS30'.out hla u30 hca v30 HSA.out HZ30.out (HM.out.below HB31.out) (HT.out.below HB31.out)).mono ?_
              rintro e w32 ⟨hb32, c5, a32, q32, x5, n5, rfl, u32, v32, s32, _, e32, j32, g32, k32⟩
              have HB32 := Lib.hid (Below.step HB31.out hb32)
              have HS32 := Lib.hid s32
              have HS31' := Lib.hid (HS31.out.below hb32)
              have hn : n4 = n5 := joins_same HJ1.out HJ3.out HJ4.out (j32 HL.out HMN.out) HL.out HMM.out HN.out
              have hc : c4 = c5 := by
                rw [HE4.out, e32, three_of HL.out HMN.out, hn]
              have hx : x4 = x5 := by
                rw [HG4.out]
                by_cases h : c4 = 0
                · rw [if_pos h, hn]; exact (g32 (hc ▸ h)).symm
                · rw [if_neg h]; exact (k32 (hc ▸ h)).symm
              subst hc hx
              clear hb32 s32 e32 j32 g32 k32 hn HS31 HB31 HE4 HG4 HJ4
              go_wp2_with fail
              refine (HEE.out a31 a32 q31 q32 x4 x4 w32 HS31'.out HS32.out (by omega) (by omega)).mono ?_
              rintro e w33 ⟨⟨r, rfl, hr⟩, hb33⟩
              obtain rfl : r = true := hr.2 rfl
              have HB33 := Lib.hid (Below.step HB32.out hb33)
              clear hr hb33
              go_wp2_with fail
              go_ret
              exact ⟨rfl, HB33.out⟩
            · have g1 : (c3 != 0) = true := by simpa using hc3
              subst hc1
              clear hc3
              go_wp2_with fail
              go_ret
              exact ⟨rfl, HB30.out⟩
          · have g1 : (c1 != 0) = true := by simpa using hc1
            clear hc1
            go_wp2_with fail
            go_ret
            exact ⟨rfl, HB30.out⟩
    · have k4 : (c1 == 0) = false := beq_eq_false_iff_ne.2 hc1
      clear HK3 HS3 HZ3 hc1
      go_wp2_with fail
      refine (HJO.out aa' aa' ca' ca' la la m w3 (HA.out.below HB3.out) (HA.out.below HB3.out) hla hla hca hca HSA.out HSA.out (HM.out.below HB3.out) (HT.out.below HB3.out)).mono ?_
      rintro e w20 ⟨hb20, c2, a20, q20, ll, n2, rfl, u20, v20, s20, _, e20, j20, g20, _⟩
      have HB20 := Lib.hid (Below.step HB3.out hb20)
      have HS20 := Lib.hid s20
      have HSM2 := Lib.hid (HSM.out.below hb20)
      obtain ⟨rfl, hll⟩ := self_code e20 j20 g20
      have HLL := Lib.hid hll
      clear hb20 s20 e20 j20 g20 hll
      go_wp2_with fail
      refine (HEC.out aa' ca' la m w20 (HA.out.below HB20.out) (by omega) (fun x hx => (HSA.out x hx).1) (HM.out.below HB20.out) (HT.out.below HB20.out)).mono ?_
      rintro e w21 ⟨rfl, hb21⟩
      have HB21 := Lib.hid (Below.step HB20.out hb21)
      have HS21 := Lib.hid (HS20.out.below hb21)
      have HSM21 := Lib.hid (HSM2.out.below hb21)
      have k1 : (ecode la != ecode la) = false := by simp
      clear hb21 HS20 HSM2 HB20
      by_cases hel : ecode la = 0
      · obtain rfl := HLL.out hel
        rw [hel]
        rw [hel] at k1
        clear hel
        go_wp2_with fail
        refine (HEE.out a20 aa' q20 ca' ll ll w21 HS21.out (HA.out.below HB21.out) (by omega) (by omega)).mono ?_
        rintro e w22 ⟨⟨r, rfl, hr⟩, hb22⟩
        obtain rfl : r = true := hr.2 rfl
        have HB22 := Lib.hid (Below.step HB21.out hb22)
        have HSM22 := Lib.hid (HSM21.out.below hb22)
        clear hr hb22 HS21 HSM21 HB21
        go_wp2_with fail
        refine (HJO.out ab ac cb cc lb lc m w22 (HB.out.below HB22.out) (HC.out.below HB22.out) hlb hlc hcb hcc HSB.out HSC.out (HM.out.below HB22.out) (HT.out.below HB22.out)).mono ?_
        rintro e w30 ⟨hb30, c3, a30, q30, mn, n3, rfl, u30, v30, s30, z30, e30, j30, g30, _⟩
        have HB30 := Lib.hid (Below.step HB22.out hb30)
        have HS30 := Lib.hid s30
        have HZ30 := Lib.hid z30
        have HSM3 := Lib.hid (HSM22.out.below hb30)
        have HF30 : Hid (c3 = 0 → mn = n3 ∧ Joi nk lb lc n3 ∧ ecode lb = 0 ∧ ecode lc = 0 ∧ n3.length ≤ 200) := fun h => by
          obtain ⟨p1, p2, p3⟩ := three_zero (e30.symm.trans h)
          exact ⟨g30 h, j30 p1 p2, p1, p2, p3⟩
        clear hb30 s30 z30 e30 j30 g30
        by_cases hc1 : c1 = 0
        · by_cases hc3 : c3 = 0
          · obtain ⟨rfl, hj1, p1, p2, p3⟩ := HF1.out hc1
            obtain ⟨rfl, hj3, p4, p5, p6⟩ := HF30.out hc3
            have HJ1 := Lib.hid hj1
            have HJ3 := Lib.hid hj3
            have HL := Lib.hid p1
            have HMM := Lib.hid p2
            have HN := Lib.hid p5
            have HLM := Lib.hid (joi_ecode hj1 p1 p2 p3)
            have HMN := Lib.hid (joi_ecode hj3 p4 p5 p6)
            subst hc1 hc3
            clear hj1 hj3 p1 p2 p3 p4 p5 p6 HF1 HF30
            go_wp2_with fail
            refine (HJO.out a1' ac q1 cc lm lc m w30 HSM3.out (HC.out.below HB30.out) u1 hlc v1 hcc HZ1.out HSC.out (HM.out.below HB30.out) (HT.out.below HB30.out)).mono ?_
            rintro e w31 ⟨hb31, c4, a31, q31, x4, n4, rfl, u31, v31, s31, _, e31, j31, g31, k31⟩
            have HB31 := Lib.hid (Below.step HB30.out hb31)
            have HS31 := Lib.hid s31
            have HS30' := Lib.hid (HS30.out.below hb31)
            have HJ4 := Lib.hid (j31 HLM.out HN.out)
            have HE4 : Hid (c4 = if 200 < n4.length then (2 : Int) else 0) := e31.trans (three_of HLM.out HN.out)
            have HG4 : Hid (x4 = if c4 = 0 then n4 else []) := by
              show _ = _
              by_cases h : c4 = 0
              · rw [if_pos h]; exact g31 h
              · rw [if_neg h]; exact k31 h
            clear hb31 s31 e31 j31 g31 k31 HS30 HB30
            go_wp2_with fail
            refine (HJO.out aa' a30 ca' q30 ll mn m w31 (HA.out.below HB31.out) HS30'.out hla u30 hca v30 HSA.out HZ30.out (HM.out.below HB31.out) (HT.out.below HB31.out)).mono ?_
            rintro e w32 ⟨hb32, c5, a32, q32, x5, n5, rfl, u32, v32, s32, _, e32, j32, g32, k32⟩
            have HB32 := Lib.hid (Below.step HB31.out hb32)
            have HS32 := Lib.hid s32
            have HS31' := Lib.hid (HS31.out.below hb32)
            have hn : n4 = n5 := joins_same HJ1.out HJ3.out HJ4.out (j32 HL.out HMN.out) HL.out HMM.out HN.out
            have hc : c4 = c5 := by
              rw [HE4.out, e32, three_of HL.out HMN.out, hn]
            have hx : x4 = x5 := by
              rw [HG4.out]
              by_cases h : c4 = 0
              · rw [if_pos h, hn]; exact (g32 (hc ▸ h)).symm
              · rw [if_neg h]; exact (k32 (hc ▸ h)).symm
            subst hc hx
            clear hb32 s32 e32 j32 g32 k32 hn HS31 HB31 HE4 HG4 HJ4
            go_wp2_with fail
            refine (HEE.out a31 a32 q31 q32 x4 x4 w32 HS31'.out HS32.out (by omega) (by omega)).mono ?_
            rintro e w33 ⟨⟨r, rfl, hr⟩, hb33⟩
            obtain rfl : r = true := hr.2 rfl
            have HB33 := Lib.hid (Below.step HB32.out hb33)
            clear hr hb33
            go_wp2_with fail
            go_ret
            exact ⟨rfl, HB33.out⟩
          · have g1 : (c3 != 0) = true := by simpa using hc3
            subst hc1
            clear hc3
            go_wp2_with fail
            go_ret
            exact ⟨rfl, HB30.out⟩
        · have g1 : (c1 != 0) = true := by simpa using hc1
          clear hc1
          go_wp2_with fail
          go_ret
          exact ⟨rfl, HB30.out⟩
      · have k2 : (ecode la == 0) = false := beq_eq_false_iff_ne.2 hel
        clear HLL HS21
        generalize ecode la = k0 at k1 k2 ⊢
        go_wp2_with fail
        refine (HJO.out ab ac cb cc lb lc m w21 (HB.out.below HB21.out) (HC.out.below HB21.out) hlb hlc hcb hcc HSB.out HSC.out (HM.out.below HB21.out) (HT.out.below HB21.out)).mono ?_
        rintro e w30 ⟨hb30, c3, a30, q30, mn, n3, rfl, u30, v30, s30, z30, e30, j30, g30, _⟩
        have HB30 := Lib.hid (Below.step HB21.out hb30)
        have HS30 := Lib.hid s30
        have HZ30 := Lib.hid z30
        have HSM3 := Lib.hid (HSM21.out.below hb30)
        have HF30 : Hid (c3 = 0 → mn = n3 ∧ Joi nk lb lc n3 ∧ ecode lb = 0 ∧ ecode lc = 0 ∧ n3.length ≤ 200) := fun h => by
          obtain ⟨p1, p2, p3⟩ := three_zero (e30.symm.trans h)
          exact ⟨g30 h, j30 p1 p2, p1, p2, p3⟩
        clear hb30 s30 z30 e30 j30 g30
        by_cases hc1 : c1 = 0
        · by_cases hc3 : c3 = 0
          · obtain ⟨rfl, hj1, p1, p2, p3⟩ := HF1.out hc1
            obtain ⟨rfl, hj3, p4, p5, p6⟩ := HF30.out hc3
            have HJ1 := Lib.hid hj1
            have HJ3 := Lib.hid hj3
            have HL := Lib.hid p1
            have HMM := Lib.hid p2
            have HN := Lib.hid p5
            have HLM := Lib.hid (joi_ecode hj1 p1 p2 p3)
            have HMN := Lib.hid (joi_ecode hj3 p4 p5 p6)
            subst hc1 hc3
            clear hj1 hj3 p1 p2 p3 p4 p5 p6 HF1 HF30
            go_wp2_with fail
            refine (HJO.out a1' ac q1 cc lm lc m w30 HSM3.out (HC.out.below HB30.out) u1 hlc v1 hcc HZ1.out HSC.out (HM.out.below HB30.out) (HT.out.below HB30.out)).mono ?_
            rintro e w31 ⟨hb31, c4, a31, q31, x4, n4, rfl, u31, v31, s31, _, e31, j31, g31, k31⟩
            have HB31 := Lib.hid (Below.step HB30.out hb31)
            have HS31 := Lib.hid s31
            have HS30' := Lib.hid (HS30.out.below hb31)
            have HJ4 := Lib.hid (j31 HLM.out HN.out)
            have HE4 : Hid (c4 = if 200 < n4.length then (2 : Int) else 0) := e31.trans (three_of HLM.out HN.out)
            have HG4 : Hid (x4 = if c4 = 0 then n4 else []) := by
              show _ = _
              by_cases h : c4 = 0
              · rw [if_pos h]; exact g31 h
              · rw [if_neg h]; exact k31 h
            clear hb31 s31 e31 j31 g31 k31 HS30 HB30
            go_wp2_with fail
            refine (HJO.out aa' a30 ca' q30 la mn m w31 (HA.out.below HB31.out) HS30'.out hla u30 hca v30 HSA.out HZ30.out (HM.out.below HB31.out) (HT.out.below HB31.out)).mono ?_
            rintro e w32 ⟨hb32, c5, a32, q32, x5, n5, rfl, u32, v32, s32, _, e32, j32, g32, k32⟩
            have HB32 := Lib.hid (Below.step HB31.out hb32)
            have HS32 := Lib.hid s32
            have HS31' := Lib.hid (HS31.out.below hb32)
            have hn : n4 = n5 := joins_same HJ1.out HJ3.out HJ4.out (j32 HL.out HMN.out) HL.out HMM.out HN.out
            have hc : c4 = c5 := by
              rw [HE4.out, e32, three_of HL.out HMN.out, hn]
            have hx : x4 = x5 := by
              rw [HG4.out]
              by_cases h : c4 = 0
              · rw [if_pos h, hn]; exact (g32 (hc ▸ h)).symm
              · rw [if_neg h]; exact (k32 (hc ▸ h)).symm
            subst hc hx
            clear hb32 s32 e32 j32 g32 k32 hn HS31 HB31 HE4 HG4 HJ4
            go_wp2_with fail
            refine (HEE.out a31 a32 q31 q32 x4 x4 w32 HS31'.out HS32.out (by omega) (by omega)).mono ?_
            rintro e w33 ⟨⟨r, rfl, hr⟩, hb33⟩
            obtain rfl : r = true := hr.2 rfl
            have HB33 := Lib.hid (Below.step HB32.out hb33)
            clear hr hb33
            go_wp2_with fail
            go_ret
            exact ⟨rfl, HB33.out⟩
          · have g1 : (c3 != 0) = true := by simpa using hc3
            subst hc1
            clear hc3
            go_wp2_with fail
            go_ret
            exact ⟨rfl, HB30.out⟩
        · have g1 : (c1 != 0) = true := by simpa using hc1
          clear hc1
          go_wp2_with fail
          go_ret
          exact ⟨rfl, HB30.out⟩
end Go.Proofs.YtokckcmkbnhhhaaDoor
