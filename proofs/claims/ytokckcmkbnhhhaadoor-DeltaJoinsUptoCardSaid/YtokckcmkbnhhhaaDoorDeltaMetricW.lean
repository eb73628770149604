/- The law DeltaMetric, walked. -/
import Derived.Test.YtokckcmkbnhhhaaDoorDeltaWorld
namespace Go.Proofs.YtokckcmkbnhhhaaDoor
open Go.RowKit Plain
theorem two_zero {a b : Int} : (if a ≠ 0 then a else b) = 0 ↔ a = 0 ∧ b = 0 := by
  by_cases h : a = 0
  · simp [h]
  · simp [h]
theorem diff_swl {l : List Ed} (h : Diff nk Prod.fst zIt swL [] l) : l.length = 2 := by
  obtain ⟨M, hM, rfl⟩ := h
  unfold swL at hM
  cases hM with
  | left _ hM =>
    cases hM with
    | left _ hM =>
      cases hM
      rfl
theorem diff_swr {l : List Ed} (h : Diff nk Prod.fst zIt [] swL l) : l.length = 2 := by
  obtain ⟨M, hM, rfl⟩ := h
  unfold swL at hM
  cases hM with
  | right _ hM =>
    cases hM with
    | right _ hM =>
      cases hM
      rfl
theorem wcode_nil : wcode [] = 0 := by unfold wcode; rw [if_neg (by simp)]; rfl
set_option maxRecDepth 100000 in
set_option maxHeartbeats 4000000 in
theorem deltaMetric_any (aa ab ac : Option Addr) (ca cb cc : Nat) (la lb lc : List It) (m : Int) (w : World) (ha : SAt 5 iC w aa la) (hb : SAt 5 iC w ab lb) (hc : SAt 5 iC w ac lc) (hla : la.length ≤ ca) (hlb : lb.length ≤ cb) (hlc : lc.length ≤ cc) (hca : ca ≤ 9223372036854775807) (hcb : cb ≤ 9223372036854775807) (hcc : cc ≤ 9223372036854775807) (hsa : ∀ x ∈ la, x.1.size ≤ 1048576) (hsb : ∀ y ∈ lb, y.1.size ≤ 1048576) (hsc : ∀ y ∈ lc, y.1.size ≤ 1048576) (hm : MaxL m w) (hT : Tabs w) :
    Calls Tryd.prog 9 #[.slice aa la.length ca, .slice ab lb.length cb, .slice ac lc.length cc] w fun e w' => e = .returned (.bool true) ∧ Below w.heap.size w w' := by
  have HA := Lib.hid ha
  have HB := Lib.hid hb
  have HC := Lib.hid hc
  have HSA := Lib.hid hsa
  have HSB := Lib.hid hsb
  have HSC := Lib.hid hsc
  have HM := Lib.hid hm
  have HT := Lib.hid hT
  have HD := Lib.hid diff_any
  have HSW := Lib.hid someWorld_any
  have HEQ := Lib.hid eqIts_any
  clear ha hb hc hsa hsb hsc hm hT
  go_enter Tryd.func9, Tryd.ntmps9
  go_wp2_with fail
  refine (HSW.out w).mono ?_
  rintro e w1 ⟨hb1, a1, rfl, hs1⟩
  have HB1 := Lib.hid hb1
  have HS1 := Lib.hid hs1
  clear hb1 hs1
  go_wp2_with fail
  refine (HD.out a1 none 2 0 swL [] m w1 HS1.out SAt.nil (by decide) (Nat.le_refl _) (by omega) (by omega) (by decide) (by simp) (HM.out.below HB1.out) (HT.out.below HB1.out)).mono ?_
  rintro e w2 ⟨hb2, code, oa, oc, l, rfl, hcd, _, _, _, _, hdf⟩
  have hz : code = 0 := by rw [hcd]; exact two_zero.2 ⟨sw_code, wcode_nil⟩
  have hl2 := diff_swl (hdf hz)
  subst hz
  have HB2 := Lib.hid (Below.step HB1.out hb2)
  rw [hl2]
  clear hb2 hcd hdf hl2
  go_wp2_with fail
  refine (HD.out aa ab ca cb la lb m w2 (HA.out.below HB2.out) (HB.out.below HB2.out) hla hlb hca hcb HSA.out HSB.out (HM.out.below HB2.out) (HT.out.below HB2.out)).mono ?_
  rintro e w3 ⟨hb3, c1, a1', q1, l1, rfl, e1, _, _, _, _, d1⟩
  have HB3 := Lib.hid (Below.step HB2.out hb3)
  have HE1 := Lib.hid e1
  have HD1 := Lib.hid d1
  clear hb3 e1 d1 HB2 HB1 HS1
  go_wp2_with fail
  refine (HD.out ab aa cb ca lb la m w3 (HB.out.below HB3.out) (HA.out.below HB3.out) hlb hla hcb hca HSB.out HSA.out (HM.out.below HB3.out) (HT.out.below HB3.out)).mono ?_
  rintro e w4 ⟨hb4, c2, a2', q2, l2, rfl, e2, _, _, _, _, d2⟩
  have HB4 := Lib.hid (Below.step HB3.out hb4)
  have HE2 := Lib.hid e2
  have HD2 := Lib.hid d2
  clear hb4 e2 d2 HB3
  go_wp2_with fail
  refine (HD.out ab ac cb cc lb lc m w4 (HB.out.below HB4.out) (HC.out.below HB4.out) hlb hlc hcb hcc HSB.out HSC.out (HM.out.below HB4.out) (HT.out.below HB4.out)).mono ?_
  rintro e w5 ⟨hb5, c3, a3', q3, l3, rfl, e3, _, _, _, _, d3⟩
  have HB5 := Lib.hid (Below.step HB4.out hb5)
  have HE3 := Lib.hid e3
  have HD3 := Lib.hid d3
  clear hb5 e3 d3 HB4
  go_wp2_with fail
  refine (HD.out aa ac ca cc la lc m w5 (HA.out.below HB5.out) (HC.out.below HB5.out) hla hlc hca hcc HSA.out HSC.out (HM.out.below HB5.out) (HT.out.below HB5.out)).mono ?_
  rintro e w6 ⟨hb6, c4, a4', q4, l4, rfl, e4, _, _, _, _, d4⟩
  have HB6 := Lib.hid (Below.step HB5.out hb6)
  have HE4 := Lib.hid e4
  have HD4 := Lib.hid d4
  clear hb6 e4 d4 HB5
  by_cases hc1 : c1 = 0
  · by_cases hc3 : c3 = 0
    · obtain ⟨za, zb⟩ := two_zero.1 (HE1.out.symm.trans hc1)
      obtain ⟨_, zc⟩ := two_zero.1 (HE3.out.symm.trans hc3)
      have dd1 := HD1.out hc1
      have dd2 := HD2.out (HE2.out.trans (two_zero.2 ⟨zb, za⟩))
      have dd3 := HD3.out hc3
      have dd4 := HD4.out (HE4.out.trans (two_zero.2 ⟨za, zc⟩))
      obtain ⟨na, _, sa⟩ := wcode_zero za
      obtain ⟨nb, _, sb⟩ := wcode_zero zb
      obtain ⟨nc', _, sc⟩ := wcode_zero zc
      have hsym := dd1.sym dd2 sa sb
      have htri := dd1.tri dd3 dd4 sa sb sc
      have hzi := dd1.zero_iff sa sb
      have hn1 := dd1.length
      have hn3 := dd3.length
      have HZI := Lib.hid hzi
      have k1 : ((l1.length : Int) == (l2.length : Int)) = true := by simp [hsym]
      have k3 : (l4.length : Int) ≤ (l1.length : Int) + (l3.length : Int) := by omega
      have k4 : IntKind.i64.wrap ((l1.length : Int) + (l3.length : Int)) = (l1.length : Int) + (l3.length : Int) := wraps_i64 _ (by omega) (by omega)
      subst hc1 hc3
      clear za zb zc dd1 dd2 dd3 dd4 sa sb sc hsym htri hzi hn1 hn3 HE1 HE2 HE3 HE4 HD1 HD2 HD3 HD4
      have HEQC := Lib.hid (HEQ.out aa ab ca cb la lb w6 (HA.out.below HB6.out) (HB.out.below HB6.out) (by omega) (by omega))
      by_cases hab : la = lb
      · have k2 : ((l1.length : Int) == 0) = true := by simp [HZI.out.2 hab]
        have HAB := Lib.hid hab
        clear hab
        go_wp2_with fail
        refine HEQC.out.mono ?_
        rintro e w7 ⟨⟨r, rfl, hr⟩, hb7⟩
        obtain rfl : r = true := hr.2 HAB.out
        have HB7 := Lib.hid (Below.step HB6.out hb7)
        clear hr hb7
        go_wp2_with fail
        go_ret
        exact ⟨rfl, HB7.out⟩
      · have k2 : ((l1.length : Int) == 0) = false := beq_eq_false_iff_ne.2 (fun h => hab (HZI.out.1 (by omega)))
        have HAB := Lib.hid hab
        clear hab
        go_wp2_with fail
        refine HEQC.out.mono ?_
        rintro e w7 ⟨⟨r, rfl, hr⟩, hb7⟩
        obtain rfl : r = false := by
          cases r with
          | false => rfl
          | true => exact absurd (hr.1 rfl) HAB.out
        have HB7 := Lib.hid (Below.step HB6.out hb7)
        clear hr hb7
        go_wp2_with fail
        go_ret
        exact ⟨rfl, HB7.out⟩
    · have g1 : (c3 != 0) = true := by simpa using hc3
      subst hc1
      clear hc3
      go_wp2_with fail
      go_ret
      exact ⟨rfl, HB6.out⟩
  · have g1 : (c1 != 0) = true := by simpa using hc1
    clear hc1
    go_wp2_with fail
    go_ret
    exact ⟨rfl, HB6.out⟩
end Go.Proofs.YtokckcmkbnhhhaaDoor
