/- The laws DeltaBack and DeltaJoins, walked. -/
import Derived.Test.YtokckcmkbnhhhaaDoorDeltaMetricW
namespace Go.Proofs.YtokckcmkbnhhhaaDoor
open Go.RowKit Plain
theorem diff_ecode {la lb : List It} {l : List Ed} (h : Diff nk Prod.fst zIt la lb l) (ha : wcode la = 0) (hb : wcode lb = 0) : ecode l = 0 := by
  obtain ⟨na, ca, sa⟩ := wcode_zero ha
  obtain ⟨nb, cb, sb⟩ := wcode_zero hb
  have := h.length
  refine ecode_of (by omega) (fun x hx => ?_) (fun x hx => (h.ok x hx).1) (h.look sa sb).1
  rcases (h.ok x hx).2 with ⟨y, hy, e⟩ | ⟨y, hy, e⟩
  · rw [e]; exact ca y hy
  · rw [e]; exact cb y hy
theorem diff_sizes {la lb : List It} {l : List Ed} (h : Diff nk Prod.fst zIt la lb l) (ha : ∀ x ∈ la, x.1.size ≤ 1048576) (hb : ∀ x ∈ lb, x.1.size ≤ 1048576) : ∀ x ∈ l, szE x := by
  intro x hx
  obtain ⟨⟨o1, o2⟩, h2⟩ := h.ok x hx
  have h3 : x.1.size ≤ 1048576 := by
    rcases h2 with ⟨y, hy, e⟩ | ⟨y, hy, e⟩
    · rw [e]; exact ha y hy
    · rw [e]; exact hb y hy
  refine ⟨h3, ?_⟩
  cases hg : x.2.1 with
  | true => rw [o1 hg]; decide
  | false => rw [o2 hg]; exact h3
theorem joi_ecode {l m n : List Ed} (h : Joi nk l m n) (hl : ecode l = 0) (hm : ecode m = 0) (hn : n.length ≤ 200) : ecode n = 0 := by
  obtain ⟨_, cl, ol, sl⟩ := ecode_zero hl
  obtain ⟨_, cm, om, sm⟩ := ecode_zero hm
  exact ecode_of hn (fun x hx => (h.mem x hx).elim (cl x) (cm x)) (fun x hx => (h.mem x hx).elim (ol x) (om x)) (h.look sl sm).1
theorem three_zero {a b : Int} {n : Nat} (h : (if a ≠ 0 then a else if b ≠ 0 then b else if 200 < n then (2 : Int) else 0) = 0) : a = 0 ∧ b = 0 ∧ n ≤ 200 := by
  by_cases ha : a = 0
  · rw [if_neg (fun g => g ha)] at h
    by_cases hb : b = 0
    · rw [if_neg (fun g => g hb)] at h
      by_cases hn : 200 < n
      · rw [if_pos hn] at h; cases h
      · exact ⟨ha, hb, by omega⟩
    · rw [if_pos hb] at h; exact absurd h hb
  · rw [if_pos ha] at h; exact absurd h ha
theorem three_of {a b : Int} {n : Nat} (ha : a = 0) (hb : b = 0) : (if a ≠ 0 then a else if b ≠ 0 then b else if 200 < n then (2 : Int) else 0) = if 200 < n then (2 : Int) else 0 := by
  rw [if_neg (fun g => g ha), if_neg (fun g => g hb)]
theorem app_back {a b c : List It} {l : List Ed} (h : Diff nk Prod.fst zIt a b l) (ha : wcode a = 0) (hb : wcode b = 0) (g : App nk Prod.fst a l c) : c = b := app_diff h g (wcode_zero ha).2.2 (wcode_zero hb).2.2
set_option maxRecDepth 100000 in
set_option maxHeartbeats 4000000 in
theorem deltaBack_any (aa ab : Option Addr) (ca cb : Nat) (la lb : List It) (m : Int) (w : World) (ha : SAt 5 iC w aa la) (hb : SAt 5 iC w ab lb) (hla : la.length ≤ ca) (hlb : lb.length ≤ cb) (hca : ca ≤ 9223372036854775807) (hcb : cb ≤ 9223372036854775807) (hsa : ∀ x ∈ la, x.1.size ≤ 1048576) (hsb : ∀ y ∈ lb, y.1.size ≤ 1048576) (hm : MaxL m w) (hT : Tabs w) :
    Calls Tryd.prog 12 #[.slice aa la.length ca, .slice ab lb.length cb] w fun e w' => e = .returned (.bool true) ∧ Below w.heap.size w w' := by
  have HA := Lib.hid ha
  have HB := Lib.hid hb
  have HSA := Lib.hid hsa
  have HSB := Lib.hid hsb
  have HM := Lib.hid hm
  have HT := Lib.hid hT
  have HD := Lib.hid diff_any
  have HSW := Lib.hid someWorld_any
  have HEQ := Lib.hid eqIts_any
  have HAP := Lib.hid applied_any
  have HEC := Lib.hid echeck_any
  clear ha hb hsa hsb hm hT
  go_enter Tryd.func12, Tryd.ntmps12
  go_wp2_with fail
  refine (HSW.out w).mono ?_
  rintro e w1 ⟨hb1, a1, rfl, hs1⟩
  have HB1 := Lib.hid hb1
  have HS1 := Lib.hid hs1
  clear hb1 hs1
  go_wp2_with fail
  refine (HD.out none a1 0 2 [] swL m w1 SAt.nil HS1.out (Nat.le_refl _) (by decide) (by omega) (by omega) (by simp) (by decide) (HM.out.below HB1.out) (HT.out.below HB1.out)).mono ?_
  rintro e w2 ⟨hb2, code, oa, oc, l, rfl, hcd, _, _, _, _, hdf⟩
  have hz : code = 0 := by rw [hcd]; exact two_zero.2 ⟨wcode_nil, sw_code⟩
  have hl2 := diff_swr (hdf hz)
  subst hz
  have HB2 := Lib.hid (Below.step HB1.out hb2)
  rw [hl2]
  clear hb2 hcd hdf hl2
  go_wp2_with fail
  refine (HD.out aa ab ca cb la lb m w2 (HA.out.below HB2.out) (HB.out.below HB2.out) hla hlb hca hcb HSA.out HSB.out (HM.out.below HB2.out) (HT.out.below HB2.out)).mono ?_
  rintro e w3 ⟨hb3, c1, a1', q1, l1, rfl, e1, u1, v1, s1, n1, d1⟩
  have HB3 := Lib.hid (Below.step HB2.out hb3)
  have HE1 := Lib.hid e1
  have HD1 := Lib.hid d1
  have HN1 := Lib.hid n1
  have HS3 := Lib.hid s1
  clear hb3 e1 d1 HB2 HB1 HS1 n1 s1
  go_wp2_with fail
  refine (HD.out ab aa cb ca lb la m w3 (HB.out.below HB3.out) (HA.out.below HB3.out) hlb hla hcb hca HSB.out HSA.out (HM.out.below HB3.out) (HT.out.below HB3.out)).mono ?_
  rintro e w4 ⟨hb4, c2, a2', q2, l2, rfl, e2, u2, v2, s2, n2, d2⟩
  have HB4 := Lib.hid (Below.step HB3.out hb4)
  have HE2 := Lib.hid e2
  have HD2 := Lib.hid d2
  have HN2 := Lib.hid n2
  have HS4 := Lib.hid s2
  have HS3' := Lib.hid (HS3.out.below hb4)
  clear hb4 e2 d2 HB3 HS3 s2 n2
  by_cases hc1 : c1 = 0
  · obtain ⟨za, zb⟩ := two_zero.1 (HE1.out.symm.trans hc1)
    have hc2 : c2 = 0 := HE2.out.trans (two_zero.2 ⟨zb, za⟩)
    have HDD1 := Lib.hid (HD1.out hc1)
    have HDD2 := Lib.hid (HD2.out hc2)
    have HZA := Lib.hid za
    have HZB := Lib.hid zb
    have hn1 := HDD1.out.length
    have hn2 := HDD2.out.length
    subst hc1 hc2
    clear za zb HE1 HE2 HD1 HD2 HN1 HN2
    go_wp2_with fail
    refine (HAP.out aa a1' ca q1 la l1 m w4 (HA.out.below HB4.out) HS3'.out hla u1 hca v1 HSA.out (diff_sizes HDD1.out HSA.out HSB.out) (HM.out.below HB4.out) (HT.out.below HB4.out)).mono ?_
    rintro e w5 ⟨hb5, ok1, a5, q5, b5, rfl, u5, v5, s5, _, k5, t5⟩
    obtain rfl : ok1 = true := t5 HZA.out (diff_ecode HDD1.out HZA.out HZB.out) (fun b' hb' => by rw [app_back HDD1.out HZA.out HZB.out hb']; exact HZB.out)
    obtain rfl : b5 = lb := app_back HDD1.out HZA.out HZB.out (k5 rfl).2.2.2
    have HB5 := Lib.hid (Below.step HB4.out hb5)
    have HS5 := Lib.hid s5
    have HS35 := Lib.hid (HS3'.out.below hb5)
    have HS45 := Lib.hid (HS4.out.below hb5)
    clear hb5 s5 k5 t5 HS3' HS4 HB4
    go_wp2_with fail
    refine (HAP.out ab a2' cb q2 b5 l2 m w5 (HB.out.below HB5.out) HS45.out hlb u2 hcb v2 HSB.out (diff_sizes HDD2.out HSB.out HSA.out) (HM.out.below HB5.out) (HT.out.below HB5.out)).mono ?_
    rintro e w6 ⟨hb6, ok2, a6, q6, b6, rfl, u6, v6, s6, _, k6, t6⟩
    obtain rfl : ok2 = true := t6 HZB.out (diff_ecode HDD2.out HZB.out HZA.out) (fun b' hb' => by rw [app_back HDD2.out HZB.out HZA.out hb']; exact HZA.out)
    obtain rfl : b6 = la := app_back HDD2.out HZB.out HZA.out (k6 rfl).2.2.2
    have HB6 := Lib.hid (Below.step HB5.out hb6)
    have HS6 := Lib.hid s6
    have HS56 := Lib.hid (HS5.out.below hb6)
    have HS36 := Lib.hid (HS35.out.below hb6)
    clear hb6 s6 k6 t6 HS45 HS5 HS35 HB5
    go_wp2_with fail
    refine (HEQ.out a5 ab q5 cb b5 b5 w6 HS56.out (HB.out.below HB6.out) (by omega) (by omega)).mono ?_
    rintro e w7 ⟨⟨r, rfl, hr⟩, hb7⟩
    obtain rfl : r = true := hr.2 rfl
    have HB7 := Lib.hid (Below.step HB6.out hb7)
    have HS67 := Lib.hid (HS6.out.below hb7)
    have HS37 := Lib.hid (HS36.out.below hb7)
    clear hb7 hr HS6 HS36 HS56
    go_wp2_with fail
    refine (HEQ.out a6 aa q6 ca b6 b6 w7 HS67.out (HA.out.below HB7.out) (by omega) (by omega)).mono ?_
    rintro e w8 ⟨⟨r, rfl, hr⟩, hb8⟩
    obtain rfl : r = true := hr.2 rfl
    have HB8 := Lib.hid (Below.step HB7.out hb8)
    have HS38 := Lib.hid (HS37.out.below hb8)
    clear hb8 hr HS67 HS37
    go_wp2_with fail
    refine (HEC.out a1' q1 l1 m w8 HS38.out (by omega) (fun x hx => (diff_sizes HDD1.out HSA.out HSB.out x hx).1) (HM.out.below HB8.out) (HT.out.below HB8.out)).mono ?_
    rintro e w9 ⟨rfl, hb9⟩
    have HB9 := Lib.hid (Below.step HB8.out hb9)
    rw [diff_ecode HDD1.out HZA.out HZB.out]
    clear hb9
    go_wp2_with fail
    go_ret
    exact ⟨rfl, HB9.out⟩
  · have hc2 : c2 ≠ 0 := fun h => by
      obtain ⟨zb, za⟩ := two_zero.1 (HE2.out.symm.trans h)
      exact hc1 (HE1.out.trans (two_zero.2 ⟨za, zb⟩))
    have g1 : (c1 != 0) = true := by simpa using hc1
    obtain rfl := HN1.out hc1
    obtain rfl := HN2.out hc2
    clear hc1 hc2
    go_wp2_with fail
    go_ret
    exact ⟨rfl, HB4.out⟩
end Go.Proofs.YtokckcmkbnhhhaaDoor
