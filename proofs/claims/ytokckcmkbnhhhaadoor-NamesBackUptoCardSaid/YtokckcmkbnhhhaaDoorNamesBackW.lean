/- The walk of NamesBack. -/
import Derived.Test.YtokckcmkbnhhhaaDoorNamesW2
import Derived.Test.YtokckcmkbnhhhaaDoorStrCalls
import Derived.Test.YtokckcmkbnhhhaaDoorStrsUpto
namespace Go.Proofs.YtokckcmkbnhhhaaDoor
open Go.RowKit Plain
theorem spl_ab : splP ck [47, 97, 47, 98] = ([[97], [98]], 0) := by decide +kernel
theorem list_of_nil {l : T} (h : l = []) : (⟨l.toArray⟩ : ByteArray).size = 0 := by subst h; rfl
theorem neStr {a b : ByteArray} (h : a = b) : (a.toList != b.toList) = false := by subst h; simp
set_option maxRecDepth 100000 in
set_option maxHeartbeats 1000000 in
theorem namesBack_any (p : ByteArray) (a : Option Addr) (cap : Nat) (l : List ByteArray) (m : Int) (w : World) (hp : p.size ≤ 1048576) (h : SAt 1 sC w a l) (hl : l.length ≤ 1048576) (hc : l.length ≤ cap) (hs : ∀ y ∈ l, y.size ≤ 1048576) (hm : MaxL m w) (hT : Tabs w) :
    Calls Tryd.prog 7 #[.string p, .slice a l.length cap] w fun e w' => e = .returned (.bool true) ∧ Below w.heap.size w w' := by
  have HSP := Lib.hid split_any
  have HJN := Lib.hid join_any2
  have HEQ := Lib.hid eqStr_any
  have HS := Lib.hid h
  have HM := Lib.hid hm
  have HT := Lib.hid hT
  have HZ : Hid (∀ y ∈ l, y.size ≤ 4294967296) := fun y hy => by have := hs y hy; omega
  have HJS : Hid (∀ x ∈ tl l, x.length ≤ 1048576) := fun x hx => by
    obtain ⟨y, hy, rfl⟩ := List.mem_map.1 hx
    rw [bT_length]; exact hs y hy
  clear h hm hT hs
  go_enter Tryd.func7, Tryd.ntmps7
  go_wp2_with fail
  refine (HSP.out ⟨#[47, 97, 47, 98]⟩ m w (by decide) HM.out HT.out).mono ?_
  rintro e w1 ⟨hb1, hr⟩
  have hg : splP ck (bT ⟨#[47, 97, 47, 98]⟩) = ([[97], [98]], 0) := spl_ab
  rw [hg] at hr
  rcases hr with ⟨_, a1, c1, L1, rfl, _, htl, _⟩ | ⟨hno, _⟩
  rotate_left
  · exact absurd rfl hno
  have hL1 : L1.length = 2 := by rw [← tl_length, htl]; rfl
  rw [hL1]
  have HB1 := Lib.hid hb1
  clear hg hb1 htl hL1
  go_wp2_with fail
  refine (HSP.out p m w1 (by omega) (HM.out.below HB1.out) (HT.out.below HB1.out)).mono ?_
  rintro e w2 ⟨hb2, hr⟩
  have HB2 := Lib.hid (Below.step HB1.out hb2)
  clear hb2
  have TAIL : ∀ (w3 : World), Below w.heap.size w w3 → Hid (Calls Tryd.prog 27 #[.slice a l.length cap] w3 (JnEnd w3 l)) := fun w3 hb => HJN.out a cap l w3 (HS.out.below hb) (by omega) hc HZ.out (HT.out.below hb)
  have HTAIL := Lib.hid TAIL
  clear TAIL
  rcases hr with ⟨hok, a2, c2, L2, rfl, hs2, htl, hLc, hL8, hsz⟩ | ⟨hno, rfl⟩
  · have HBJ := Lib.hid (back_split hok)
    rw [← htl] at HBJ
    have HJ := Lib.hid (HJN.out a2 c2 L2 w2 hs2 (by omega) hLc hsz (HT.out.below HB2.out))
    clear hok hs2 htl hsz
    go_wp2_with fail
    refine HJ.out.mono ?_
    rintro e w3 ⟨hb3, rfl⟩
    have HB3 := Lib.hid (Below.step HB2.out hb3)
    have hpp : (⟨(joinP ck (tl L2)).1.toArray⟩ : ByteArray) = p := by rw [HBJ.out]
    have hpe : (joinP ck (tl L2)).2 = 0 := by rw [HBJ.out]
    rw [hpp, hpe]
    have f1 : (p.toList != p.toList) = false := neStr rfl
    clear hb3 hpp hpe HJ
    go_wp2_with fail
    refine (HTAIL.out w3 HB3.out).out.mono ?_
    rintro e w4 ⟨hb4, rfl⟩
    have HB4 := Lib.hid (Below.step HB3.out hb4)
    clear hb4
    by_cases hj : (joinP ck (tl l)).2 = 0
    · have HJO := Lib.hid (joinP_ok hj)
      have HSJ := Lib.hid (back_join ck_ok HJO.out.1)
      rw [hj]
      have hq1 : (joinP ck (tl l)).1 = 47 :: jn (tl l) := HJO.out.2
      rw [hq1]
      have h8 : l.length ≤ 8 := by
        have := ((chkAll_ok ck _ _).1 HJO.out.1).1
        rw [tl_length] at this
        rcases this with h | h
        · have : l.length = 0 := by rw [← tl_length, h]; rfl
          omega
        · omega
      have hjl := jn_len 1048576 (tl l) HJS.out
      rw [tl_length] at hjl
      have h88 : l.length * (1048576 + 1) ≤ 8 * (1048576 + 1) := Nat.mul_le_mul_right _ h8
      have HQS : Hid ((⟨(47 :: jn (tl l)).toArray⟩ : ByteArray).size < 4294967281) := by
        show (47 :: jn (tl l)).length < 4294967281
        rw [List.length_cons]; omega
      have HQT : Hid (bT ⟨(47 :: jn (tl l)).toArray⟩ = 47 :: jn (tl l)) := bT_mk _
      have HSJ2 : Hid (splP ck (bT ⟨(47 :: jn (tl l)).toArray⟩) = (tl l, 0)) := by show _ = _; rw [HQT.out]; exact HSJ.out
      clear hq1 hj hjl h88 HSJ HQT HJO
      generalize (⟨(47 :: jn (tl l)).toArray⟩ : ByteArray) = q at *
      go_wp2_with fail
      refine (HSP.out q m w4 HQS.out (HM.out.below HB4.out) (HT.out.below HB4.out)).mono ?_
      rintro e w5 ⟨hb5, hr⟩
      have HB5 := Lib.hid (Below.step HB4.out hb5)
      rw [HSJ2.out] at hr
      rcases hr with ⟨_, a5, c5, L5, rfl, hs5, htl5, _⟩ | ⟨hno, _⟩
      rotate_left
      · exact absurd rfl hno
      obtain rfl := tl_inj htl5
      have HS5 := Lib.hid hs5
      clear hb5 hs5 htl5
      go_wp2_with fail
      refine (HEQ.out a5 a c5 cap L5 L5 w5 HS5.out (HS.out.below HB5.out) (by omega) (by omega)).mono ?_
      rintro e w6 ⟨rfl, qn, rfl⟩
      have ft : decide (L5 = L5) = true := by simp
      go_wp2_with fail
      go_ret
      exact ⟨by simp, below_dn HB5.out qn⟩
    · have f1 : ((joinP ck (tl l)).2 != 0) = true := by simpa using hj
      have HE := Lib.hid (joinP_err hj)
      rw [HE.out]
      generalize (joinP ck (tl l)).2 = c at *
      have f2 : (⟨([] : T).toArray⟩ : ByteArray).toList.isEmpty = true := empty_strB rfl
      clear hj
      go_wp2_with fail
      go_ret
      exact ⟨rfl, HB4.out⟩
  · have f1 : ((splP ck (bT p)).2 == 0) = false := by simpa using hno
    clear hno
    generalize (splP ck (bT p)).2 = c at *
    have HB3 := HB2
    obtain ⟨w3, rfl⟩ : ∃ w3 : World, w3 = w2 := ⟨_, rfl⟩
    go_wp2_with fail
    refine (HTAIL.out w3 HB3.out).out.mono ?_
    rintro e w4 ⟨hb4, rfl⟩
    have HB4 := Lib.hid (Below.step HB3.out hb4)
    clear hb4
    by_cases hj : (joinP ck (tl l)).2 = 0
    · have HJO := Lib.hid (joinP_ok hj)
      have HSJ := Lib.hid (back_join ck_ok HJO.out.1)
      rw [hj]
      have hq1 : (joinP ck (tl l)).1 = 47 :: jn (tl l) := HJO.out.2
      rw [hq1]
      have h8 : l.length ≤ 8 := by
        have := ((chkAll_ok ck _ _).1 HJO.out.1).1
        rw [tl_length] at this
        rcases this with h | h
        · have : l.length = 0 := by rw [← tl_length, h]; rfl
          omega
        · omega
      have hjl := jn_len 1048576 (tl l) HJS.out
      rw [tl_length] at hjl
      have h88 : l.length * (1048576 + 1) ≤ 8 * (1048576 + 1) := Nat.mul_le_mul_right _ h8
      have HQS : Hid ((⟨(47 :: jn (tl l)).toArray⟩ : ByteArray).size < 4294967281) := by
        show (47 :: jn (tl l)).length < 4294967281
        rw [List.length_cons]; omega
      have HQT : Hid (bT ⟨(47 :: jn (tl l)).toArray⟩ = 47 :: jn (tl l)) := bT_mk _
      have HSJ2 : Hid (splP ck (bT ⟨(47 :: jn (tl l)).toArray⟩) = (tl l, 0)) := by show _ = _; rw [HQT.out]; exact HSJ.out
      clear hq1 hj hjl h88 HSJ HQT HJO
      generalize (⟨(47 :: jn (tl l)).toArray⟩ : ByteArray) = q at *
      go_wp2_with fail
      refine (HSP.out q m w4 HQS.out (HM.out.below HB4.out) (HT.out.below HB4.out)).mono ?_
      rintro e w5 ⟨hb5, hr⟩
      have HB5 := Lib.hid (Below.step HB4.out hb5)
      rw [HSJ2.out] at hr
      rcases hr with ⟨_, a5, c5, L5, rfl, hs5, htl5, _⟩ | ⟨hno, _⟩
      rotate_left
      · exact absurd rfl hno
      obtain rfl := tl_inj htl5
      have HS5 := Lib.hid hs5
      clear hb5 hs5 htl5
      go_wp2_with fail
      refine (HEQ.out a5 a c5 cap L5 L5 w5 HS5.out (HS.out.below HB5.out) (by omega) (by omega)).mono ?_
      rintro e w6 ⟨rfl, qn, rfl⟩
      have ft : decide (L5 = L5) = true := by simp
      go_wp2_with fail
      go_ret
      exact ⟨by simp, below_dn HB5.out qn⟩
    · have f1 : ((joinP ck (tl l)).2 != 0) = true := by simpa using hj
      have HE := Lib.hid (joinP_err hj)
      rw [HE.out]
      generalize (joinP ck (tl l)).2 = c at *
      have f2 : (⟨([] : T).toArray⟩ : ByteArray).toList.isEmpty = true := empty_strB rfl
      clear hj
      go_wp2_with fail
      go_ret
      exact ⟨rfl, HB4.out⟩
end Go.Proofs.YtokckcmkbnhhhaaDoor
