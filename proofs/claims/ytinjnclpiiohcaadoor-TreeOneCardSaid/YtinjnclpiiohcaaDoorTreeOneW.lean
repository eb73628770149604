/- TreeOne: its walk. -/
import Derived.Test.YtinjnclpiiohcaaDoorTreeRead
namespace Go.Proofs.YtinjnclpiiohcaaDoor
open Go.RowKit Plain
theorem rOk_nil : ROk ⟨#[0]⟩ [] := ⟨by decide, ⟨by decide, fun m hm => by simp at hm, fun i h => by simp at h⟩, [], by decide, .nil⟩
theorem tOk_nil : TOk [] := ⟨by decide, fun m hm => by simp at hm, fun i h => by simp at h⟩
theorem ROk.wok {s : ByteArray} {l : List MN} (h : ROk s l) : WOk l := ⟨h.2.1, strN s, h.2.2.tx (strN_lt s), by rw [strN_length]; exact h.1⟩
theorem nat_none (w : World) : NAt w none [] := ⟨fun i hi => by simp at hi, fun m hm => by simp at hm⟩
set_option maxRecDepth 100000 in
set_option maxHeartbeats 4000000 in
theorem treeOne_any (s : ByteArray) (w : World) (hT : Tabs w) (hM : MaxC w) :
    Calls Tryd.prog 7 #[.string s] w fun e w' => e = .returned (.bool true) ∧ Below w.heap.size w w' := by
  have HT := Lib.hid hT
  have HM := Lib.hid hM
  have HR0 := Lib.hid fun u hu => tread_any ⟨#[0]⟩ u hu
  have HC0 := Lib.hid fun u hu => tcheck_any none 0 [] u (nat_none u).1 (by decide) (fun m hm => by simp at hm) hu
  have HRS := Lib.hid fun u hu => tread_any s u hu
  have HW0 := Lib.hid fun u hu hm => twrite_any none 0 [] u (nat_none u) (by decide) (fun m hm => by simp at hm) hu hm
  simp only [List.length_nil] at HC0 HW0
  clear hT hM
  go_enter Tryd.func7, Tryd.ntmps7
  go_wp2_with fail
  refine (HR0.out _ HT.out).mono ?_
  rintro e w1 ⟨⟨l0, a0, c0, _, rfl, _, _⟩ | ⟨c, hc, rfl, hn⟩, hb1⟩
  · have HB1 := Lib.hid hb1
    clear hb1
    go_wp2_with fail
    refine (HC0.out _ (HT.out.below HB1.out)).mono ?_
    rintro e w2 ⟨c, rfl, hc, hb2⟩
    obtain rfl := hc.2 tOk_nil
    have HB2 := Lib.hid (Below.step HB1.out hb2)
    clear hb2 hc
    go_wp2_with fail
    refine (HRS.out _ (HT.out.below HB2.out)).mono ?_
    rintro e w3 ⟨⟨l, a, cap, hok, rfl, hna, hz⟩ | ⟨c, hc, rfl, hn⟩, hb3⟩
    · have HB3 := Lib.hid (Below.step HB2.out hb3)
      have HOK := Lib.hid hok
      have hlen := hok.2.1.1
      have HWL := Lib.hid (twrite_any a cap l w3 hna (by omega) hz (HT.out.below HB3.out) (HM.out.below HB3.out))
      clear hb3 hok hna hz
      go_wp2_with fail
      refine HWL.out.mono ?_
      rintro e w4 ⟨⟨_, t, ht, _, rfl⟩ | ⟨hn, _⟩, hb4⟩
      · obtain rfl : t = s := strN_inj (ht.unique (HOK.out.2.2.tx (strN_lt s)))
        have HB4 := Lib.hid (Below.step HB3.out hb4)
        have htt : (t.toList == t.toList) = true := by simp
        clear hb4 ht HWL
        go_wp2_with fail
        go_ret
        exact ⟨rfl, HB4.out⟩
      · exact absurd HOK.out.wok hn
    · have HB3 := Lib.hid (Below.step HB2.out hb3)
      have f1 : (c != 0) = true := by simpa using hc
      have f2 : (c == 0) = false := by simpa using hc
      have hne : s ≠ ⟨#[0]⟩ := fun e => hn [] (e ▸ rOk_nil)
      have hne2 : (s.toList == [0]) = false := beq_eq_false_iff_ne.2 fun e => hne (ByteArray.ext (Array.toList_inj.1 (by rw [← Lib.toList_data, e])))
      have HWL := Lib.hid (HW0.out w3 (HT.out.below HB3.out) (HM.out.below HB3.out))
      clear hb3 hn
      go_wp2_with fail
      refine HWL.out.mono ?_
      rintro e w4 ⟨⟨_, t, _, _, rfl⟩ | ⟨_, c4, _, rfl⟩, hb4⟩
      · have HB4 := Lib.hid (Below.step HB3.out hb4)
        clear hb4 HWL
        go_wp2_with fail
        go_ret
        exact ⟨rfl, HB4.out⟩
      · have HB4 := Lib.hid (Below.step HB3.out hb4)
        clear hb4 HWL
        go_wp2_with fail
        go_ret
        exact ⟨rfl, HB4.out⟩
  · exact absurd rOk_nil (hn [])
end Go.Proofs.YtinjnclpiiohcaaDoor
