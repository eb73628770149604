/- glob.Match. -/
import Derived.Test.YtokckcmkbnhhhaaDoorGlobParse
namespace Go.Proofs.YtokckcmkbnhhhaaDoor
open Go.RowKit Plain
set_option linter.unusedVariables false
set_option linter.unusedSimpArgs false
set_option maxRecDepth 100000 in
set_option maxHeartbeats 4000000 in
theorem gmatch_any (p q : ByteArray) (m : Int) (w : World) (hm : MaxL m w) (hT : Tabs w) (hp63 : p.size ≤ 9223372036854775807) (hq : q.size < 4294967281) :
    Calls Tryd.prog 52 #[.string p, .string q] w fun e w' => e = .returned (.tuple #[.bool (matchP (bT p) (bT q)).1, .int .i64 (matchP (bT p) (bT q)).2]) ∧ Below w.heap.size w w' := by
  have HPA := Lib.hid (gparse_any p m w hm hT hp63)
  have HSP := Lib.hid fun (W : World) (hb : Below w.heap.size w W) => split_any q m W hq (hm.below hb) (hT.below hb)
  have HMP : Hid (matchP (bT p) (bT q) = if (parseP (bT p)).2 ≠ 0 then (false, (parseP (bT p)).2) else if (splP ck (bT q)).2 ≠ 0 then (false, (splP ck (bT q)).2) else (pathP (parseP (bT p)).1 (splP ck (bT q)).1, 0)) := Lib.hid rfl
  clear hm hT
  go_enter Tryd.func52, Tryd.ntmps52
  go_wp2_with fail
  refine HPA.out.mono ?_
  rintro e u ⟨hb, hend⟩
  have HBU := Lib.hid hb
  clear hb HPA
  rcases hend with ⟨h0, a, c, L, rfl, hq1, hq2⟩ | ⟨h0, rfl⟩
  · have HQ := Lib.hid hq1
    have HL := Lib.hid hq2
    have H0 := Lib.hid h0
    clear hq1 hq2 h0
    go_wp2_with fail
    refine (HSP.out _ HBU.out).mono ?_
    rintro e v ⟨hb, hend⟩
    have HBV := Lib.hid (Below.step HBU.out hb)
    have HQV := Lib.hid (HQ.out.below hb)
    clear hb HSP HQ
    rcases hend with ⟨k0, b, cq, S, rfl, hs, hs2, hs3, hs4, hs5⟩ | ⟨k0, rfl⟩
    · have HPT := Lib.hid (gpath_any L a c S b cq v HQV.out.at hs (by have := HQV.out.2.2.1; omega) (by omega) (fun x hx => by have := HQV.out.2.2.2 x hx; omega) (fun x hx => by have := hs5 x hx; omega))
      have HF : Hid (matchP (bT p) (bT q) = (pathP (L.map ptOf) (tl S), 0)) := Lib.hid (by rw [HMP.out, if_neg (by simp [H0.out]), if_neg (by simp [k0]), HL.out, hs2])
      clear hs hs2 hs3 hs4 hs5 k0
      go_wp2_with fail
      refine HPT.out.mono ?_
      rintro e x ⟨rfl, hb⟩
      have HBX := Lib.hid (Below.step HBV.out hb)
      clear hb HPT
      generalize pathP (L.map ptOf) (tl S) = r at *
      go_wp2_with fail
      go_ret2
      exact ⟨by rw [HF.out]; rfl, HBX.out⟩
    · have HF : Hid (matchP (bT p) (bT q) = (false, (splP ck (bT q)).2)) := Lib.hid (by rw [HMP.out, if_neg (by simp [H0.out]), if_pos k0])
      generalize (splP ck (bT q)).2 = c at *
      have f1 : (c != 0) = true := by simpa using k0
      clear k0
      go_wp2_with fail
      go_ret2
      exact ⟨by rw [HF.out]; rfl, HBV.out⟩
  · have HF : Hid (matchP (bT p) (bT q) = (false, (parseP (bT p)).2)) := Lib.hid (by rw [HMP.out, if_pos h0])
    clear HMP
    generalize (parseP (bT p)).2 = c at *
    have f1 : (c != 0) = true := by simpa using h0
    clear h0
    go_wp2_with fail
    go_ret2
    exact ⟨by rw [HF.out]; rfl, HBU.out⟩
set_option maxRecDepth 100000 in
theorem fits_any (p q : ByteArray) (m : Int) (w : World) (hm : MaxL m w) (hT : Tabs w) (hp63 : p.size ≤ 9223372036854775807) (hq : q.size < 4294967281) :
    Calls Tryd.prog 29 #[.string p, .string q] w fun e w' => e = .returned (.bool (fitsP (bT p) (bT q))) ∧ Below w.heap.size w w' := by
  have HM := Lib.hid (gmatch_any p q m w hm hT hp63 hq)
  have HF : Hid (fitsP (bT p) (bT q) = ((matchP (bT p) (bT q)).1 && decide ((matchP (bT p) (bT q)).2 = 0))) := Lib.hid rfl
  clear hm hT
  generalize matchP (bT p) (bT q) = M at *
  obtain ⟨b, c⟩ := M
  go_enter Tryd.func29, Tryd.ntmps29
  go_wp2_with fail
  refine HM.out.mono ?_
  rintro e u ⟨rfl, hb⟩
  have HB := Lib.hid hb
  clear hb HM
  cases b with
  | false =>
    go_wp2_with fail
    go_ret
    exact ⟨by rw [HF.out]; rfl, HB.out⟩
  | true =>
    by_cases hc : c = 0
    · subst hc
      go_wp2_with fail
      go_ret
      exact ⟨by rw [HF.out]; rfl, HB.out⟩
    · have f1 : (c == 0) = false := by simpa using hc
      have HD : Hid (decide (c = 0) = false) := Lib.hid (decide_eq_false hc)
      clear hc
      go_wp2_with fail
      go_ret
      exact ⟨by rw [HF.out]; show Ending.returned (.bool false) = Ending.returned (.bool (true && decide (c = 0))); rw [HD.out]; rfl, HB.out⟩
end Go.Proofs.YtokckcmkbnhhhaaDoor
