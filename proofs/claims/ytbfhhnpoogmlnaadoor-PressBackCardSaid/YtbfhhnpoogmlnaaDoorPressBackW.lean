/- PressBack: its walk. -/
import Derived.Test.YtbfhhnpoogmlnaaDoorPressPress
import Derived.Test.YtbfhhnpoogmlnaaDoorPressOpenW
namespace Go.Proofs.YtbfhhnpoogmlnaaDoor
open Go.RowKit Plain
set_option linter.unusedVariables false
set_option linter.unusedSimpArgs false
set_option maxRecDepth 100000 in
set_option maxHeartbeats 4000000 in
theorem pressBack_any (s : ByteArray) (w : World) (hs : s.size ≤ 9223372036854775807) :
    Calls Tryd.prog 8 #[.string s] w fun e w' => e = .returned (.bool true) ∧ Below w.heap.size w w' := by
  have HP := Lib.hid fun wx => press_any s wx
  have HO := Lib.hid fun (x : ByteArray) wx (hx : x.size ≤ 9223372036854775807) => popen1_any x wx hx
  go_enter Tryd.func8, Tryd.ntmps8
  go_wp2_with fail
  refine (HP.out _).mono ?_
  rintro e w1 ⟨hb1, ⟨hbig, rfl⟩ | ⟨hsm, t, rfl, h1, h2, h3⟩⟩
  · have HB1 := Lib.hid hb1
    have z1 : (4096 : Int) < (s.size : Int) := by omega
    clear hb1 hbig
    go_wp2_with fail
    go_ret
    exact ⟨rfl, HB1.out⟩
  · have HB1 := Lib.hid hb1
    have z1 : ¬ (4096 : Int) < (s.size : Int) := by omega
    have z2 : (t.size : Int) ≤ 1 + (s.size : Int) := by omega
    have zs : (s.size : Int) < 4097 := by omega
    have hts : t.size ≤ 9223372036854775807 := by omega
    have H3 := Lib.hid h3
    have HTS := Lib.hid hts
    have HSL : Hid ((strN s).length ≤ 4096) := by show _ ≤ _; rw [strN_length]; exact hsm
    clear hb1 h1 h2 h3 hts hsm
    go_wp2_with fail
    refine (HO.out t _ HTS.out).mono ?_
    rintro e w2 ⟨hb2, k, u, rfl, _, _, _, h5, h6⟩
    have hku : k = 0 ∧ strN u = strN s := by
      rcases H3.out with h | ⟨r, h, hg⟩
      · exact h5 _ h HSL.out
      · exact h6 r _ h hg
    obtain ⟨rfl, hu⟩ := hku
    obtain rfl : u = s := strN_inj hu
    have HB2 := Lib.hid (HB1.out.trans (hb2.mono HB1.out.size))
    clear hb2 h5 h6 hu
    go_wp2_with fail
    go_ret
    exact ⟨rfl, HB2.out⟩
end Go.Proofs.YtbfhhnpoogmlnaaDoor
