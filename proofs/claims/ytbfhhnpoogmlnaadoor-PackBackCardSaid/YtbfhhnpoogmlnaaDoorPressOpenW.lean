/- Press: Open, and the walk of PressBound. -/
import Derived.Test.YtbfhhnpoogmlnaaDoorPressOpen
namespace Go.Proofs.YtbfhhnpoogmlnaaDoor
open Go.RowKit Plain
set_option linter.unusedVariables false
set_option linter.unusedSimpArgs false
def OpnEnd (w0 : World) (s : ByteArray) (e : Ending) (w : World) : Prop := Below w0.heap.size w0 w ∧ ∃ (k : Nat) (t : ByteArray), e = .returned (.tuple #[.string t, .int .i64 (k : Int)]) ∧ (k ≠ 0 → t = ⟨#[]⟩) ∧ t.size ≤ 4096 ∧ (k = 0 → 0 < s.size) ∧
  (∀ r, strN s = 0 :: r → r.length ≤ 4096 → k = 0 ∧ strN t = r) ∧ (∀ r out, strN s = 1 :: r → PGood r out → k = 0 ∧ strN t = out)
theorem strN_one {s : ByteArray} (h : 0 < s.size) : strN s = (s[0]'h).toNat :: strN (s.extract 1 s.size) := by rw [strN_cons s h, extract_strN]
set_option maxRecDepth 100000 in
set_option maxHeartbeats 4000000 in
theorem popen1_any (s : ByteArray) (w : World) (hs : s.size ≤ 9223372036854775807) :
    Calls Tryd.prog 26 #[.string s] w (OpnEnd w s) := by
  by_cases h0 : s.size = 0
  · have z0 := empty_str (s := s) h0
    have HNIL : Hid (strN s = []) := by show _ = _; apply List.eq_nil_of_length_eq_zero; rw [strN_length]; exact h0
    clear h0
    go_enter Tryd.func26, Tryd.ntmps26
    go_wp2_with fail
    go_ret2
    exact ⟨Below.refl _ _, 3, ⟨#[]⟩, rfl, fun _ => rfl, by decide, fun h => absurd h (by decide), fun r h _ => (by rw [HNIL.out] at h; cases h), fun r out h _ => by rw [HNIL.out] at h; cases h⟩
  · have z0 := full_str (s := s) h0
    have hp : 0 < s.size := by omega
    have z1 : (0 : Int) < (s.size : Int) := by omega
    have z2 : (1 : Int) ≤ (s.size : Int) := by omega
    have HC := Lib.hid (strN_one hp)
    have HX : Hid ((s.extract 1 s.size).size = s.size - 1) := by show _ = _; rw [← strN_length, extract_strN, List.length_drop, strN_length]
    have HP := Lib.hid hp
    obtain ⟨b, hb⟩ : ∃ b, (s[0]'hp).toNat = b := ⟨_, rfl⟩
    obtain ⟨y, hy⟩ : ∃ y, s.extract 1 s.size = y := ⟨_, rfl⟩
    rw [hb, hy] at HC
    rw [hy] at HX
    have hw : IntKind.i64.wrap ((s.size : Int) - 1) = (s.size : Int) - 1 := by rw [IntKind.wrap_i64]; omega
    clear h0
    by_cases hb0 : b = 0
    · subst hb0
      by_cases hl : 4096 < (s.size : Int) - 1
      · have HL := Lib.hid hl
        go_enter Tryd.func26, Tryd.ntmps26
        go_wp2_with fail
        go_ret2
        refine ⟨Below.refl _ _, 2, ⟨#[]⟩, rfl, fun _ => rfl, by decide, fun h => absurd h (by decide), fun r h hr => ?_, fun r out h _ => by rw [HC.out] at h; injection h with h _; cases h⟩
        rw [HC.out] at h
        injection h with _ h
        rw [← h, strN_length, HX.out] at hr
        have := HL.out
        omega
      · have HL := Lib.hid hl
        go_enter Tryd.func26, Tryd.ntmps26
        go_wp2_with fail
        go_ret2
        refine ⟨Below.refl _ _, 0, y, rfl, fun h => absurd rfl h, by have := HL.out; have := HX.out; omega, fun _ => HP.out, fun r h hr => ⟨rfl, ?_⟩, fun r out h _ => by rw [HC.out] at h; injection h with h _; cases h⟩
        rw [HC.out] at h
        injection h with _ h
    · by_cases hb1 : b = 1
      · subst hb1
        have hxs : y.size ≤ 9223372036854775807 := by have := HX.out; omega
        have HXS := Lib.hid hxs
        clear hxs
        go_enter Tryd.func26, Tryd.ntmps26
        go_wp2_with fail
        refine (popen_any y _ HXS.out).mono ?_
        rintro e w1 ⟨hb1, k, t, rfl, hk, ht, hg⟩
        have HB1 := Lib.hid hb1
        have HK := Lib.hid hk
        have HT := Lib.hid ht
        have HG := Lib.hid hg
        clear hb1 hk ht hg
        go_wp2_with fail
        go_ret2
        refine ⟨HB1.out, k, t, rfl, HK.out, HT.out, fun _ => HP.out, fun r h _ => (by rw [HC.out] at h; injection h with h _; cases h), fun r out h hr => ?_⟩
        rw [HC.out] at h
        injection h with _ h
        subst h
        exact HG.out out hr
      · have z3 : ((b : Int) == 0) = false := beq_eq_false_iff_ne.2 (by omega)
        have z4 : ((b : Int) == 1) = false := beq_eq_false_iff_ne.2 (by omega)
        have HB0 := Lib.hid hb0
        have HB1 := Lib.hid hb1
        clear hb0 hb1
        go_enter Tryd.func26, Tryd.ntmps26
        go_wp2_with fail
        go_ret2
        exact ⟨Below.refl _ _, 5, ⟨#[]⟩, rfl, fun _ => rfl, by decide, fun h => absurd h (by decide), fun r h _ => (by rw [HC.out] at h; injection h with h _; exact absurd h HB0.out), fun r out h _ => by rw [HC.out] at h; injection h with h _; exact absurd h HB1.out⟩
end Go.Proofs.YtbfhhnpoogmlnaaDoor
