/- The walks of lumkeep.short and of R.Rest. -/
import Derived.Test.YtinjnclpiiohcaaLineCk
namespace Go.Proofs.Ytinjnclpiiohcaa
open Go.RowKit Plain
set_option linter.unusedVariables false
set_option linter.unusedSimpArgs false
set_option maxRecDepth 100000 in
theorem rest_eq (a n : Int) (w : World) (hn : 0 < n) (hn2 : n < 4611686018427387904) :
    Calls Try.prog 58 #[.int .i64 a, .int .i64 n] w fun e w' => (∃ r : Nat, (r : Int) < n ∧ (r : Int) = (a.tmod n + n).tmod n ∧ e = .returned (.int .i64 (r : Int))) ∧ w' = w := by
  have h1 := Int.tmod_lt_of_pos a hn
  have h2 := Int.lt_tmod_of_pos a hn
  obtain ⟨t, ht⟩ : ∃ t, a.tmod n = t := ⟨_, rfl⟩
  rw [ht] at h1 h2
  have h3 := Int.tmod_lt_of_pos (t + n) hn
  have h4 : 0 ≤ (t + n).tmod n := Int.tmod_nonneg _ (by omega)
  obtain ⟨r, hr⟩ : ∃ r : Nat, (t + n).tmod n = (r : Int) := ⟨((t + n).tmod n).toNat, by omega⟩
  rw [ht]
  rw [hr] at h3 h4
  have hw : IntKind.i64.wrap (t + n) = t + n := wraps_i64 _ (by omega) (by omega)
  go_enter Try.func58, Try.ntmps58
  go_wp2
  go_ret
  exact ⟨⟨r, h3, hr.symm, rfl⟩, rfl⟩
set_option maxRecDepth 100000 in
theorem sh1_any (s : ByteArray) (w : World) : Calls Try.prog 57 #[.string s] w fun e w' => e = .returned (.bool (decide ((s.size : Int) > 1024))) ∧ Below w.heap.size w w' := by
  go_enter Try.func57, Try.ntmps57
  go_wp2_with fail
  go_ret
  exact ⟨rfl, Below.refl _ _⟩
def IxEnd (w0 : World) (p : Prop) (e : Ending) (w : World) : Prop := ∃ r : Int, e = .returned (.int .i64 r) ∧ (0 ≤ r ↔ p) ∧ Below w0.heap.size w0 w
set_option maxRecDepth 100000 in
set_option maxHeartbeats 4000000 in
theorem indexS_any (a : Option Addr) (cap : Nat) (l : List ByteArray) (w : World) (h : SAt 1 stC w a l) (hl : l.length ≤ 60) :
    Calls Try.prog 70 #[.slice a l.length cap, .func (.func 57) #[] #[]] w (IxEnd w (∃ s ∈ l, 1024 < s.size)) := by
  have HS := Lib.hid h
  have HC := Lib.hid fun s u => sh1_any s u
  clear h
  go_enter Try.func70, Try.ntmps70
  go_wp2_with fail
  go_loopw [8] (fun iv wr => ∃ i : Nat, i ≤ l.length ∧ iv = .int .i64 (i : Int) ∧ Hid (Below w.heap.size w wr) ∧ Hid (∀ q (h : q < l.length), q < i → l[q].size ≤ 1024)) (fun iv _ => l.length - (intOf iv).toNat)
  case atStart => exact ⟨0, by omega, rfl, Lib.hid (Below.refl _ _), Lib.hid (fun q _ h => by omega)⟩
  case round =>
    obtain ⟨i, hi, rfl, HBR, HP⟩ := hrel
    have m0 : (0 : Int) ≤ (i : Int) := Int.natCast_nonneg _
    by_cases hil : i < l.length
    · have m1 : (i : Int) < (l.length : Int) := by omega
      obtain ⟨x, hx⟩ : ∃ x, l[i] = x := ⟨_, rfl⟩
      obtain ⟨g, off, rfl, hg, c0⟩ := SAt.cell1 (fun s => .string s) (fun _ => rfl) (HS.out.below HBR.out) i hil x hx
      have HX := Lib.hid hx
      have HCX := Lib.hid fun u => HC.out x u
      clear hx hg
      go_wp2_with fail
      refine (HCX.out _).mono ?_
      rintro e w1 ⟨rfl, hb1⟩
      have HB1 := Lib.hid (Below.step HBR.out hb1)
      clear hb1
      by_cases hs : (x.size : Int) > 1024
      · have hd : decide ((x.size : Int) > 1024) = true := by simpa using hs
        rw [hd]
        have HQ : Hid (∃ s ∈ l, 1024 < s.size) := ⟨x, by have := HX.out; rw [← this]; exact List.getElem_mem _, by omega⟩
        clear hs hd
        go_wp2_with fail
        go_ret
        exact ⟨_, rfl, ⟨fun _ => HQ.out, fun _ => m0⟩, HB1.out⟩
      · have hd : decide ((x.size : Int) > 1024) = false := by simpa using hs
        rw [hd]
        have HPN : Hid (∀ q (h : q < l.length), q < i + 1 → l[q].size ≤ 1024) := fun q h1 h2 => by
          rcases Nat.lt_or_ge q i with h3 | h3
          · exact HP.out q h1 h3
          · obtain rfl : q = i := by omega
            rw [HX.out]
            omega
        clear hs hd
        go_wp2_with fail
        go_roundw
        case rel => exact ⟨i + 1, by omega, by go_num, HB1, HPN⟩
        case measure => simp [intOf]; omega
    · have m1 : ¬ (i : Int) < (l.length : Int) := by omega
      have HN : Hid (¬ ∃ s ∈ l, 1024 < s.size) := fun ⟨s, hs, hz⟩ => by
        obtain ⟨q, hq, rfl⟩ := List.mem_iff_getElem.1 hs
        have := HP.out q hq (by omega)
        omega
      go_wp2_with fail
      go_ret
      exact ⟨_, rfl, ⟨fun h => absurd h (by decide), fun h => absurd h HN.out⟩, HBR.out⟩
set_option maxRecDepth 100000 in
theorem containsS_any (a : Option Addr) (cap : Nat) (l : List ByteArray) (w : World) (h : SAt 1 stC w a l) (hl : l.length ≤ 60) :
    Calls Try.prog 56 #[.slice a l.length cap, .func (.func 57) #[] #[]] w fun e w' => (∃ b, e = .returned (.bool b) ∧ (b = true ↔ ∃ s ∈ l, 1024 < s.size)) ∧ Below w.heap.size w w' := by
  have HC := Lib.hid (indexS_any a cap l w h hl)
  go_enter Try.func56, Try.ntmps56
  go_wp2_with fail
  refine HC.out.mono ?_
  rintro e w1 ⟨r, rfl, hr, hb⟩
  have HR := Lib.hid hr
  have HB := Lib.hid hb
  clear hr hb
  go_wp2_with fail
  go_ret
  exact ⟨⟨decide (0 ≤ r), rfl, by rw [decide_eq_true_iff]; exact HR.out⟩, HB.out⟩
def Short (T : List ByteArray) : Prop := T.length ≤ 60 ∧ ∀ s ∈ T, s.size ≤ 1024
def ShEnd (w0 : World) (T : List ByteArray) (e : Ending) (w : World) : Prop := (∃ b, e = .returned (.bool b) ∧ (b = true ↔ Short T)) ∧ Below w0.heap.size w0 w
set_option maxRecDepth 100000 in
theorem short_any (a : Option Addr) (cap : Nat) (l : List ByteArray) (w : World) (h : SAt 1 stC w a l) (hn : l.length ≤ 9223372036854775807) :
    Calls Try.prog 24 #[.slice a l.length cap] w (ShEnd w l) := by
  have HC := Lib.hid fun hl => containsS_any a cap l w h hl
  go_enter Try.func24, Try.ntmps24
  by_cases hl : l.length ≤ 60
  · have h1 : (l.length : Int) ≤ 60 := by omega
    go_wp2_with fail
    refine (HC.out hl).mono ?_
    rintro e w1 ⟨⟨b, rfl, hb⟩, hbw⟩
    have HB := Lib.hid hb
    have HBW := Lib.hid hbw
    clear hb hbw
    cases b with
    | true =>
      go_wp2_with fail
      go_ret
      exact ⟨⟨false, rfl, ⟨fun h => by simp at h, fun h => by obtain ⟨s, hs, hz⟩ := HB.out.1 (by trivial); have := h.2 s hs; omega⟩⟩, HBW.out⟩
    | false =>
      go_wp2_with fail
      go_ret
      exact ⟨⟨true, rfl, ⟨fun _ => ⟨hl, fun s hs => by
        rcases Nat.lt_or_ge 1024 s.size with h2 | h2
        · have := HB.out.2 ⟨s, hs, h2⟩; simp at this
        · exact h2⟩, fun _ => rfl⟩⟩, HBW.out⟩
  · have h1 : ¬ ((l.length : Int) ≤ 60) := by omega
    go_wp2_with fail
    go_ret
    exact ⟨⟨false, rfl, ⟨fun h => by simp at h, fun h => absurd h.1 hl⟩⟩, Below.refl _ _⟩
end Go.Proofs.Ytinjnclpiiohcaa
