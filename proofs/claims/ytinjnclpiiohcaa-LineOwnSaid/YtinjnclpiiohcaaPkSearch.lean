/- The walk of slices.BinarySearchFunc over packets at Takes$1. -/
import Derived.Test.YtinjnclpiiohcaaLineCk
namespace Go.Proofs.Ytinjnclpiiohcaa
open Go.RowKit Plain
set_option linter.unusedVariables false
set_option linter.unusedSimpArgs false
set_option maxRecDepth 100000 in
theorem tcl_any (p : PkT) (t : Int) (w : World) : Calls Try.prog 51 #[.agg (pkC p).toArray, .int .i64 t] w fun e w' => e = .returned (.int .i64 (cmpI p.2.1 t)) ∧ Below w.heap.size w w' := by
  obtain ⟨k, q, s⟩ := p
  have HC := Lib.hid fun u => cmpI_any q t u
  have HB := Lib.hid ((Below.refl w.heap.size w).alloc (Nat.le_refl _) (.cells #[.int .i64 k, .int .i64 q, .string s] 30))
  simp only [pkC]
  go_enter Try.func51, Try.ntmps51
  go_wp2_with fail
  refine (HC.out _).mono ?_
  rintro e w' ⟨rfl, rfl⟩
  go_wp2_with fail
  go_ret
  exact ⟨rfl, HB.out⟩
def PSr (l : List PkT) (t : Int) (i j : Nat) : Prop := i ≤ j ∧ j ≤ l.length ∧ (∀ q (h : q < l.length), q < i → l[q].2.1 < t) ∧ ∀ q (h : q < l.length), j ≤ q → t ≤ l[q].2.1
def PsEnd (w0 : World) (l : List PkT) (t : Int) (e : Ending) (w : World) : Prop := ∃ (i : Nat) (f : Bool), PSr l t i i ∧ (f = true ↔ ∃ h : i < l.length, l[i].2.1 = t) ∧ e = .returned (.tuple #[.int .i64 (i : Int), .bool f]) ∧ Below w0.heap.size w0 w
set_option maxRecDepth 100000 in
set_option maxHeartbeats 4000000 in
theorem psearch_any (a : Option Addr) (cap : Nat) (l : List PkT) (t : Int) (w : World) (h : SAt 3 pkC w a l) (h8 : l.length ≤ 8) (hso : ∀ p q (hp : p < l.length) (hq : q < l.length), p < q → l[p].2.1 < l[q].2.1) :
    Calls Try.prog 50 #[.slice a l.length cap, .int .i64 t, .func (.func 51) #[] #[]] w (PsEnd w l t) := by
  have HS := Lib.hid h
  have HSO := Lib.hid hso
  have HC := Lib.hid fun p u => tcl_any p t u
  clear h hso
  go_enter Try.func50, Try.ntmps50
  go_wp2_with fail
  go_loopw [9, 10] (fun iv jv wr => ∃ i j : Nat, iv = .int .i64 (i : Int) ∧ jv = .int .i64 (j : Int) ∧ Hid (Below w.heap.size w wr) ∧ Hid (PSr l t i j)) (fun iv jv _ => (intOf jv).toNat - (intOf iv).toNat)
  case atStart => exact ⟨0, l.length, rfl, rfl, Lib.hid (Below.refl _ _), Lib.hid ⟨by omega, by omega, fun q _ h => by omega, fun q h h' => by omega⟩⟩
  case round =>
    obtain ⟨i, j, rfl, rfl, HBR, HP⟩ := hrel
    have hij := HP.out.1
    have hjl := HP.out.2.1
    by_cases hlt : i < j
    · have m1 : (i : Int) < (j : Int) := by omega
      obtain ⟨m, hm⟩ : ∃ m, m = (i + j) / 2 := ⟨_, rfl⟩
      have em : ((i : Int) + (j : Int)) / 2 = (m : Int) := by omega
      have m2 : (m : Int) < (l.length : Int) := by omega
      have m0 : (0 : Int) ≤ (m : Int) := Int.natCast_nonneg _
      have HEM := Lib.hid em
      have hmi : i ≤ m := by omega
      have hmj0 : m < j := by omega
      have hml : m < l.length := by omega
      have HMM := Lib.hid hm
      clear em hm
      obtain ⟨p, hp⟩ : ∃ p, l[m]'hml = p := ⟨_, rfl⟩
      obtain ⟨g, off, rfl, hg, k0, k1, k2⟩ := (HS.out.below HBR.out).packet m hml p hp
      have HPE := Lib.hid hp
      clear hp hg
      obtain ⟨k, q, s⟩ := p
      have HCC := Lib.hid (fun u => HC.out (k, q, s) u)
      simp only [pkC] at HCC
      rw [HMM.out] at k0 k1 k2
      go_wp2_with fail
      refine (HCC.out _).mono ?_
      rintro e w1 ⟨rfl, hb1⟩
      have HB1 := Lib.hid (Below.step HBR.out hb1)
      clear hb1
      by_cases hq : q < t
      · have f1 : cmpI q t < 0 := by unfold cmpI; rw [if_pos hq]; decide
        have HPN : Hid (PSr l t (m + 1) j) := ⟨by omega, hjl, fun r h1 h2 => by
          rcases Nat.lt_or_ge r m with h3 | h3
          · have := HSO.out r m h1 (by omega) h3
            rw [HPE.out] at this
            simp only at this
            omega
          · obtain rfl : r = m := by omega
            rw [HPE.out]
            exact hq, HP.out.2.2.2⟩
        go_wp2_with fail
        go_roundw
        case rel => exact ⟨m + 1, j, by have := HEM.out; first | go_num | (congr 1; omega), rfl, HB1, HPN⟩
        case measure => have := HEM.out; simp [intOf]; omega
      · have f1 : ¬ (cmpI q t < 0) := by
          unfold cmpI
          rw [if_neg hq]
          split <;> decide
        have HPN : Hid (PSr l t i m) := ⟨hmi, by omega, HP.out.2.2.1, fun r h1 h2 => by
          rcases Nat.lt_or_ge m r with h3 | h3
          · have := HSO.out m r (by omega) h1 h3
            rw [HPE.out] at this
            simp only at this
            omega
          · obtain rfl : r = m := by omega
            rw [HPE.out]
            simp only
            omega⟩
        go_wp2_with fail
        go_roundw
        case rel => exact ⟨i, m, rfl, by have := HEM.out; first | rfl | go_num | (congr 1; omega), HB1, HPN⟩
        case measure => have := HEM.out; simp [intOf]; omega
    · have m1 : ¬ (i : Int) < (j : Int) := by omega
      obtain rfl : i = j := by omega
      by_cases hil : i < l.length
      · have m2 : (i : Int) < (l.length : Int) := by omega
        have m0 : (0 : Int) ≤ (i : Int) := Int.natCast_nonneg _
        obtain ⟨p, hp⟩ : ∃ p, l[i] = p := ⟨_, rfl⟩
        obtain ⟨g, off, rfl, hg, k0, k1, k2⟩ := (HS.out.below HBR.out).packet i hil p hp
        have HPE := Lib.hid hp
        clear hp hg
        obtain ⟨k, q, s⟩ := p
        have HCC := Lib.hid (fun u => HC.out (k, q, s) u)
        simp only [pkC] at HCC
        go_wp2_with fail
        refine (HCC.out _).mono ?_
        rintro e w1 ⟨rfl, hb1⟩
        have HB1 := Lib.hid (Below.step HBR.out hb1)
        clear hb1
        have HZ : Hid (cmpI q t = 0 ↔ q = t) := cmpI_zero q t
        obtain ⟨z, hz⟩ : ∃ z, cmpI q t = z := ⟨_, rfl⟩
        rw [hz] at HZ ⊢
        clear hz
        go_wp2_with fail
        go_ret2
        exact ⟨i, z == 0, HP.out, by rw [beq_iff_eq, HZ.out]; exact ⟨fun h => ⟨hil, by rw [HPE.out]; exact h⟩, fun ⟨_, h⟩ => by rw [HPE.out] at h; exact h⟩, rfl, HB1.out⟩
      · have m2 : ¬ (i : Int) < (l.length : Int) := by omega
        go_wp2_with fail
        go_ret2
        exact ⟨i, false, HP.out, by simp [hil], rfl, HBR.out⟩
end Go.Proofs.Ytinjnclpiiohcaa
