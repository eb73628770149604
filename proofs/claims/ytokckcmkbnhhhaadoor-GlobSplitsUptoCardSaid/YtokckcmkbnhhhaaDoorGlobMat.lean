/- An element against a character. -/
import Derived.Test.YtokckcmkbnhhhaaDoorGlobEls
namespace Go.Proofs.YtokckcmkbnhhhaaDoor
open Go.RowKit Plain
set_option linter.unusedVariables false
set_option linter.unusedSimpArgs false
def spIn (c : Nat) (s : Sp) : Bool := decide (s.1 ≤ c) && decide (c ≤ s.2)
theorem any_step {S : List Sp} {i : Nat} (h : i < S.length) (c : Nat) : (S.take (i + 1)).any (spIn c) = ((S.take i).any (spIn c) || spIn c S[i]) := by
  rw [List.take_succ_eq_append_getElem h, List.any_append]
  simp
set_option maxRecDepth 100000 in
set_option maxHeartbeats 4000000 in
theorem gmatches_any (k : Nat) (a : Option Addr) (cp : Nat) (S : List Sp) (b : Bool) (c : Nat) (w : World) (h : SAt 2 spC w a S) (hl : S.length ≤ 9223372036854775807) :
    Calls Tryd.prog 99 #[.agg #[.int .i64 (k : Int), .slice a S.length cp, .bool b], .int .i32 (c : Int)] w fun e w' => e = .returned (.bool (elMatch (k, S, b) c)) ∧ Below w.heap.size w w' := by
  have HS := Lib.hid h
  have HBX := Lib.hid ((Below.refl w.heap.size w).alloc (Nat.le_refl _) (.cells #[.int .i64 (k : Int), .slice a S.length cp, .bool b] 152))
  have HXX := Lib.hid (heap_alloc_new w (.cells #[.int .i64 (k : Int), .slice a S.length cp, .bool b] 152))
  clear h
  by_cases hk : k = 1
  · subst hk
    have HE : Hid (elMatch (1, S, b) c = true) := Lib.hid rfl
    rw [show ((1 : Nat) : Int) = 1 from rfl] at HBX ⊢
    go_enter Tryd.func99, Tryd.ntmps99
    go_wp2_with fail
    go_ret
    exact ⟨by rw [HE.out]; rfl, HBX.out⟩
  · have e1 : ((k : Int) == 1) = false := by rw [beq_eq_false_iff_ne]; omega
    have HE : Hid (elMatch (k, S, b) c = ((S.any (spIn c)) != b)) := Lib.hid (by unfold elMatch; rw [if_neg hk]; rfl)
    clear hk
    have HSB := Lib.hid (HS.out.below HBX.out)
    go_enter Tryd.func99, Tryd.ntmps99
    go_wp2_with fail
    go_loopw [5, 14] (fun bv iv wr => ∃ i : Nat, i ≤ S.length ∧ iv = .int .i64 (i : Int) ∧ bv = .bool ((S.take i).any (spIn c)) ∧ Hid (Below w.heap.size w wr) ∧ Hid (wr.heap[w.heap.size]? = some (.cells #[.int .i64 (k : Int), .slice a S.length cp, .bool b] 152 (0, 0)))) (fun _ iv _ => S.length - (intOf iv).toNat)
    case atStart => exact ⟨0, by omega, rfl, by simp, HBX, HXX⟩
    case round =>
      obtain ⟨i, hi, rfl, rfl, HB, HX⟩ := hrel
      by_cases hlt : i < S.length
      · have m1 : (i : Int) < (S.length : Int) := by omega
        have hst := any_step hlt c
        obtain ⟨g, off, rfl, hg, hr⟩ := (HS.out.below HB.out) i hlt
        have s0 := hr 0 _ rfl
        have s1 := hr 1 _ rfl
        simp only [Nat.add_zero] at s0
        have HAL := Lib.hid (HB.out.alloc HB.out.size (.cells #[.int .i32 (S[i].1 : Int), .int .i32 (S[i].2 : Int)] 149))
        have HXL := Lib.hid ((Below.heap_alloc wr (.cells #[.int .i32 (S[i].1 : Int), .int .i32 (S[i].2 : Int)] 149) _ (lt_of_block HX.out)).trans HX.out)
        have HST := Lib.hid hst
        clear hst hr
        generalize S[i] = s at *
        obtain ⟨f, t⟩ := s
        generalize hq : (S.take i).any (spIn c) = q at *
        have HNE : Hid ((S.take (i + 1)).any (spIn c) = (q || spIn c (f, t))) := HST
        clear HST hq
        cases q with
        | true =>
          go_wp2_with fail
          go_roundw
          case rel => exact ⟨i + 1, by omega, by go_num, by rw [HNE.out]; rfl, HAL, HXL⟩
          case measure => simp [intOf]; omega
        | false =>
          by_cases h1 : f ≤ c
          · have g1 : (f : Int) ≤ (c : Int) := by omega
            by_cases h2 : c ≤ t
            · have g2 : (c : Int) ≤ (t : Int) := by omega
              have HV : Hid (spIn c (f, t) = true) := Lib.hid (by simp [spIn, h1, h2])
              clear h1 h2
              go_wp2_with fail
              go_roundw
              case rel => exact ⟨i + 1, by omega, by go_num, by rw [HNE.out, HV.out]; rfl, HAL, HXL⟩
              case measure => simp [intOf]; omega
            · have g2 : ¬ (c : Int) ≤ (t : Int) := by omega
              have HV : Hid (spIn c (f, t) = false) := Lib.hid (by simp [spIn, h2])
              clear h1 h2
              go_wp2_with fail
              go_roundw
              case rel => exact ⟨i + 1, by omega, by go_num, by rw [HNE.out, HV.out]; rfl, HAL, HXL⟩
              case measure => simp [intOf]; omega
          · have g1 : ¬ (f : Int) ≤ (c : Int) := by omega
            have HV : Hid (spIn c (f, t) = false) := Lib.hid (by simp [spIn, h1])
            clear h1
            go_wp2_with fail
            go_roundw
            case rel => exact ⟨i + 1, by omega, by go_num, by rw [HNE.out, HV.out]; rfl, HAL, HXL⟩
            case measure => simp [intOf]; omega
      · have m1 : ¬ (i : Int) < (S.length : Int) := by omega
        obtain rfl : i = S.length := by omega
        rw [List.take_length]
        have x2 := cell_of_row _ _ 2 _ _ _ HX.out
        simp only [List.getElem?_toArray, List.getElem?_cons_zero, List.getElem?_cons_succ] at x2
        generalize S.any (spIn c) = q at *
        go_wp2_with fail
        go_ret
        exact ⟨by rw [HE.out]; rfl, HB.out⟩
end Go.Proofs.YtokckcmkbnhhhaaDoor
