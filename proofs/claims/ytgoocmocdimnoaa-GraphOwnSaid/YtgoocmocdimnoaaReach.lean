/- The walk of graph.Reach. -/
import Derived.Test.YtgoocmocdimnoaaClosure
namespace Go.Proofs.Ytgoocmocdimnoaa
open Go.RowKit Plain
/-- what Reach leaves -/
def RchEnd (w0 : World) (ks : List (List Int)) (rs : List Int) (e : Ending) (w : World) : Prop := Below w0.heap.size w0 w ∧
  ((¬ (Gok ks ∧ Rok ks rs) ∧ ∃ c : Nat, c ≠ 0 ∧ c ≤ 2 ∧ e = .returned (.tuple #[.slice none 0 0, .int .i64 (c : Int)])) ∨
   (Gok ks ∧ Rok ks rs ∧ ∃ g o, e = .returned (.tuple #[.slice (some ⟨g, 0, none⟩) ks.length ks.length, .int .i64 0]) ∧ w0.heap.size ≤ g ∧ g < w.heap.size ∧ w.heap[g]? = some (.cells (oC o) 4 (0, 0)) ∧ GSpec ks rs o))
set_option maxRecDepth 100000 in
set_option maxHeartbeats 1000000 in
theorem reach_any (a b : Option Addr) (cap cb : Nat) (rows : List GRow) (rs : List Int) (w : World) (h : GAt w a rows) (hr : SAt 1 iC w b rs) (hl : rows.length ≤ 9223372036854775807) (hrl : rs.length ≤ 9223372036854775807) :
    Calls Try.prog 13 #[.slice a rows.length cap, .slice b rs.length cb] w (RchEnd w (gK rows) rs) := by
  have HG := Lib.hid h
  have HRS := Lib.hid hr
  have HCK := Lib.hid fun wx (hx : GAt wx a rows) => gcheck_any a cap rows wx hx hl
  have HLN := Lib.hid (gK_length rows)
  clear h hr
  go_enter Try.func13, Try.ntmps13
  go_wp2_with fail
  refine (HCK.out _ HG.out).mono ?_
  rintro e w1 ⟨c, rfl, hc2, hc0, hb1⟩
  have HB1 := Lib.hid hb1
  have HC0 := Lib.hid hc0
  clear hb1 hc0
  by_cases hc : c = 0
  · have HOK := Lib.hid (HC0.out.1 hc)
    subst hc
    by_cases h64 : 64 < rs.length
    · have m1 : 64 < (rs.length : Int) := by omega
      have HR : Hid (¬ (Gok (gK rows) ∧ Rok (gK rows) rs)) := fun h => by have := h.2.1; omega
      go_wp2_with fail
      go_ret2
      exact ⟨HB1.out, .inl ⟨HR.out, 2, by decide, by decide, rfl⟩⟩
    · have m1 : ¬ 64 < (rs.length : Int) := by omega
      go_wp2_with fail
      go_loop [19] (fun iv => ∃ i : Nat, iv = .int .i64 (i : Int) ∧ i ≤ rs.length ∧ ∀ k ∈ rs.take i, 0 ≤ k ∧ k < rows.length) (fun iv => rs.length - (intOf iv).toNat)
      case atStart => exact ⟨0, rfl, by omega, by simp⟩
      case round =>
        obtain ⟨i, rfl, hi, hall⟩ := hrel
        have HALL := Lib.hid hall
        clear hall
        by_cases hlt : i < rs.length
        · have m2 : (i : Int) < (rs.length : Int) := by omega
          obtain ⟨g2, off2, rfl, hg2, hr2⟩ := (HRS.out.below HB1.out).int i hlt
          have HKM : Hid (rs[i] ∈ rs) := List.getElem_mem hlt
          have HSQ : Hid (rs.take (i + 1) = rs.take i ++ [rs[i]]) := List.take_succ_eq_append_getElem hlt
          generalize rs[i] = k at *
          clear hg2
          by_cases hk0 : k < 0
          · have HR : Hid (¬ (Gok (gK rows) ∧ Rok (gK rows) rs)) := fun h => by have := h.2.2 k HKM.out; omega
            go_wp2_with fail
            go_ret2
            exact ⟨HB1.out, .inl ⟨HR.out, 1, by decide, by decide, rfl⟩⟩
          · by_cases hk1 : (rows.length : Int) ≤ k
            · have HR : Hid (¬ (Gok (gK rows) ∧ Rok (gK rows) rs)) := fun h => by have := h.2.2 k HKM.out; have := HLN.out; omega
              go_wp2_with fail
              go_ret2
              exact ⟨HB1.out, .inl ⟨HR.out, 1, by decide, by decide, rfl⟩⟩
            · have HN : Hid (∀ x ∈ rs.take (i + 1), 0 ≤ x ∧ x < rows.length) := fun x hx => by
                rw [HSQ.out] at hx
                rcases List.mem_append.1 hx with hx | hx
                · exact HALL.out x hx
                · simp only [List.mem_singleton] at hx; subst hx; omega
              go_wp2_with fail
              go_round
              case rel => exact ⟨i + 1, by go_num, by omega, HN.out⟩
              case measure => simp [intOf]; omega
        · have m2 : ¬ (i : Int) < (rs.length : Int) := by omega
          have HRO : Hid (Rok (gK rows) rs) := by
            have h := HALL.out
            rw [List.take_of_length_le (by omega)] at h
            exact ⟨by omega, fun k hk => by rw [HLN.out]; exact h k hk⟩
          have HCL := Lib.hid fun wx (hx : GAt wx a rows) (hy : SAt 1 iC wx b rs) => closure_any a b cap cb rows rs wx hx hy HOK.out HRO.out
          go_wp2_with fail
          refine (HCL.out _ (HG.out.below HB1.out) (HRS.out.below HB1.out)).mono ?_
          rintro e w2 ⟨hb2, g, o, rfl, hg1, hg2, hrow, hsp⟩
          have HB2 := Lib.hid (Below.step HB1.out hb2)
          have HROW := Lib.hid hrow
          have HSP := Lib.hid hsp
          have HG1 : Hid (w.heap.size ≤ g) := Nat.le_trans HB1.out.size hg1
          have HG2 := Lib.hid hg2
          clear hb2 hrow hsp hg1 hg2
          go_wp2_with fail
          go_ret2
          exact ⟨HB2.out, .inr ⟨HOK.out, HRO.out, g, o, rfl, HG1.out, HG2.out, HROW.out, HSP.out⟩⟩
  · have f1 : (((c : Nat) : Int) != 0) = true := by simpa using hc
    have HR : Hid (¬ (Gok (gK rows) ∧ Rok (gK rows) rs)) := fun h => hc (HC0.out.2 h.1)
    have HCC := Lib.hid hc
    clear hc
    go_wp2_with fail
    go_ret2
    exact ⟨HB1.out, .inl ⟨HR.out, c, HCC.out, hc2, rfl⟩⟩
end Go.Proofs.Ytgoocmocdimnoaa
