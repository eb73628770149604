/- The walks of lz.formed, Check and Pack. -/
import Derived.Test.YtaipojclfpgaaaaRows
import Derived.Test.YtaipojclfpgaaaaLzGreedy
import Derived.Test.YtaipojclfpgaaaaSlices
import Derived.Test.YtaipojclfpgaaaaAppend
import Derived.Test.YtaipojclfpgaaaaMem
import Derived.Test.YtaipojclfpgaaaaBits
import Derived.WalkSpells
import Derived.WalkLawsBesides
namespace Go.Proofs.Ytaipojclfpgaaaa
open Go.RowKit Plain
/-- the cells of a token -/
def tC (t : Tok) : List Value := [.int .u8 (t.1 : Int), .int .i64 t.2.1, .int .i64 t.2.2]
theorem tC_length (t : Tok) : (tC t).length = 3 := rfl
set_option maxRecDepth 100000 in
theorem formed_any (a : Nat) (b c : Int) (w : World) : Calls Try.prog 56 #[.agg #[.int .u8 (a : Int), .int .i64 b, .int .i64 c]] w fun e w' => e = .returned (.bool (formed (a, b, c))) ∧ Below w.heap.size w w' := by
  have bel : Below w.heap.size w (w.alloc (.cells #[.int .u8 (a : Int), .int .i64 b, .int .i64 c] 60)) := (Below.refl _ _).alloc (Nat.le_refl _) _
  have BEL := Lib.hid bel
  clear bel
  by_cases h0 : b = 0
  · have HF : Hid (formed (a, b, c) = decide (c = 0)) := by show _ = _; simp [formed, h0]
    subst h0
    by_cases h1 : c = 0
    · have f1 : (c == 0) = true := beq_iff_eq.2 h1
      have HR : Hid (formed (a, 0, c) = true) := by show _ = _; rw [HF.out]; exact decide_eq_true h1
      clear h1
      go_enter Try.func56, Try.ntmps56
      go_wp2
      go_ret
      exact ⟨by rw [HR.out]; rfl, BEL.out⟩
    · have f1 : (c == 0) = false := beq_eq_false_iff_ne.2 h1
      have HR : Hid (formed (a, 0, c) = false) := by show _ = _; rw [HF.out]; exact decide_eq_false h1
      clear h1
      go_enter Try.func56, Try.ntmps56
      go_wp2
      go_ret
      exact ⟨by rw [HR.out]; rfl, BEL.out⟩
  · have HF : Hid (formed (a, b, c) = decide (a = 0 ∧ 1 ≤ b ∧ b ≤ 255 ∧ 1 ≤ c ∧ c ≤ 1024)) := by show _ = _; simp [formed, h0]
    have f0 : (b == 0) = false := beq_eq_false_iff_ne.2 h0
    clear h0
    by_cases h1 : a = 0
    · have f1 : ((a : Int) == 0) = true := beq_iff_eq.2 (by omega)
      by_cases h2 : 1 ≤ b
      · by_cases h3 : b ≤ 255
        · by_cases h4 : 1 ≤ c
          · by_cases h5 : c ≤ 1024
            · have HR : Hid (formed (a, b, c) = true) := by show _ = _; rw [HF.out]; exact decide_eq_true ⟨h1, h2, h3, h4, h5⟩
              clear h1
              go_enter Try.func56, Try.ntmps56
              go_wp2
              go_ret
              exact ⟨by rw [HR.out]; rfl, BEL.out⟩
            · have HR : Hid (formed (a, b, c) = false) := by show _ = _; rw [HF.out]; exact decide_eq_false fun h => h5 h.2.2.2.2
              clear h1
              go_enter Try.func56, Try.ntmps56
              go_wp2
              go_ret
              exact ⟨by rw [HR.out]; rfl, BEL.out⟩
          · have HR : Hid (formed (a, b, c) = false) := by show _ = _; rw [HF.out]; exact decide_eq_false fun h => h4 h.2.2.2.1
            clear h1
            go_enter Try.func56, Try.ntmps56
            go_wp2
            go_ret
            exact ⟨by rw [HR.out]; rfl, BEL.out⟩
        · have HR : Hid (formed (a, b, c) = false) := by show _ = _; rw [HF.out]; exact decide_eq_false fun h => h3 h.2.2.1
          clear h1
          go_enter Try.func56, Try.ntmps56
          go_wp2
          go_ret
          exact ⟨by rw [HR.out]; rfl, BEL.out⟩
      · have HR : Hid (formed (a, b, c) = false) := by show _ = _; rw [HF.out]; exact decide_eq_false fun h => h2 h.2.1
        clear h1
        go_enter Try.func56, Try.ntmps56
        go_wp2
        go_ret
        exact ⟨by rw [HR.out]; rfl, BEL.out⟩
    · have f1 : ((a : Int) == 0) = false := beq_eq_false_iff_ne.2 (by omega)
      have HR : Hid (formed (a, b, c) = false) := by show _ = _; rw [HF.out]; exact decide_eq_false fun h => h1 h.1
      clear h1
      go_enter Try.func56, Try.ntmps56
      go_wp2
      go_ret
      exact ⟨by rw [HR.out]; rfl, BEL.out⟩
set_option maxRecDepth 100000 in
theorem check_any (a : Option Addr) (cap : Nat) (l : List Tok) (w : World) (h : SAt 3 tC w a l) (hl : l.length ≤ 9223372036854775807) :
    Calls Try.prog 55 #[.slice a l.length cap] w fun e w' => e = .returned (.int .i64 (lchk l : Nat)) ∧ Below w.heap.size w w' := by
  have HS := Lib.hid h
  clear h
  by_cases hb : 4096 < l.length
  · have n1 : (4096 : Int) < (l.length : Int) := by omega
    have HR : Hid (lchk l = 2) := by show _ = _; rw [lchk, if_pos hb]
    clear hb
    go_enter Try.func55, Try.ntmps55
    go_wp2
    go_ret
    exact ⟨by rw [HR.out]; rfl, Below.refl _ _⟩
  · have n1 : (l.length : Int) ≤ 4096 := by omega
    have HL : Hid (lchk l = if l.all formed then 0 else 4) := by show _ = _; rw [lchk, if_neg hb]
    go_enter Try.func55, Try.ntmps55
    go_wp2_with fail
    go_loopw [10] (fun iv wr => ∃ i : Nat, i ≤ l.length ∧ iv = .int .i64 (i : Int) ∧ Below w.heap.size w wr ∧ (l.take i).all formed = true) (fun iv _ => l.length - (intOf iv).toNat)
    case atStart => exact ⟨0, by omega, rfl, Below.refl _ _, by simp⟩
    case round =>
      obtain ⟨i, hi, rfl, hbr, hall⟩ := hrel
      have HBR := Lib.hid hbr
      have HALL := Lib.hid hall
      clear hbr hall
      by_cases hlt : i < l.length
      · have m1 : (i : Int) < (l.length : Int) := by omega
        obtain ⟨g, off, rfl, hg, hr⟩ := (HS.out.below HBR.out) i hlt
        have HST : Hid ((l.take (i + 1)).all formed = formed l[i]) := by show _ = _; rw [List.take_succ_eq_append_getElem hlt, List.all_append, HALL.out]; simp
        have HMEM : Hid (l[i] ∈ l) := List.getElem_mem hlt
        generalize l[i] = t at *
        obtain ⟨ta, tb, tc⟩ := t
        have r0 : wr.cell? ⟨g, off + i * 3, none⟩ = some (.int .u8 (ta : Int)) := hr 0 _ rfl
        have r1 : wr.cell? ⟨g, off + i * 3 + 1, none⟩ = some (.int .i64 tb) := hr 1 _ rfl
        have r2 : wr.cell? ⟨g, off + i * 3 + 2, none⟩ = some (.int .i64 tc) := hr 2 _ rfl
        have HF := Lib.hid fun wx => formed_any ta tb tc wx
        have HBA := Lib.hid (Below.alloc HBR.out HBR.out.size (.cells #[.int .u8 (ta : Int), .int .i64 tb, .int .i64 tc] 60))
        clear hr hg
        cases hf : formed (ta, tb, tc) with
        | true =>
          rw [hf] at HF HST
          have HFF := Lib.hid hf
          clear hf
          go_wp2_with fail
          refine (HF.out _).mono ?_
          rintro e w1 ⟨rfl, hb1⟩
          have HB1 := Lib.hid (Below.step HBA.out hb1)
          clear hb1
          go_wp2_with fail
          go_roundw
          case rel => exact ⟨i + 1, by omega, by go_num, HB1.out, HST.out⟩
          case measure => simp [intOf]; omega
        | false =>
          rw [hf] at HF HST
          have HR : Hid (lchk l = 4) := by
            show _ = _
            rw [HL.out, if_neg]
            intro h
            have := List.all_eq_true.1 h _ HMEM.out
            rw [hf] at this
            cases this
          clear hf
          go_wp2_with fail
          refine (HF.out _).mono ?_
          rintro e w1 ⟨rfl, hb1⟩
          have HB1 := Lib.hid (Below.step HBA.out hb1)
          clear hb1
          go_wp2_with fail
          go_ret
          exact ⟨by rw [HR.out]; rfl, HB1.out⟩
      · have m1 : ¬ (i : Int) < (l.length : Int) := by omega
        have HR : Hid (lchk l = 0) := by
          show _ = _
          have := HALL.out
          rw [List.take_of_length_le (by omega)] at this
          rw [HL.out, if_pos this]
        go_wp2_with fail
        go_ret
        exact ⟨by rw [HR.out]; rfl, HBR.out⟩
end Go.Proofs.Ytaipojclfpgaaaa
