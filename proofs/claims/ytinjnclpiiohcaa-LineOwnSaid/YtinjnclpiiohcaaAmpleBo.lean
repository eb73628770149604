/- The walks of ample, stays and spoil over bools. -/
import Derived.Test.YtinjnclpiiohcaaAmpleGen
import Derived.Test.YtinjnclpiiohcaaLineTools
import Derived.Deep.QuietTactic
import Derived.BigQuiet
namespace Go.Proofs.Ytinjnclpiiohcaa
open Go.RowKit
set_option linter.unusedVariables false
set_option linter.unusedSimpArgs false
theorem SAt.boolL {w : World} {a : Option Addr} {l : List Bool} (h : SAt 1 boC w a l) (i : Nat) (hi : i < l.length) : ∃ g off, a = some ⟨g, off, none⟩ ∧ g < w.heap.size ∧ w.cell? ⟨g, off + i, none⟩ = some (.bool l[i]) := by
  obtain ⟨g, off, e, hg, hr⟩ := h i hi
  have := hr 0 _ rfl
  exact ⟨g, off, e, hg, by rwa [Nat.mul_one, Nat.add_zero] at this⟩
set_option maxRecDepth 100000 in
theorem eqBoB_any (a b : Option Addr) (ca cb : Nat) (l m : List Bool) (w : World) (hl : SAt 1 boC w a l) (hm : SAt 1 boC w b m) (nl : l.length ≤ 9223372036854775807) (nm : m.length ≤ 9223372036854775807) :
    Calls Try.prog 54 #[.slice a l.length ca, .slice b m.length cb] w fun e w' => e = .returned (.bool (decide (l = m))) ∧ Below w.heap.size w w' := by
  have HL := Lib.hid hl
  have HM := Lib.hid hm
  clear hl hm
  by_cases hlen : l.length = m.length
  · have f1 : ((l.length : Int) != (m.length : Int)) = false := by simp [hlen]
    have HLEN := Lib.hid hlen
    clear hlen
    go_enter Try.func54, Try.ntmps54
    go_wp2_with fail
    go_loopw [13] (fun iv wr => ∃ i : Nat, i ≤ l.length ∧ iv = .int .i64 (i : Int) ∧ Below w.heap.size w wr ∧ l.take i = m.take i) (fun iv _ => l.length - (intOf iv).toNat)
    case atStart => exact ⟨0, by omega, rfl, Below.refl _ _, by simp⟩
    case round =>
      obtain ⟨i, hi, rfl, hbr, hall⟩ := hrel
      have HBR := Lib.hid hbr
      have HALL := Lib.hid hall
      clear hbr hall
      by_cases hlt : i < l.length
      · have m1 : (i : Int) < (l.length : Int) := by omega
        have hlt2 : i < m.length := by have := HLEN.out; omega
        have m2 : (i : Int) < (m.length : Int) := by omega
        obtain ⟨g, off, rfl, hg, hr⟩ := (HL.out.below HBR.out).boolL i hlt
        obtain ⟨g', off', rfl, hg', hr'⟩ := (HM.out.below HBR.out).boolL i hlt2
        have HST : Hid (l[i] = m[i] → l.take (i + 1) = m.take (i + 1)) := fun h => by rw [List.take_succ_eq_append_getElem hlt, List.take_succ_eq_append_getElem hlt2, HALL.out, h]
        have HNE : Hid (l[i] ≠ m[i] → l ≠ m) := fun h e => h (by subst e; rfl)
        generalize l[i] = t at *
        generalize m[i] = u at *
        clear hg hg'
        cases t <;> cases u
        · have HST2 := Lib.hid (HST.out rfl)
          clear HST HNE
          go_wp2_with fail
          go_quiet (fail)
          go_wp2_with fail
          go_roundw
          case rel => exact ⟨i + 1, by omega, by go_num, below_dn HBR.out _, HST2.out⟩
          case measure => simp [intOf]; omega
        · have HD := Lib.hid (HNE.out (by decide))
          clear HST HNE
          go_wp2_with fail
          go_quiet (fail)
          go_wp2_with fail
          go_ret
          exact ⟨by rw [decide_eq_false HD.out]; rfl, below_dn HBR.out _⟩
        · have HD := Lib.hid (HNE.out (by decide))
          clear HST HNE
          go_wp2_with fail
          go_quiet (fail)
          go_wp2_with fail
          go_ret
          exact ⟨by rw [decide_eq_false HD.out]; rfl, below_dn HBR.out _⟩
        · have HST2 := Lib.hid (HST.out rfl)
          clear HST HNE
          go_wp2_with fail
          go_quiet (fail)
          go_wp2_with fail
          go_roundw
          case rel => exact ⟨i + 1, by omega, by go_num, below_dn HBR.out _, HST2.out⟩
          case measure => simp [intOf]; omega
      · have m1 : ¬ (i : Int) < (l.length : Int) := by omega
        have HE : Hid (l = m) := by
          have h := HALL.out
          have := HLEN.out
          show _ = _
          rwa [List.take_of_length_le (by omega), List.take_of_length_le (by omega)] at h
        go_wp2_with fail
        go_ret
        exact ⟨by rw [decide_eq_true HE.out]; rfl, HBR.out⟩
  · have f1 : ((l.length : Int) != (m.length : Int)) = true := by simp; omega
    have HE : Hid (l ≠ m) := fun h => hlen (by rw [h])
    clear hlen
    go_enter Try.func54, Try.ntmps54
    go_wp2_with fail
    go_ret
    exact ⟨by rw [decide_eq_false HE.out]; rfl, Below.refl _ _⟩
theorem info_BoA : (Try.prog.info? 4).map (fun i => (i.zero, i.size, i.bytes)) = some (some (.bool false), 1, 1) := by kernel_rfl
set_option maxRecDepth 100000 in
theorem run_make_BoA (n : Nat) (hn : n ≤ 140737488351242) (u : World) : (Instr.makeSlice 23 (.int .i64 0) (.int .i64 ((n : Int) + 3))).run Try.prog u = .ok (.slice (some ⟨u.heap.size, 0, none⟩) 0 (n + 3)) (u.alloc (.cells (Array.replicate (n + 3) ((.bool false : Value))) 4)) := by
  obtain ⟨i, hi, hz, hs, hb⟩ := info_parts info_BoA
  have := run_make (P := Try.prog) u 23 4 i (.bool false) Try.underlying23 hi hz .i64 .i64 0 ((n : Int) + 3) (by omega) (by omega) (by rw [hb]; omega) (by omega)
  rw [this, hs]
  have e : ((n : Int) + 3).toNat = n + 3 := by omega
  rw [e]
  congr 3
  simp only [madeCells, Nat.mul_one]
  apply Array.ext
  · simp
  · intro k h1 h2
    simp [Value.cells, Nat.mod_one]
set_option maxRecDepth 100000 in
set_option maxHeartbeats 1000000 in
theorem ampleBo_any (a : Option Addr) (cap : Nat) (l : List Bool) (f : Bool) (w : World) (h : SAt 1 boC w a l) (hl : l.length ≤ 140737488351232) :
    Calls Try.prog 11 #[.slice a l.length cap, .bool f] w (AmEnd boC [.bool false] 4 l f w) := by
  have hmk := run_make_BoA l.length (by omega)
  have hinfo := Lib.hid info_BoA
  have HB1 := Lib.hid ((Below.refl w.heap.size w).alloc (Nat.le_refl _) (.cells (Array.replicate (l.length + 3) ((.bool false : Value))) 4))
  have hr1 := heap_alloc_new w (.cells (Array.replicate (l.length + 3) ((.bool false : Value))) 4)
  have hfl : (l.flatMap boC).length = l.length := by rw [flat_length boC_length]; omega
  have HSRC := Lib.hid (src_sat (c := cap) Try.underlying23 (by decide) boC_length boC_one (h.below HB1.out))
  have hz : Array.replicate (l.length + 3) ((.bool false : Value)) = ([] ++ List.replicate l.length ((.bool false : Value)) ++ List.replicate 3 ((.bool false : Value))).toArray := by rw [List.nil_append, List.replicate_append_replicate, ← List.toArray_replicate]
  have hi1 := row_is hr1 0 l.length (by simp)
  have HC1 : Hid (∀ j, j < (l.flatMap boC).length → ((w.alloc (.cells (Array.replicate (l.length + 3) ((.bool false : Value))) 4)).cell? ⟨w.heap.size, 0 + 0 + j, none⟩).isSome = true) := fun j hj => hi1.1 j (by omega)
  have HF1 : Hid (∀ j, j < (l.flatMap boC).length → (w.alloc (.cells (Array.replicate (l.length + 3) ((.bool false : Value))) 4)).frozen? ⟨w.heap.size, 0 + 0 + j, none⟩ = false) := fun j hj => hi1.2 j (by omega)
  have hr2 : ((w.alloc (.cells (Array.replicate (l.length + 3) ((.bool false : Value))) 4)).setCells w.heap.size 0 (l.flatMap boC)).heap[w.heap.size]? = some (.cells ([] ++ l.flatMap boC ++ List.replicate 3 ((.bool false : Value))).toArray 4 (0, 0)) := by
    rw [hz] at hr1 ⊢
    have := row_mid [] (List.replicate l.length ((.bool false : Value))) (List.replicate 3 ((.bool false : Value))) (l.flatMap boC) hr1 (by simp [hfl])
    exact this
  have HB2 := Lib.hid (below_setCells (Nat.le_refl _) (l.flatMap boC) 0 HB1.out)
  have HROOM1 : Hid (0 + l.length ≤ l.length + 3) := by show _ ≤ _; omega
  have HROOM2 : Hid (l.length + 2 ≤ l.length + 3) := by show _ ≤ _; omega
  have ew : IntKind.i64.wrap ((l.length : Int) + 3) = (l.length : Int) + 3 := wraps_i64 _ (by omega) (by omega)
  have HW2E : Hid (∃ W2, (w.alloc (.cells (Array.replicate (l.length + 3) ((.bool false : Value))) 4)).setCells w.heap.size 0 (l.flatMap boC) = W2) := ⟨_, rfl⟩
  rw [List.nil_append] at hr2
  have hba : Below ((w.alloc (.cells (Array.replicate (l.length + 3) ((.bool false : Value))) 4)).setCells w.heap.size 0 (l.flatMap boC)).heap.size ((w.alloc (.cells (Array.replicate (l.length + 3) ((.bool false : Value))) 4)).setCells w.heap.size 0 (l.flatMap boC)) (((w.alloc (.cells (Array.replicate (l.length + 3) ((.bool false : Value))) 4)).setCells w.heap.size 0 (l.flatMap boC)).alloc (.cells #[.bool f, .bool f] 4)) := (Below.refl _ _).alloc (Nat.le_refl _) _
  have hr3 := (hba.block _ (lt_of_block hr2)).trans hr2
  have hi3 := row_is hr3 l.length 2 (by simp [hfl])
  have HC3 : Hid (∀ j, j < ([.bool f, .bool f] : List Value).length → ((((w.alloc (.cells (Array.replicate (l.length + 3) ((.bool false : Value))) 4)).setCells w.heap.size 0 (l.flatMap boC)).alloc (.cells #[.bool f, .bool f] 4)).cell? ⟨w.heap.size, 0 + l.length + j, none⟩).isSome = true) := fun j hj => by rw [Nat.zero_add]; exact hi3.1 j hj
  have HF3 : Hid (∀ j, j < ([.bool f, .bool f] : List Value).length → (((w.alloc (.cells (Array.replicate (l.length + 3) ((.bool false : Value))) 4)).setCells w.heap.size 0 (l.flatMap boC)).alloc (.cells #[.bool f, .bool f] 4)).frozen? ⟨w.heap.size, 0 + l.length + j, none⟩ = false) := fun j hj => by rw [Nat.zero_add]; exact hi3.2 j hj
  have HSR2 : Hid (Src Try.prog 1 23 (.slice (some ⟨((w.alloc (.cells (Array.replicate (l.length + 3) ((.bool false : Value))) 4)).setCells w.heap.size 0 (l.flatMap boC)).heap.size, 0, none⟩) 2 2) 2 [Value.bool f, Value.bool f] (((w.alloc (.cells (Array.replicate (l.length + 3) ((.bool false : Value))) 4)).setCells w.heap.size 0 (l.flatMap boC)).alloc (.cells #[Value.bool f, Value.bool f] 4))) := Src.ofSlice _ Try.underlying23 ⟨((w.alloc (.cells (Array.replicate (l.length + 3) ((.bool false : Value))) 4)).setCells w.heap.size 0 (l.flatMap boC)).heap.size, 0, none⟩ 2 2 _ rfl (cells_new_at _ _ rfl #[Value.bool f, Value.bool f] 4 _ rfl) (by intro u hu; simp only [List.mem_cons, List.not_mem_nil, or_false] at hu; rcases hu with rfl | rfl <;> rfl)
  have HSR3 : Hid (Src Try.prog 1 23 (.slice (some ⟨w.heap.size + 1, 0, none⟩) 2 2) 2 [Value.bool f, Value.bool f] (((w.alloc (.cells (Array.replicate (l.length + 3) ((.bool false : Value))) 4)).setCells w.heap.size 0 (l.flatMap boC)).alloc (.cells #[Value.bool f, Value.bool f] 4))) := by
    have h := HSR2.out
    have hsz : ((w.alloc (.cells (Array.replicate (l.length + 3) ((.bool false : Value))) 4)).setCells w.heap.size 0 (l.flatMap boC)).heap.size = w.heap.size + 1 := by rw [(setCells_frame _ _ _ _).2]; simp
    rw [hsz] at h
    exact h
  have hr4 : ((((w.alloc (.cells (Array.replicate (l.length + 3) ((.bool false : Value))) 4)).setCells w.heap.size 0 (l.flatMap boC)).alloc (.cells #[.bool f, .bool f] 4)).setCells w.heap.size l.length [.bool f, .bool f]).heap[w.heap.size]? = some (.cells (l.flatMap boC ++ (boC f ++ boC f) ++ [(.bool false : Value)]).toArray 4 (0, 0)) := by
    have e3 : l.flatMap boC ++ List.replicate 3 ((.bool false : Value)) = l.flatMap boC ++ List.replicate 2 ((.bool false : Value)) ++ [(.bool false : Value)] := by rw [List.append_assoc]; rfl
    rw [e3] at hr3
    have := row_mid (l.flatMap boC) (List.replicate 2 ((.bool false : Value))) [(.bool false : Value)] [.bool f, .bool f] hr3 rfl
    rw [hfl] at this
    exact this
  have HR4 := Lib.hid hr4
  have HB4 := Lib.hid (below_setCells (Nat.le_refl _) [.bool f, .bool f] l.length (HB2.out.alloc HB2.out.size (.cells #[.bool f, .bool f] 4)))
  have HLL : Hid (l.length ≤ 0 + l.length + 2) := by show _ ≤ _; omega
  have c1 : (l.length : Int) ≤ (l.length : Int) + 3 := by omega
  have c0 : (0 : Int) ≤ (l.length : Int) := Int.natCast_nonneg _
  clear hr1 hi1 hr2 hi3 hr3 hba hr4 hz hfl h
  go_enter Try.func11, Try.ntmps11
  go_wp2_with (at_builtin; first | (refine wpList_append_room1 _ rfl _ _ 23 23 rfl 4 (.bool false) 1 Try.underlying23 hinfo.out w.heap.size 0 0 (l.length + 3) rfl _ rfl l.length (l.flatMap boC) HSRC.out HROOM1.out HC1.out HF1.out ?_) | (refine wpList_append_room1 _ rfl _ _ 23 23 rfl 4 (.bool false) 1 Try.underlying23 hinfo.out w.heap.size 0 l.length (l.length + 3) rfl _ rfl 2 [.bool f, .bool f] HSR3.out HROOM2.out HC3.out HF3.out ?_))
  go_ret
  exact ⟨w.heap.size, rfl, Nat.le_refl _, HR4.out, HB4.out⟩
set_option maxRecDepth 100000 in
set_option maxHeartbeats 1000000 in
theorem staysBo_any (g : Nat) (b : Option Addr) (cb : Nat) (l : List Bool) (f : Bool) (w : World) (h : Amp boC [.bool false] 4 w g l f) (hb : SAt 1 boC w b l) (hl : l.length ≤ 140737488351232) :
    Calls Try.prog 17 #[.slice (some ⟨g, 0, none⟩) l.length (l.length + 3), .slice b l.length cb, .bool f] w fun e w' => e = .returned (.bool true) ∧ Below w.heap.size w w' := by
  have HE := Lib.hid (eqBoB_any (some ⟨g, 0, none⟩) b (l.length + 3) cb l l w (h.sat boC_length) hb (by omega) (by omega))
  rw [decide_eq_true rfl] at HE
  have HA := Lib.hid h
  have e2 : IntKind.i64.wrap ((l.length : Int) + 2) = (l.length : Int) + 2 := wraps_i64 _ (by omega) (by omega)
  have e1 : IntKind.i64.wrap ((l.length : Int) + 1) = (l.length : Int) + 1 := wraps_i64 _ (by omega) (by omega)
  have k1 : (0 : Int) ≤ (l.length : Int) + 2 := by omega
  have k2 : (l.length : Int) + 2 ≤ (l.length : Int) + 3 := by omega
  have k3 : (0 : Int) ≤ (l.length : Int) := Int.natCast_nonneg _
  have k4 : (l.length : Int) < (l.length : Int) + 2 := by omega
  have k5 : (0 : Int) ≤ (l.length : Int) + 1 := by omega
  have k6 : (l.length : Int) + 1 < (l.length : Int) + 2 := by omega
  have t2 : ((l.length : Int) + 2).toNat = l.length + 2 := by omega
  have t1 : ((l.length : Int) + 1).toNat = l.length + 1 := by omega
  clear h hb
  go_enter Try.func17, Try.ntmps17
  go_wp2_with fail
  refine HE.out.mono ?_
  rintro e w1 ⟨rfl, hb1⟩
  have HB1 := Lib.hid hb1
  have x0 := (HA.out.below hb1).fill boC_length 0 0 (by decide) (by decide)
  have x1 := (HA.out.below hb1).fill boC_length 1 0 (by decide) (by decide)
  have y0 : w1.cell? ⟨g, l.length, none⟩ = some (.bool f) := by simpa [boC] using x0
  have y1 : w1.cell? ⟨g, l.length + 1, none⟩ = some (.bool f) := by simpa [boC] using x1
  clear hb1 x0 x1
  go_wp2_with fail
  go_ret
  exact ⟨rfl, HB1.out⟩
set_option maxRecDepth 100000 in
set_option maxHeartbeats 1000000 in
theorem spoilBo_any (g n m : Nat) (x : Bool) (cs : Array Value) (w : World) (h : w.heap[g]? = some (.cells cs 4 (0, 0))) (hc : cs.size = n) (hn : n ≤ 9223372036854775807) (hm : m ≤ n) :
    Calls Try.prog 20 #[.slice (some ⟨g, 0, none⟩) m n, .bool x] w (SpEnd g 4 n w) := by
  have H0 := Lib.hid h
  have HC := Lib.hid hc
  have k0 : (0 : Int) ≤ (n : Int) := Int.natCast_nonneg _
  clear h hc
  go_enter Try.func20, Try.ntmps20
  go_wp2_with fail
  go_loopw [11] (fun iv wr => ∃ i : Nat, i ≤ n ∧ iv = .int .i64 (i : Int) ∧ w.grownBy wr (some g) ∧ ∃ cs : Array Value, wr.heap[g]? = some (.cells cs 4 (0, 0)) ∧ cs.size = n) (fun iv _ => n - (intOf iv).toNat)
  case atStart => exact ⟨0, by omega, rfl, grown_refl _ _, cs, H0.out, HC.out⟩
  case round =>
    obtain ⟨i, hi, rfl, hg, cs2, hr, hz⟩ := hrel
    have HG := Lib.hid hg
    have HR := Lib.hid hr
    have HZ := Lib.hid hz
    by_cases hlt : i < n
    · have m1 : (i : Int) < (n : Int) := by omega
      have m0 : (0 : Int) ≤ (i : Int) := Int.natCast_nonneg _
      have hf := frozen_of_row wr g i _ _ hr
      obtain ⟨u, hcl⟩ : ∃ u, wr.cell? ⟨g, i, none⟩ = some u := by
        have := cell_of_row wr g i _ _ _ hr
        rw [Array.getElem?_eq_getElem (by omega)] at this
        exact ⟨_, this⟩
      have HN := Lib.hid (grown_set hg i (.bool x))
      have HR2 := Lib.hid (heap_setCell_same wr g i _ _ (.bool x) hr)
      clear hg hr hz
      go_wp2_with fail
      go_roundw
      case rel => exact ⟨i + 1, by omega, by go_num, HN.out, _, HR2.out, by rw [Array.size_setIfInBounds]; exact HZ.out⟩
      case measure => simp [intOf]; omega
    · have m1 : ¬ (i : Int) < (n : Int) := by omega
      clear hg hr hz
      go_wp2_with fail
      go_end0
      exact ⟨rfl, HG.out, _, HR.out, HZ.out⟩
end Go.Proofs.Ytinjnclpiiohcaa
