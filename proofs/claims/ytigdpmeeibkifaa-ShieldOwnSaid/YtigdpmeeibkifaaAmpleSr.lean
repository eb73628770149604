/- The walks of ample, stays and spoil over strings. -/
import Derived.Test.YtigdpmeeibkifaaAmpleGen
import Derived.Test.YtigdpmeeibkifaaStrCalls
import Derived.Deep.QuietTactic
import Derived.BigQuiet
namespace Go.Proofs.Ytigdpmeeibkifaa
open Go.RowKit
set_option linter.unusedVariables false
set_option linter.unusedSimpArgs false
theorem eqStB_any (a b : Option Addr) (ca cb : Nat) (l m : List ByteArray) (w : World) (hl : SAt 1 sC w a l) (hm : SAt 1 sC w b m) (nl : l.length ≤ 9223372036854775807) (nm : m.length ≤ 9223372036854775807) :
    Calls Try.prog 7 #[.slice a l.length ca, .slice b m.length cb] w fun e w' => e = .returned (.bool (decide (l = m))) ∧ Below w.heap.size w w' := by
  refine (eqStr_any a b ca cb l m w hl hm nl nm).mono ?_
  rintro e w' ⟨rfl, q, rfl⟩
  exact ⟨rfl, below_dn (Below.refl _ _) q⟩
theorem info_StA : (Try.prog.info? 9).map (fun i => (i.zero, i.size, i.bytes)) = some (some (.string ⟨#[]⟩), 1, 16) := by kernel_rfl
set_option maxRecDepth 100000 in
theorem run_make_StA (n : Nat) (hn : n ≤ 8796093021962) (u : World) : (Instr.makeSlice 22 (.int .i64 0) (.int .i64 ((n : Int) + 3))).run Try.prog u = .ok (.slice (some ⟨u.heap.size, 0, none⟩) 0 (n + 3)) (u.alloc (.cells (Array.replicate (n + 3) ((.string ⟨#[]⟩ : Value))) 9)) := by
  obtain ⟨i, hi, hz, hs, hb⟩ := info_parts info_StA
  have := run_make (P := Try.prog) u 22 9 i (.string ⟨#[]⟩) Try.underlying22 hi hz .i64 .i64 0 ((n : Int) + 3) (by omega) (by omega) (by rw [hb]; omega) (by omega)
  rw [this, hs]
  have e : ((n : Int) + 3).toNat = n + 3 := by omega
  rw [e]
  congr 3
  simp only [madeCells, Nat.mul_one]
  apply Array.ext
  · simp
  · intro k h1 h2
    simp [Value.cells, Nat.mod_one]
set_option maxRecDepth 100000 in
set_option maxHeartbeats 1000000 in
theorem ampleSt_any (a : Option Addr) (cap : Nat) (l : List ByteArray) (f : ByteArray) (w : World) (h : SAt 1 sC w a l) (hl : l.length ≤ 8796093021952) :
    Calls Try.prog 10 #[.slice a l.length cap, .string f] w (AmEnd sC [.string ⟨#[]⟩] 9 l f w) := by
  have hmk := run_make_StA l.length (by omega)
  have hinfo := Lib.hid info_StA
  have HB1 := Lib.hid ((Below.refl w.heap.size w).alloc (Nat.le_refl _) (.cells (Array.replicate (l.length + 3) ((.string ⟨#[]⟩ : Value))) 9))
  have hr1 := heap_alloc_new w (.cells (Array.replicate (l.length + 3) ((.string ⟨#[]⟩ : Value))) 9)
  have hfl : (l.flatMap sC).length = l.length := by rw [flat_length sC_length]; omega
  have HSRC := Lib.hid (src_sat (c := cap) Try.underlying22 (by decide) sC_length sC_one (h.below HB1.out))
  have hz : Array.replicate (l.length + 3) ((.string ⟨#[]⟩ : Value)) = ([] ++ List.replicate l.length ((.string ⟨#[]⟩ : Value)) ++ List.replicate 3 ((.string ⟨#[]⟩ : Value))).toArray := by rw [List.nil_append, List.replicate_append_replicate, ← List.toArray_replicate]
  have hi1 := row_is hr1 0 l.length (by simp)
  have HC1 : Hid (∀ j, j < (l.flatMap sC).length → ((w.alloc (.cells (Array.replicate (l.length + 3) ((.string ⟨#[]⟩ : Value))) 9)).cell? ⟨w.heap.size, 0 + 0 + j, none⟩).isSome = true) := fun j hj => hi1.1 j (by omega)
  have HF1 : Hid (∀ j, j < (l.flatMap sC).length → (w.alloc (.cells (Array.replicate (l.length + 3) ((.string ⟨#[]⟩ : Value))) 9)).frozen? ⟨w.heap.size, 0 + 0 + j, none⟩ = false) := fun j hj => hi1.2 j (by omega)
  have hr2 : ((w.alloc (.cells (Array.replicate (l.length + 3) ((.string ⟨#[]⟩ : Value))) 9)).setCells w.heap.size 0 (l.flatMap sC)).heap[w.heap.size]? = some (.cells ([] ++ l.flatMap sC ++ List.replicate 3 ((.string ⟨#[]⟩ : Value))).toArray 9 (0, 0)) := by
    rw [hz] at hr1 ⊢
    have := row_mid [] (List.replicate l.length ((.string ⟨#[]⟩ : Value))) (List.replicate 3 ((.string ⟨#[]⟩ : Value))) (l.flatMap sC) hr1 (by simp [hfl])
    exact this
  have HB2 := Lib.hid (below_setCells (Nat.le_refl _) (l.flatMap sC) 0 HB1.out)
  have HROOM1 : Hid (0 + l.length ≤ l.length + 3) := by show _ ≤ _; omega
  have HROOM2 : Hid (l.length + 2 ≤ l.length + 3) := by show _ ≤ _; omega
  have ew : IntKind.i64.wrap ((l.length : Int) + 3) = (l.length : Int) + 3 := wraps_i64 _ (by omega) (by omega)
  have HW2E : Hid (∃ W2, (w.alloc (.cells (Array.replicate (l.length + 3) ((.string ⟨#[]⟩ : Value))) 9)).setCells w.heap.size 0 (l.flatMap sC) = W2) := ⟨_, rfl⟩
  rw [List.nil_append] at hr2
  have hba : Below ((w.alloc (.cells (Array.replicate (l.length + 3) ((.string ⟨#[]⟩ : Value))) 9)).setCells w.heap.size 0 (l.flatMap sC)).heap.size ((w.alloc (.cells (Array.replicate (l.length + 3) ((.string ⟨#[]⟩ : Value))) 9)).setCells w.heap.size 0 (l.flatMap sC)) (((w.alloc (.cells (Array.replicate (l.length + 3) ((.string ⟨#[]⟩ : Value))) 9)).setCells w.heap.size 0 (l.flatMap sC)).alloc (.cells #[.string f, .string f] 9)) := (Below.refl _ _).alloc (Nat.le_refl _) _
  have hr3 := (hba.block _ (lt_of_block hr2)).trans hr2
  have hi3 := row_is hr3 l.length 2 (by simp [hfl])
  have HC3 : Hid (∀ j, j < ([.string f, .string f] : List Value).length → ((((w.alloc (.cells (Array.replicate (l.length + 3) ((.string ⟨#[]⟩ : Value))) 9)).setCells w.heap.size 0 (l.flatMap sC)).alloc (.cells #[.string f, .string f] 9)).cell? ⟨w.heap.size, 0 + l.length + j, none⟩).isSome = true) := fun j hj => by rw [Nat.zero_add]; exact hi3.1 j hj
  have HF3 : Hid (∀ j, j < ([.string f, .string f] : List Value).length → (((w.alloc (.cells (Array.replicate (l.length + 3) ((.string ⟨#[]⟩ : Value))) 9)).setCells w.heap.size 0 (l.flatMap sC)).alloc (.cells #[.string f, .string f] 9)).frozen? ⟨w.heap.size, 0 + l.length + j, none⟩ = false) := fun j hj => by rw [Nat.zero_add]; exact hi3.2 j hj
  have HSR2 : Hid (Src Try.prog 1 22 (.slice (some ⟨((w.alloc (.cells (Array.replicate (l.length + 3) ((.string ⟨#[]⟩ : Value))) 9)).setCells w.heap.size 0 (l.flatMap sC)).heap.size, 0, none⟩) 2 2) 2 [Value.string f, Value.string f] (((w.alloc (.cells (Array.replicate (l.length + 3) ((.string ⟨#[]⟩ : Value))) 9)).setCells w.heap.size 0 (l.flatMap sC)).alloc (.cells #[Value.string f, Value.string f] 9))) := Src.ofSlice _ Try.underlying22 ⟨((w.alloc (.cells (Array.replicate (l.length + 3) ((.string ⟨#[]⟩ : Value))) 9)).setCells w.heap.size 0 (l.flatMap sC)).heap.size, 0, none⟩ 2 2 _ rfl (cells_new_at _ _ rfl #[Value.string f, Value.string f] 9 _ rfl) (by intro u hu; simp only [List.mem_cons, List.not_mem_nil, or_false] at hu; rcases hu with rfl | rfl <;> rfl)
  have HSR3 : Hid (Src Try.prog 1 22 (.slice (some ⟨w.heap.size + 1, 0, none⟩) 2 2) 2 [Value.string f, Value.string f] (((w.alloc (.cells (Array.replicate (l.length + 3) ((.string ⟨#[]⟩ : Value))) 9)).setCells w.heap.size 0 (l.flatMap sC)).alloc (.cells #[Value.string f, Value.string f] 9))) := by
    have h := HSR2.out
    have hsz : ((w.alloc (.cells (Array.replicate (l.length + 3) ((.string ⟨#[]⟩ : Value))) 9)).setCells w.heap.size 0 (l.flatMap sC)).heap.size = w.heap.size + 1 := by rw [(setCells_frame _ _ _ _).2]; simp
    rw [hsz] at h
    exact h
  have hr4 : ((((w.alloc (.cells (Array.replicate (l.length + 3) ((.string ⟨#[]⟩ : Value))) 9)).setCells w.heap.size 0 (l.flatMap sC)).alloc (.cells #[.string f, .string f] 9)).setCells w.heap.size l.length [.string f, .string f]).heap[w.heap.size]? = some (.cells (l.flatMap sC ++ (sC f ++ sC f) ++ [(.string ⟨#[]⟩ : Value)]).toArray 9 (0, 0)) := by
    have e3 : l.flatMap sC ++ List.replicate 3 ((.string ⟨#[]⟩ : Value)) = l.flatMap sC ++ List.replicate 2 ((.string ⟨#[]⟩ : Value)) ++ [(.string ⟨#[]⟩ : Value)] := by rw [List.append_assoc]; rfl
    rw [e3] at hr3
    have := row_mid (l.flatMap sC) (List.replicate 2 ((.string ⟨#[]⟩ : Value))) [(.string ⟨#[]⟩ : Value)] [.string f, .string f] hr3 rfl
    rw [hfl] at this
    exact this
  have HR4 := Lib.hid hr4
  have HB4 := Lib.hid (below_setCells (Nat.le_refl _) [.string f, .string f] l.length (HB2.out.alloc HB2.out.size (.cells #[.string f, .string f] 9)))
  have HLL : Hid (l.length ≤ 0 + l.length + 2) := by show _ ≤ _; omega
  have c1 : (l.length : Int) ≤ (l.length : Int) + 3 := by omega
  have c0 : (0 : Int) ≤ (l.length : Int) := Int.natCast_nonneg _
  clear hr1 hi1 hr2 hi3 hr3 hba hr4 hz hfl h
  go_enter Try.func10, Try.ntmps10
  go_wp2_with (at_builtin; first | (refine wpList_append_room1 _ rfl _ _ 22 22 rfl 9 (.string ⟨#[]⟩) 16 Try.underlying22 hinfo.out w.heap.size 0 0 (l.length + 3) rfl _ rfl l.length (l.flatMap sC) HSRC.out HROOM1.out HC1.out HF1.out ?_) | (refine wpList_append_room1 _ rfl _ _ 22 22 rfl 9 (.string ⟨#[]⟩) 16 Try.underlying22 hinfo.out w.heap.size 0 l.length (l.length + 3) rfl _ rfl 2 [.string f, .string f] HSR2.out HROOM2.out HC3.out HF3.out ?_))
  go_ret
  exact ⟨w.heap.size, rfl, Nat.le_refl _, HR4.out, HB4.out⟩
set_option maxRecDepth 100000 in
set_option maxHeartbeats 1000000 in
theorem staysSt_any (g : Nat) (b : Option Addr) (cb : Nat) (l : List ByteArray) (f : ByteArray) (w : World) (h : Amp sC [.string ⟨#[]⟩] 9 w g l f) (hb : SAt 1 sC w b l) (hl : l.length ≤ 8796093021952) :
    Calls Try.prog 12 #[.slice (some ⟨g, 0, none⟩) l.length (l.length + 3), .slice b l.length cb, .string f] w fun e w' => e = .returned (.bool true) ∧ Below w.heap.size w w' := by
  have HE := Lib.hid (eqStB_any (some ⟨g, 0, none⟩) b (l.length + 3) cb l l w (h.sat sC_length) hb (by omega) (by omega))
  rw [decide_eq_true rfl] at HE
  have HA := Lib.hid h
  have e2 : IntKind.i64.wrap ((l.length : Int) + 2) = (l.length : Int) + 2 := wraps_i64 _ (by omega) (by omega)
  have e1 : IntKind.i64.wrap ((l.length : Int) + 1) = (l.length : Int) + 1 := wraps_i64 _ (by omega) (by omega)
  have k1 : (0 : Int) ≤ (l.length : Int) + 2 := by omega
  have k2 : (l.length : Int) + 2 ≤ (l.length : Int) + 3 := by omega
  have k3 : (0 : Int) ≤ (l.length : Int) := Int.natCast_nonneg _
  have k4 : (l.length : Int) < (l.length : Int) + 2 := by omega
  have k5 : (0 : Int) ≤ (l.length : Int) + 1 := by omega
  have k6 : (l.length : Int) + 1 < (l.length : Int) + 2 := by omega
  have t2 : ((l.length : Int) + 2).toNat = l.length + 2 := by omega
  have t1 : ((l.length : Int) + 1).toNat = l.length + 1 := by omega
  clear h hb
  go_enter Try.func12, Try.ntmps12
  go_wp2_with fail
  refine HE.out.mono ?_
  rintro e w1 ⟨rfl, hb1⟩
  have HB1 := Lib.hid hb1
  have x0 := (HA.out.below hb1).fill sC_length 0 0 (by decide) (by decide)
  have x1 := (HA.out.below hb1).fill sC_length 1 0 (by decide) (by decide)
  have y0 : w1.cell? ⟨g, l.length, none⟩ = some (.string f) := by simpa [sC] using x0
  have y1 : w1.cell? ⟨g, l.length + 1, none⟩ = some (.string f) := by simpa [sC] using x1
  clear hb1 x0 x1
  go_wp2_with fail
  go_ret
  exact ⟨rfl, HB1.out⟩
set_option maxRecDepth 100000 in
set_option maxHeartbeats 1000000 in
theorem spoilSt_any (g n m : Nat) (x : ByteArray) (cs : Array Value) (w : World) (h : w.heap[g]? = some (.cells cs 9 (0, 0))) (hc : cs.size = n) (hn : n ≤ 9223372036854775807) (hm : m ≤ n) :
    Calls Try.prog 15 #[.slice (some ⟨g, 0, none⟩) m n, .string x] w (SpEnd g 9 n w) := by
  have H0 := Lib.hid h
  have HC := Lib.hid hc
  have k0 : (0 : Int) ≤ (n : Int) := Int.natCast_nonneg _
  clear h hc
  go_enter Try.func15, Try.ntmps15
  go_wp2_with fail
  go_loopw [11] (fun iv wr => ∃ i : Nat, i ≤ n ∧ iv = .int .i64 (i : Int) ∧ w.grownBy wr (some g) ∧ ∃ cs : Array Value, wr.heap[g]? = some (.cells cs 9 (0, 0)) ∧ cs.size = n) (fun iv _ => n - (intOf iv).toNat)
  case atStart => exact ⟨0, by omega, rfl, grown_refl _ _, cs, H0.out, HC.out⟩
  case round =>
    obtain ⟨i, hi, rfl, hg, cs2, hr, hz⟩ := hrel
    have HG := Lib.hid hg
    have HR := Lib.hid hr
    have HZ := Lib.hid hz
    by_cases hlt : i < n
    · have m1 : (i : Int) < (n : Int) := by omega
      have m0 : (0 : Int) ≤ (i : Int) := Int.natCast_nonneg _
      have hf := frozen_of_row wr g i _ _ hr
      obtain ⟨u, hcl⟩ : ∃ u, wr.cell? ⟨g, i, none⟩ = some u := by
        have := cell_of_row wr g i _ _ _ hr
        rw [Array.getElem?_eq_getElem (by omega)] at this
        exact ⟨_, this⟩
      have HN := Lib.hid (grown_set hg i (.string x))
      have HR2 := Lib.hid (heap_setCell_same wr g i _ _ (.string x) hr)
      clear hg hr hz
      go_wp2_with fail
      go_roundw
      case rel => exact ⟨i + 1, by omega, by go_num, HN.out, _, HR2.out, by rw [Array.size_setIfInBounds]; exact HZ.out⟩
      case measure => simp [intOf]; omega
    · have m1 : ¬ (i : Int) < (n : Int) := by omega
      clear hg hr hz
      go_wp2_with fail
      go_end0
      exact ⟨rfl, HG.out, _, HR.out, HZ.out⟩
end Go.Proofs.Ytigdpmeeibkifaa
