/- Rows of truth values of the call's own; glob.sequence at the closures of path. Printed by gen_globseq.py. -/
import Derived.Test.YtokckcmkbnhhhaaDoorGlobSeqN
namespace Go.Proofs.YtokckcmkbnhhhaaDoor
open Go.RowKit Plain
set_option linter.unusedVariables false
set_option linter.unusedSimpArgs false

set_option maxRecDepth 100000 in
set_option maxHeartbeats 8000000 in
theorem gseq_path (items things : Nat) (A : Nat → Bool) (M : Nat → Nat → Bool) (p2 p3 : Addr) (w : World)
    (HA : ∀ (i : Nat) (W : World), i < items → Below w.heap.size w W → Calls Tryd.prog 81 #[.int .i64 (i : Int), .pointer (some p2)] W fun e w' => e = .returned (.bool (A i)) ∧ Below W.heap.size W w')
    (HM : ∀ (i k : Nat) (W : World), i < items → k < things → Below w.heap.size w W → Calls Tryd.prog 82 #[.int .i64 (i : Int), .int .i64 (k : Int), .pointer (some p2), .pointer (some p3)] W fun e w' => e = .returned (.bool (M i k)) ∧ Below W.heap.size W w')
    (hi : items ≤ 1099511627776) (ht : things ≤ 1099511627776) :
    Calls Tryd.prog 80 #[.int .i64 (items : Int), .int .i64 (things : Int), .func (.func 81) #[] #[.pointer (some p2)], .func (.func 82) #[] #[.pointer (some p2), .pointer (some p3)]] w fun e w' => e = .returned (.bool (seqD A M items things)) ∧ Below w.heap.size w w' := by
  have HHA := Lib.hid HA
  have HHM := Lib.hid HM
  clear HA HM
  have t1 : ((things : Int) + 1).toNat = things + 1 := by omega
  have t2 : (0 : Int) ≤ (things : Int) + 1 := by omega
  have t3 : IntKind.i64.wrap ((things : Int) + 1) = (things : Int) + 1 := by rw [IntKind.wrap_i64]; omega
  have t4 : (0 : Int) < (things : Int) + 1 := by omega
  have t5 : (things : Int) + 1 ≤ 140737488355328 := by omega
  have hmk := run_make_boS (things + 1) ((things : Int) + 1) (by omega) (by omega)
  have HHT := Lib.hid ht
  go_enter Tryd.func80, Tryd.ntmps80
  go_wp2_with fail
  have HB0 := Lib.hid ((Below.refl w.heap.size w).alloc (Nat.le_refl _) (.cells ((Array.replicate (things + 1) (.bool false)).setIfInBounds 0 (.bool true)) 4))
  have HN0 : Hid ((w.alloc (.cells ((Array.replicate (things + 1) (.bool false)).setIfInBounds 0 (.bool true)) 4)).heap[w.heap.size]? = some (.cells (rowB (seqD A M 0) (things + 1)) 4 (0, 0))) := Lib.hid (by rw [heap_alloc_new w _, rowB_start]; rfl)
  go_loopw [9, 19] (fun nv iv wr => ∃ (i N : Nat), i ≤ items ∧ iv = .int .i64 (i : Int) ∧ nv = .slice (some ⟨N, 0, none⟩) (things + 1) (things + 1) ∧ Hid (wr.heap[N]? = some (.cells (rowB (seqD A M i) (things + 1)) 4 (0, 0))) ∧ Hid (Below w.heap.size w wr) ∧ Hid (w.heap.size ≤ N)) (fun _ iv _ => items - (intOf iv).toNat)
  case atStart => exact ⟨0, _, by omega, rfl, rfl, HN0, HB0, Lib.hid (Nat.le_refl _)⟩
  case round =>
    obtain ⟨i, N, hin, rfl, rfl, HN, HB, HNL⟩ := hrel
    clear HB0 HN0
    by_cases hlt : i < items
    · have m1 : (i : Int) < (items : Int) := by omega
      obtain ⟨wo, rfl⟩ : ∃ wo : World, wo = wr := ⟨_, rfl⟩
      have HAL := Lib.hid ((Below.refl wo.heap.size wo).alloc (Nat.le_refl _) (.cells (Array.replicate (things + 1) (.bool false)) 4))
      have HXs : Hid ((wo.alloc (.cells (Array.replicate (things + 1) (.bool false)) 4)).heap[wo.heap.size]? = some (.cells (rowB (cutB (stepD (A i) (M i) (seqD A M i)) 0) (things + 1)) 4 (0, 0))) := Lib.hid (by rw [rowB_cut0]; exact heap_alloc_new wo _)
      have HNs := Lib.hid ((HAL.out.block N (lt_of_block HN.out)).trans HN.out)
      have HBs := Lib.hid (Below.step HB.out HAL.out)
      have HXN : Hid (N ≠ wo.heap.size) := Lib.hid (by have := lt_of_block HN.out; omega)
      have HXG : Hid (w.heap.size ≤ wo.heap.size) := Lib.hid HB.out.size
      have HHAi := Lib.hid fun (W : World) (h : Below w.heap.size w W) => HHA.out i W hlt h
      have HHMi := Lib.hid fun (k : Nat) (W : World) (hk : k < things) (h : Below w.heap.size w W) => HHM.out i k W hlt hk h
      have HSTEP : Hid (stepD (A i) (M i) (seqD A M i) = seqD A M (i + 1)) := Lib.hid rfl
      clear HAL HN HB
      go_wp2_with fail
      generalize (wo.alloc (.cells (Array.replicate (things + 1) (.bool false)) 4)) = ws at *
      generalize hX : wo.heap.size = X at *
      clear hX
      generalize hf : stepD (A i) (M i) (seqD A M i) = f at *
      generalize hA : A i = av at *
      have HF : Hid (f = stepD av (M i) (seqD A M i)) := Lib.hid hf.symm
      generalize hg : seqD A M i = gq at *
      clear hf hA hg
      go_loopw [27] (fun kv wr => ∃ k : Nat, k ≤ things + 1 ∧ kv = .int .i64 (k : Int) ∧ Hid (wr.heap[X]? = some (.cells (rowB (cutB f k) (things + 1)) 4 (0, 0))) ∧ Hid (wr.heap[N]? = some (.cells (rowB gq (things + 1)) 4 (0, 0))) ∧ Hid (Below w.heap.size w wr)) (fun kv _ => things + 1 - (intOf kv).toNat)
      case atStart => exact ⟨0, by omega, rfl, HXs, HNs, HBs⟩
      case round =>
        obtain ⟨k, hk, rfl, HX, HN, HB⟩ := hrel
        clear HXs HNs HBs
        by_cases hk1 : k < things + 1
        · have m2 : (k : Int) < (things : Int) + 1 := by omega
          go_wp2_with fail
          refine (HHAi.out _ HB.out).mono ?_
          rintro e u ⟨rfl, hb⟩
          have HXu := Lib.hid ((hb.block _ (lt_of_block HX.out)).trans HX.out)
          have HNu := Lib.hid ((hb.block _ (lt_of_block HN.out)).trans HN.out)
          have HBu := Lib.hid (Below.step HB.out hb)
          clear hb HX HN HB
          have nk : u.cell? ⟨N, k, none⟩ = some (.bool (gq k)) := cell_rowB HNu.out hk1
          have hfz := frozen_of_row _ X k _ _ HXu.out
          have xk : u.cell? ⟨X, k, none⟩ = some (.bool (cutB f k k)) := cell_rowB HXu.out hk1
          have k0 : (0 : Int) ≤ (k : Int) := Int.natCast_nonneg _
          have HEND : Hid (∀ z, Below u.heap.size u z → (∃ v, z = z)) := Lib.hid fun z _ => ⟨0, rfl⟩
          have HST : Hid (∀ z b, z.heap[X]? = some (.cells (rowB (cutB f k) (things + 1)) 4 (0, 0)) → z.heap[N]? = some (.cells (rowB gq (things + 1)) 4 (0, 0)) → Below w.heap.size w z → b = f k → (z.setCell ⟨X, k, none⟩ (.bool b)).heap[X]? = some (.cells (rowB (cutB f (k + 1)) (things + 1)) 4 (0, 0)) ∧ (z.setCell ⟨X, k, none⟩ (.bool b)).heap[N]? = some (.cells (rowB gq (things + 1)) 4 (0, 0)) ∧ Below w.heap.size w (z.setCell ⟨X, k, none⟩ (.bool b))) := Lib.hid fun z b h1 h2 h3 h4 => ⟨by rw [row_set h1, h4, rowB_set f hk1], (Below.heap_setCell _ _ _ _ (by show N ≠ X; exact HXN.out)).trans h2, h3.setCell (p := ⟨X, k, none⟩) HXG.out _⟩
          clear HEND
          cases av with
          | true =>
            generalize hnk : gq k = nkv at *
            cases nkv with
            | true =>
              have HFK : Hid (true = f k) := Lib.hid (by rw [HF.out]; cases k <;> simp [stepD, hnk])
              clear hnk
              go_wp2_with fail
              obtain ⟨a1, a2, a3⟩ := HST.out u true HXu.out HNu.out HBu.out HFK.out
              go_roundw
              case rel => exact ⟨k + 1, by omega, by go_num, Lib.hid a1, Lib.hid a2, Lib.hid a3⟩
              case measure => simp [intOf]; omega
            | false =>
              by_cases hz : k = 0
              · subst hz
                have HFK : Hid (false = f 0) := Lib.hid (by rw [HF.out]; simp [stepD, hnk])
                clear hnk
                rw [show ((0 : Nat) : Int) = 0 from rfl]
                go_wp2_with fail
                obtain ⟨a1, a2, a3⟩ := HST.out u false HXu.out HNu.out HBu.out HFK.out
                go_roundw
                case rel => exact ⟨1, by omega, by go_num, Lib.hid a1, Lib.hid a2, Lib.hid a3⟩
                case measure => simp [intOf]
              · obtain ⟨m, rfl⟩ : ∃ m, k = m + 1 := ⟨k - 1, by omega⟩
                rw [show ((m + 1 : Nat) : Int) = (m : Int) + 1 from rfl] at *
                have z1 : (0 : Int) < (m : Int) + 1 := by omega
                have z2 : IntKind.i64.wrap (m : Int) = (m : Int) := by rw [IntKind.wrap_i64]; omega
                have z3 : (0 : Int) ≤ (m : Int) := by omega
                have z5 : (m : Int) < (things : Int) + 1 := by omega
                have xk1 : u.cell? ⟨X, m, none⟩ = some (.bool (f m)) := by
                  have := cell_rowB HXu.out (k := m) (by omega)
                  rw [this, cutB, decide_eq_true (by omega)]; rfl
                have HFK : Hid (f m = f (m + 1)) := Lib.hid (by
                  rw [HF.out]
                  show stepD _ _ _ m = stepD _ _ _ (m + 1)
                  simp [stepD, hnk])
                clear hnk hz
                generalize f m = bv at *
                go_wp2_with fail
                obtain ⟨a1, a2, a3⟩ := HST.out u bv HXu.out HNu.out HBu.out HFK.out
                cases bv
                all_goals go_wp2_with fail
                all_goals go_roundw
                case rel => exact ⟨m + 1 + 1, by omega, by go_num, Lib.hid a1, Lib.hid a2, Lib.hid a3⟩
                case measure => simp [intOf]; omega
                case rel => exact ⟨m + 1 + 1, by omega, by go_num, Lib.hid a1, Lib.hid a2, Lib.hid a3⟩
                case measure => simp [intOf]; omega
          | false =>
            by_cases hz : k = 0
            · subst hz
              have HFK : Hid (false = f 0) := Lib.hid (by rw [HF.out]; simp [stepD])
              rw [show ((0 : Nat) : Int) = 0 from rfl]
              go_wp2_with fail
              obtain ⟨a1, a2, a3⟩ := HST.out u false HXu.out HNu.out HBu.out HFK.out
              go_roundw
              case rel => exact ⟨1, by omega, by go_num, Lib.hid a1, Lib.hid a2, Lib.hid a3⟩
              case measure => simp [intOf]
            · obtain ⟨m, rfl⟩ : ∃ m, k = m + 1 := ⟨k - 1, by omega⟩
              rw [show ((m + 1 : Nat) : Int) = (m : Int) + 1 from rfl] at *
              have z1 : (0 : Int) < (m : Int) + 1 := by omega
              have z2 : IntKind.i64.wrap (m : Int) = (m : Int) := by rw [IntKind.wrap_i64]; omega
              have z3 : (0 : Int) ≤ (m : Int) := by omega
              have z5 : (m : Int) < (things : Int) + 1 := by omega
              have nk1 : u.cell? ⟨N, m, none⟩ = some (.bool (gq m)) := cell_rowB HNu.out (k := m) (by omega)
              have HFM : Hid ((gq m && M i m) = f (m + 1)) := Lib.hid (by
                rw [HF.out]
                simp [stepD])
              have hkt : m < things := by omega
              have HCM := Lib.hid fun (W : World) (h : Below w.heap.size w W) => HHMi.out m W hkt h
              clear hz
              generalize gq m = nv at *
              cases nv with
              | true =>
                go_wp2_with fail
                refine (HCM.out _ HBu.out).mono ?_
                rintro e u2 ⟨rfl, hb⟩
                have HXv := Lib.hid ((hb.block _ (lt_of_block HXu.out)).trans HXu.out)
                have HNv := Lib.hid ((hb.block _ (lt_of_block HNu.out)).trans HNu.out)
                have HBv := Lib.hid (Below.step HBu.out hb)
                have hfz2 := frozen_of_row _ X (m + 1) _ _ HXv.out
                have xk2 : u2.cell? ⟨X, m + 1, none⟩ = some (.bool (cutB f (m + 1) (m + 1))) := cell_rowB HXv.out hk1
                clear hb HXu HNu HBu hfz xk nk nk1
                generalize M i m = mv at *
                cases mv
                all_goals go_wp2_with fail
                · obtain ⟨a1, a2, a3⟩ := HST.out u2 false HXv.out HNv.out HBv.out HFM.out
                  go_roundw
                  case rel => exact ⟨m + 1 + 1, by omega, by go_num, Lib.hid a1, Lib.hid a2, Lib.hid a3⟩
                  case measure => simp [intOf]; omega
                · obtain ⟨a1, a2, a3⟩ := HST.out u2 true HXv.out HNv.out HBv.out HFM.out
                  go_roundw
                  case rel => exact ⟨m + 1 + 1, by omega, by go_num, Lib.hid a1, Lib.hid a2, Lib.hid a3⟩
                  case measure => simp [intOf]; omega
              | false =>
                go_wp2_with fail
                obtain ⟨a1, a2, a3⟩ := HST.out u false HXu.out HNu.out HBu.out HFM.out
                go_roundw
                case rel => exact ⟨m + 1 + 1, by omega, by go_num, Lib.hid a1, Lib.hid a2, Lib.hid a3⟩
                case measure => simp [intOf]; omega
        · have m2 : ¬ (k : Int) < (things : Int) + 1 := by omega
          obtain rfl : k = things + 1 := by omega
          have HXf : Hid (wr.heap[X]? = some (.cells (rowB (seqD A M (i + 1)) (things + 1)) 4 (0, 0))) := Lib.hid (by rw [HX.out, rowB_cutn, HSTEP.out])
          go_wp2_with fail
          go_roundw
          case rel => exact ⟨i + 1, X, by omega, by go_num, rfl, HXf, HB, HXG⟩
          case measure => simp [intOf]; omega
    · have m1 : ¬ (i : Int) < (items : Int) := by omega
      obtain rfl : i = items := by omega
      have nk : wr.cell? ⟨N, things, none⟩ = some (.bool (seqD A M i things)) := cell_rowB HN.out (by omega)
      have t6 : (things : Int) < (things : Int) + 1 := by omega
      generalize hr : seqD A M i things = r at *
      have HR := Lib.hid hr
      clear hr
      go_wp2_with fail
      go_ret
      exact ⟨by rw [HR.out]; rfl, HB.out⟩
end Go.Proofs.YtokckcmkbnhhhaaDoor
