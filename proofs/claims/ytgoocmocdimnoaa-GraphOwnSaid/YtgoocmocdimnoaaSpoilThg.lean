/- The walk of spoil over things. -/
import Derived.Test.YtgoocmocdimnoaaAmpleThg
namespace Go.Proofs.Ytgoocmocdimnoaa
open Go.RowKit Plain
set_option linter.unusedVariables false
set_option linter.unusedSimpArgs false
theorem grown_setCells {w0 w : World} {g : Nat} (h : w0.grownBy w (some g)) (o : Nat) (vs : List Value) : w0.grownBy (w.setCells g o vs) (some g) := by
  have hf := setCells_frame g vs o w
  refine ⟨?_, ?_, ?_, ?_, fun k hk hne => ?_⟩
  · rw [hf.1]; exact h.os
  · rw [hf.1]; exact h.tape
  · rw [hf.1]; exact h.output
  · rw [hf.2]; exact h.size
  · rw [heap_setCells_other g k (fun e => hne (by rw [e])) vs o w]
    exact h.block k hk hne
theorem there_rowO {w : World} {b : Nat} {t : TypeId} {cs : Array Value} (h : w.heap[b]? = some (.cells cs t (0, 0))) (o n : Nat) (hn : o + n ≤ cs.size) : w.there b o n := fun j hj => by
  refine ⟨?_, frozen_of_row _ _ _ _ _ h⟩
  rw [cell_of_row _ _ _ _ _ _ h, Array.getElem?_eq_getElem (by omega)]
  rfl
set_option maxRecDepth 100000 in
set_option maxHeartbeats 1000000 in
theorem spoilThg_any (g n m : Nat) (fa : Option Addr) (fl fc : Nat) (col : Int) (fr : Bool) (cs : Array Value) (w : World) (h : w.heap[g]? = some (.cells cs 47 (0, 0))) (hc : cs.size = n * 3) (hn : n ≤ 3518437208790) (hm : m ≤ n) :
    Calls Try.prog 37 #[.slice (some ⟨g, 0, none⟩) m n, .agg #[.slice fa fl fc, .int .i64 col, .bool fr]] w (fun e w' => e = .returned (.tuple #[]) ∧ w.grownBy w' (some g) ∧ ∃ cs, w'.heap[g]? = some (.cells cs 47 (0, 0)) ∧ cs.size = n * 3) := by
  have H0 := Lib.hid h
  have HC := Lib.hid hc
  have k0 : (0 : Int) ≤ (n : Int) := Int.natCast_nonneg _
  have HICT : Hid ((Try.prog.info? 47).map (·.size) = some (#[.slice fa fl fc, .int .i64 col, .bool fr] : Array Value).size) := by show _ = some 3; kernel_rfl
  have HON : Hid (((#[.slice fa fl fc, .int .i64 col, .bool fr] : Array Value).all (·.oneCell')) = true) := by show _ = _; kernel_rfl
  have hgb := lt_of_block h
  have HG0 : Hid (w.grownBy (w.alloc (.cells #[.slice fa fl fc, .int .i64 col, .bool fr] 47)) (some g)) := ⟨rfl, rfl, rfl, ((Below.refl w.heap.size w).alloc (Nat.le_refl _) (.cells #[.slice fa fl fc, .int .i64 col, .bool fr] 47)).size, fun k hk _ => heap_alloc_old w _ hk⟩
  have HB0 := Lib.hid (heap_alloc_new w (.cells #[.slice fa fl fc, .int .i64 col, .bool fr] 47))
  have HR0 : Hid ((w.alloc (.cells #[.slice fa fl fc, .int .i64 col, .bool fr] 47)).heap[g]? = some (.cells cs 47 (0, 0))) := by show _ = _; rw [heap_alloc_old w _ hgb]; exact H0.out
  clear h hc
  go_enter Try.func37, Try.ntmps37
  go_wp2_with fail
  have hne : g ≠ w.heap.size := Nat.ne_of_lt hgb
  go_loopw [11] (fun iv wr => ∃ i : Nat, i ≤ n ∧ iv = .int .i64 (i : Int) ∧ w.grownBy wr (some g) ∧ wr.heap[w.heap.size]? = some (.cells #[.slice fa fl fc, .int .i64 col, .bool fr] 47 (0, 0)) ∧ ∃ cs : Array Value, wr.heap[g]? = some (.cells cs 47 (0, 0)) ∧ cs.size = n * 3) (fun iv _ => n - (intOf iv).toNat)
  case atStart => exact ⟨0, by omega, rfl, HG0.out, HB0.out, cs, HR0.out, HC.out⟩
  case round =>
    obtain ⟨i, hi, rfl, hg, hb, cs2, hr, hz⟩ := hrel
    have HG := Lib.hid hg
    have HR := Lib.hid hr
    have HZ := Lib.hid hz
    have HB := Lib.hid hb
    by_cases hlt : i < n
    · have m1 : (i : Int) < (n : Int) := by omega
      have m0 : (0 : Int) ≤ (i : Int) := Int.natCast_nonneg _
      have HTH : Hid (wr.there g (i * 3) (#[.slice fa fl fc, .int .i64 col, .bool fr] : Array Value).size) := there_rowO hr (i * 3) _ (by rw [hz]; show i * 3 + 3 ≤ n * 3; omega)
      have HN := Lib.hid (grown_setCells hg (i * 3) [.slice fa fl fc, .int .i64 col, .bool fr])
      obtain ⟨cs3, h31, h32, h33⟩ := heap_setCells g 47 [.slice fa fl fc, .int .i64 col, .bool fr] (i * 3) wr cs2 hr
      have HR2 := Lib.hid h31
      have HZ2 : Hid (cs3.size = n * 3) := h32.trans hz
      have HB2 := Lib.hid ((heap_setCells_other g w.heap.size hne.symm [.slice fa fl fc, .int .i64 col, .bool fr] (i * 3) wr).trans hb)
      clear hg hr hz hb h31 h32 h33
      go_wp2_with (first | (with_reducible refine wpList_load_row rfl 47 (.tmp 3) rfl w.heap.size rfl 47 #[.slice fa fl fc, .int .i64 col, .bool fr] (0, 0) _ HB.out Try.underlying47 rfl ?_ ?_; exact HICT.out) | (with_reducible refine wpList_store_mid rfl 47 (.tmp 17) (.tmp 16) rfl g (i * 3) #[.slice fa fl fc, .int .i64 col, .bool fr] rfl rfl ?_ ?_ HON.out ?_; exact HTH.out; exact HICT.out))
      go_roundw
      case rel => exact ⟨i + 1, by omega, by go_num, HN.out, HB2.out, _, HR2.out, HZ2.out⟩
      case measure => simp [intOf]; omega
    · have m1 : ¬ (i : Int) < (n : Int) := by omega
      clear hg hr hz hb
      go_wp2_with fail
      go_end0
      exact ⟨rfl, HG.out, _, HR.out, HZ.out⟩
end Go.Proofs.Ytgoocmocdimnoaa
