/- The walks of stays and spoil over ints. -/
import Derived.Test.YtgoocmocdimnoaaAmpleInt
namespace Go.Proofs.Ytgoocmocdimnoaa
open Go.RowKit
set_option linter.unusedVariables false
set_option maxRecDepth 100000 in
set_option maxHeartbeats 1000000 in
theorem staysInt_any (g : Nat) (b : Option Addr) (cb : Nat) (l : List Int) (f : Int) (w : World) (h : AmpI w g l f) (hb : SAt 1 iC w b l) (hl : l.length ≤ 17592186043904) :
    Calls Try.prog 35 #[.slice (some ⟨g, 0, none⟩) l.length (l.length + 3), .slice b l.length cb, .int .i64 f] w fun e w' => e = .returned (.bool true) ∧ Below w.heap.size w w' := by
  have HE := Lib.hid (eqInt_any (some ⟨g, 0, none⟩) b (l.length + 3) cb l l w (h.sat iC_length) hb (by omega) (by omega))
  rw [decide_eq_true rfl] at HE
  have HA := Lib.hid h
  have e2 : IntKind.i64.wrap ((l.length : Int) + 2) = (l.length : Int) + 2 := wraps_i64 _ (by omega) (by omega)
  have e1 : IntKind.i64.wrap ((l.length : Int) + 1) = (l.length : Int) + 1 := wraps_i64 _ (by omega) (by omega)
  have k1 : (0 : Int) ≤ (l.length : Int) + 2 := by omega
  have k2 : (l.length : Int) + 2 ≤ (l.length : Int) + 3 := by omega
  have k3 : (0 : Int) ≤ (l.length : Int) := Int.natCast_nonneg _
  have k4 : (l.length : Int) < (l.length : Int) + 2 := by omega
  have k5 : (0 : Int) ≤ (l.length : Int) + 1 := by omega
  have k6 : (l.length : Int) + 1 < (l.length : Int) + 2 := by omega
  have t2 : ((l.length : Int) + 2).toNat = l.length + 2 := by omega
  have t1 : ((l.length : Int) + 1).toNat = l.length + 1 := by omega
  clear h hb
  go_enter Try.func35, Try.ntmps35
  go_wp2_with fail
  refine HE.out.mono ?_
  rintro e w1 ⟨rfl, hb1⟩
  have HB1 := Lib.hid hb1
  have x0 := (HA.out.below hb1).fill iC_length 0 0 (by decide) (by decide)
  have x1 := (HA.out.below hb1).fill iC_length 1 0 (by decide) (by decide)
  have y0 : w1.cell? ⟨g, l.length, none⟩ = some (.int .i64 f) := by simpa [iC] using x0
  have y1 : w1.cell? ⟨g, l.length + 1, none⟩ = some (.int .i64 f) := by simpa [iC] using x1
  clear hb1 x0 x1
  go_wp2_with fail
  go_ret
  exact ⟨rfl, HB1.out⟩
def SpEnd (g : Nat) (t : TypeId) (n : Nat) (w0 : World) (e : Ending) (w : World) : Prop := e = .returned (.tuple #[]) ∧ w0.grownBy w (some g) ∧ ∃ cs, w.heap[g]? = some (.cells cs t (0, 0)) ∧ cs.size = n
theorem grown_set {w0 w : World} {g : Nat} (h : w0.grownBy w (some g)) (i : Nat) (v : Value) : w0.grownBy (w.setCell ⟨g, i, none⟩ v) (some g) := by
  refine ⟨h.os, h.tape, h.output, ?_, fun k hk hne => ?_⟩
  · have : (w.setCell ⟨g, i, none⟩ v).heap.size = w.heap.size := by simp [World.setCell]
    rw [this]; exact h.size
  · rw [heap_setCell_other w ⟨g, i, none⟩ k v (fun e => hne (by rw [e]))]
    exact h.block k hk hne
theorem grown_refl (w : World) (r : Option Nat) : w.grownBy w r := ⟨rfl, rfl, rfl, Nat.le_refl _, fun _ _ _ => rfl⟩
set_option maxRecDepth 100000 in
set_option maxHeartbeats 1000000 in
theorem spoilInt_any (g n m : Nat) (x : Int) (cs : Array Value) (w : World) (h : w.heap[g]? = some (.cells cs 3 (0, 0))) (hc : cs.size = n) (hn : n ≤ 9223372036854775807) (hm : m ≤ n) :
    Calls Try.prog 36 #[.slice (some ⟨g, 0, none⟩) m n, .int .i64 x] w (SpEnd g 3 n w) := by
  have H0 := Lib.hid h
  have HC := Lib.hid hc
  have k0 : (0 : Int) ≤ (n : Int) := Int.natCast_nonneg _
  clear h hc
  go_enter Try.func36, Try.ntmps36
  go_wp2_with fail
  go_loopw [11] (fun iv wr => ∃ i : Nat, i ≤ n ∧ iv = .int .i64 (i : Int) ∧ w.grownBy wr (some g) ∧ ∃ cs : Array Value, wr.heap[g]? = some (.cells cs 3 (0, 0)) ∧ cs.size = n) (fun iv _ => n - (intOf iv).toNat)
  case atStart => exact ⟨0, by omega, rfl, grown_refl _ _, cs, H0.out, HC.out⟩
  case round =>
    obtain ⟨i, hi, rfl, hg, cs2, hr, hz⟩ := hrel
    have HG := Lib.hid hg
    have HR := Lib.hid hr
    have HZ := Lib.hid hz
    by_cases hlt : i < n
    · have m1 : (i : Int) < (n : Int) := by omega
      have m0 : (0 : Int) ≤ (i : Int) := Int.natCast_nonneg _
      have hf := frozen_of_row wr g i _ _ hr
      obtain ⟨u, hcl⟩ : ∃ u, wr.cell? ⟨g, i, none⟩ = some u := by
        have := cell_of_row wr g i _ _ _ hr
        rw [Array.getElem?_eq_getElem (by omega)] at this
        exact ⟨_, this⟩
      have HN := Lib.hid (grown_set hg i (.int .i64 x))
      have HR2 := Lib.hid (heap_setCell_same wr g i _ _ (.int .i64 x) hr)
      clear hg hr hz
      go_wp2_with fail
      go_roundw
      case rel => exact ⟨i + 1, by omega, by go_num, HN.out, _, HR2.out, by rw [Array.size_setIfInBounds]; exact HZ.out⟩
      case measure => simp [intOf]; omega
    · have m1 : ¬ (i : Int) < (n : Int) := by omega
      clear hg hr hz
      go_wp2_with fail
      go_end0
      exact ⟨rfl, HG.out, _, HR.out, HZ.out⟩
end Go.Proofs.Ytgoocmocdimnoaa
