/- HuffFull: its walk. -/
import Derived.Test.YtbfhhnpoogmlnaaDoorHuffLeastW
namespace Go.Proofs.YtbfhhnpoogmlnaaDoor
open Go.RowKit Plain
set_option linter.unusedVariables false
set_option linter.unusedSimpArgs false
def intF (o : List Nat) : List Int := o.map fun n : Nat => (n : Int)
theorem intF_len (o : List Nat) : (intF o).length = o.length := by simp [intF]
theorem intF_getD (o : List Nat) (i : Nat) : (intF o).getD i 0 = (at0 o i : Int) := by
  rw [at0, List.getD_eq_getElem?_getD, List.getD_eq_getElem?_getD, intF, List.getElem?_map]
  cases o[i]? <;> rfl
theorem ks_eq {F o : List Nat} (h : FinH F o) : ks (intF o) = kS o (syms F) := by
  have e : ks (intF o) = sumS (wt (intF o)) ((List.range (intF o).length).filter fun t => decide (0 < (intF o).getD t 0)) := sumIf_sum _ _ _
  rw [e, intF_len, h.len]
  unfold kS syms
  have e2 : ((List.range F.length).filter fun t => decide (0 < (intF o).getD t 0)) = (List.range F.length).filter fun s => decide (0 < at0 F s) := by
    refine List.filter_congr fun s _ => ?_
    rw [intF_getD]
    have h1 := h.pos s
    by_cases h2 : 0 < at0 F s
    · rw [decide_eq_true h2, decide_eq_true (by have := h1.1 h2; omega)]
    · rw [decide_eq_false h2, decide_eq_false (fun h3 => h2 (h1.2 (by omega)))]
  rw [e2]
  refine sumS_congr fun s _ => ?_
  rw [wt, intF_getD, Int.toNat_natCast]
theorem kr_eq {F o : List Nat} (h : FinH F o) (h1 : 1 ≤ F.length) (h2 : F.length ≤ 256) : kr (intF o) = (kS o (syms F), 0) := by
  rw [← ks_eq h]
  unfold kr
  rw [if_neg]
  intro h3
  rcases h3 with h3 | h3 | h3
  · rw [intF_len, h.len] at h3; omega
  · rw [intF_len, h.len] at h3; omega
  · obtain ⟨n, hn, hb⟩ := List.any_eq_true.1 h3
    obtain ⟨i, hi, rfl⟩ := List.mem_iff_getElem.1 hn
    simp only [bad, decide_eq_true_eq, intF, List.getElem_map] at hb
    have hi2 : i < o.length := by rw [intF_len] at hi; exact hi
    have := h.le i
    rw [at0, List.getD_eq_getElem?_getD, List.getElem?_eq_getElem hi2] at this
    simp only [Option.getD_some] at this
    omega
theorem fin_03 {o : List Nat} (h : FinH [0, 3] o) : intF o = [0, 1] := by
  have hl : o.length = 2 := h.len
  match o, hl with
  | [x, y], _ =>
    have hs : syms [0, 3] = [1] := by decide
    have h0 := h.pos 0
    have hk := h.kf
    rw [hs] at hk
    simp only [kS, sumS, List.map_cons, List.map_nil, List.sum_cons, List.sum_nil, List.length_cons, List.length_nil] at hk
    simp [at0] at h0 hk
    have hy := h.le 1
    have hp := (h.pos 1).1 (by decide)
    simp only [at0, List.getD_cons_succ, List.getD_cons_zero] at hy hp
    have e : 48 - y = 47 := by
      rcases Nat.lt_trichotomy (48 - y) 47 with h1 | h1 | h1
      · have := Nat.pow_lt_pow_right (a := 2) (by decide) h1
        simp at this
        omega
      · exact h1
      · omega
    have e1 : y = 1 := by omega
    simp [intF, h0, e1]
end Go.Proofs.YtbfhhnpoogmlnaaDoor
