/- A slice literal of arrays by value: op buildSlice over abstract words. -/
import Derived.Test.YthfjonicolhjnaaBloomFacts
namespace Go.Proofs.Ythfjonicolhjnaa
open Plain
def lays (n : Nat) : List (List Nat) → List (Nat × Value)
  | [] => []
  | l :: r => (n, .agg (uC l)) :: lays (n + 1) r
theorem overlay (off : Nat) : ∀ (vs : List Value) (k : Nat) (cs : Array Value), let r := (vs.zipIdx k).foldl (fun cs (c, j) => cs.setIfInBounds (off + j) c) cs
    r.size = cs.size ∧ ∀ i, r[i]? = if off + k ≤ i ∧ i < off + k + vs.length ∧ i < cs.size then vs[i - (off + k)]? else cs[i]?
  | [], k, cs => ⟨rfl, fun i => by rw [if_neg (by simp; omega)]; rfl⟩
  | v :: vs, k, cs => by
    obtain ⟨h1, h2⟩ := overlay off vs (k + 1) (cs.setIfInBounds (off + k) v)
    simp only [List.zipIdx_cons, List.foldl_cons] at h1 h2 ⊢
    refine ⟨h1.trans (Array.size_setIfInBounds ..), fun i => ?_⟩
    rw [h2 i, Array.size_setIfInBounds, Array.getElem?_setIfInBounds]
    by_cases c1 : i = off + k
    · subst c1
      by_cases c2 : off + k < cs.size
      · rw [if_neg (by omega), if_pos rfl, if_pos c2, if_pos (by simp only [List.length_cons]; omega)]
        simp
      · rw [if_neg (by omega), if_pos rfl, if_neg c2, if_neg (by omega)]
        exact (Array.getElem?_eq_none (by omega)).symm
    · rw [if_neg (Ne.symm c1)]
      by_cases c2 : off + (k + 1) ≤ i ∧ i < off + (k + 1) + vs.length ∧ i < cs.size
      · rw [if_pos c2, if_pos (by simp only [List.length_cons]; omega), show i - (off + k) = (i - (off + (k + 1))) + 1 by omega, List.getElem?_cons_succ]
      · rw [if_neg c2, if_neg (by simp only [List.length_cons]; omega)]
theorem fill_lays : ∀ (ls : List (List Nat)) (n : Nat) (pre : List Nat) (cells : Array Value), (∀ l ∈ ls, l.length = 16) → pre.length = n * 16 → cells.size = (n + ls.length) * 16 → (∀ i, i < n * 16 → cells[i]? = (uC pre)[i]?) →
    Instr.fill (fun i => some (i * 16, 16)) cells (lays n ls) = some (uC (pre ++ ls.flatten))
  | [], n, pre, cells, _, hp, hc, he => by
    simp only [lays, Instr.fill, List.flatten_nil, List.append_nil]
    congr 1
    apply Array.ext_getElem?
    intro i
    by_cases c : i < n * 16
    · exact he i c
    · rw [Array.getElem?_eq_none (by simp at hc; omega), Array.getElem?_eq_none (by rw [uC_size]; omega)]
  | l :: r, n, pre, cells, hl, hp, hc, he => by
    have h16 := hl l (by simp)
    have hs : (uC l).size = 16 := by rw [uC_size]; exact h16
    obtain ⟨o1, o2⟩ := overlay (n * 16) (uC l).toList 0 cells
    have hlen : (uC l).toList.length = 16 := by rw [Array.length_toList]; exact hs
    have hcs : (n + 1 + r.length) * 16 = cells.size := by rw [hc]; simp only [List.length_cons]; omega
    have ih := fill_lays r (n + 1) (pre ++ l) _ (fun m hm => hl m (by simp [hm])) (by rw [List.length_append, hp, h16]; omega) (o1.trans hcs.symm) (fun i hi => by
      rw [o2 i]
      by_cases c : i < n * 16
      · rw [if_neg (by omega), he i c]
        simp only [uC, List.getElem?_toArray, List.map_append]
        rw [List.getElem?_append_left (by rw [List.length_map]; omega)]
      · rw [if_pos (by omega)]
        simp only [uC, List.getElem?_toArray, List.map_append]
        rw [List.getElem?_append_right (by rw [List.length_map]; omega), List.length_map, hp]
        simp)
    have hz : (uC l).zipIdx.foldl (fun cs (c, j) => cs.setIfInBounds (n * 16 + j) c) cells = ((uC l).toList.zipIdx 0).foldl (fun cs (c, j) => cs.setIfInBounds (n * 16 + j) c) cells := by
      rw [← Array.foldl_toList]; simp
    have hcl : (Value.agg (uC l)).cells = uC l := rfl
    have hfit : n * 16 + 16 ≤ cells.size := by rw [hc]; simp only [List.length_cons]; omega
    simp only [lays, Instr.fill, hcl]
    have hcond : (decide ((uC l).size ≠ 16) || decide (n * 16 + (uC l).size > cells.size)) = false := by
      rw [hs]; simp; omega
    simp only [hcond, Bool.false_eq_true, if_false]
    refine (congrArg (fun c => Instr.fill (fun i => some (i * 16, 16)) c (lays (n + 1) r)) hz).trans (ih.trans ?_)
    simp
theorem run_buildSlice_words {P : Program} (w : World) (t e : TypeId) (z : List Nat) (ls : List (List Nat)) (ht : P.underlying t = some (.slice e)) (hz : ∀ u : World, (zeroValue e).run P u = .ok (.agg (uC z)) u)
    (hi : (P.info? e).map (·.size) = some 16) (hl : ∀ l ∈ ls, l.length = 16) (hn : ls.length ≤ 1000) (hp : 0 < ls.length) :
    (Instr.buildSlice t ls.length (lays 0 ls).toArray).run P w = .ok (.slice (some ⟨w.heap.size, 0, none⟩) ls.length ls.length) (w.alloc (.cells (uC ls.flatten) e)) := by
  have hf := fill_lays ls 0 [] ((Array.range (ls.length * 16)).map (fun i => ((Value.agg (uC z)).cells)[i % ((Value.agg (uC z)).cells).size]!)) hl rfl (by simp) (by intro i hi; omega)
  have h1 : ¬ (ls.length * 16 > 2 ^ 24) := by
    have : (2 : Nat) ^ 24 = 16777216 := by decide
    omega
  have h2 : ¬ (ls.length * 16 = 0) := by omega
  rw [List.nil_append] at hf
  unfold Instr.buildSlice
  rw [Sem.run_bind, run_underlying ht w]
  simp only [Result.andThen, Sem.run_bind, run_sizeOf_of w hi, if_neg h1, if_neg h2, hz, Sem.run_pure, hf]
  rfl
end Go.Proofs.Ythfjonicolhjnaa
