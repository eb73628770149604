/- A row of cells that is stored whole into a block just made: the world is that in which the block was made with those cells; a row stored over another row. -/
import Derived.Test.YtpfmfigommmjiaaWords
namespace Go.Proofs.Ytpfmfigommmjiaa
open Go.RowKit
theorem setCells_frame (b : Nat) : ∀ (vs : List Value) (o : Nat) (w : World), w.setCells b o vs = { w with heap := (w.setCells b o vs).heap } ∧ (w.setCells b o vs).heap.size = w.heap.size
  | [], _, _ => ⟨rfl, rfl⟩
  | v :: r, o, w => by
    obtain ⟨h, h2⟩ := setCells_frame b r (o + 1) (w.setCell ⟨b, o, none⟩ v)
    refine ⟨h, ?_⟩
    show ((w.setCell ⟨b, o, none⟩ v).setCells b (o + 1) r).heap.size = _
    rw [h2]
    simp [World.setCell]
theorem setCells_full {w : World} {b : Nat} {t : TypeId} {Z : Array Value} (hz : w.heap[b]? = some (.cells Z t (0, 0))) (cs : Array Value) (h : cs.size = Z.size) :
    (w.setCells b 0 cs.toList).heap[b]? = some (.cells cs t (0, 0)) := by
  obtain ⟨cs', h2, h3, h4⟩ := heap_setCells b t cs.toList 0 w Z hz
  rw [h2]
  congr 2
  apply Array.ext_getElem?
  intro i
  rw [h4]
  by_cases hi : i < Z.size
  · rw [if_pos ⟨Nat.zero_le _, by rw [Array.length_toList]; omega, hi⟩]
    simp
  · rw [if_neg (fun hc => hi hc.2.2)]
    rw [Array.getElem?_eq_none (by omega), Array.getElem?_eq_none (by omega)]
theorem alloc_setCells (w : World) (ty : TypeId) (Z cs : Array Value) (h : cs.size = Z.size) : (w.alloc (.cells Z ty)).setCells w.heap.size 0 cs.toList = w.alloc (.cells cs ty) := by
  obtain ⟨e, es⟩ := setCells_frame w.heap.size cs.toList 0 (w.alloc (.cells Z ty))
  have hf := setCells_full (heap_alloc_new w (.cells Z ty)) cs h
  have ho := fun k hk => heap_setCells_other w.heap.size k hk cs.toList 0 (w.alloc (.cells Z ty))
  generalize ((w.alloc (.cells Z ty)).setCells w.heap.size 0 cs.toList) = w2 at *
  have hh : w2.heap = (w.alloc (.cells cs ty)).heap := by
    apply Array.ext_getElem?
    intro k
    by_cases hk : k = w.heap.size
    · subst hk
      rw [hf]
      exact (heap_alloc_new w (.cells cs ty)).symm
    · rw [ho k hk]
      show (w.heap.push _)[k]? = (w.heap.push _)[k]?
      rw [Array.getElem?_push, Array.getElem?_push, if_neg (by omega), if_neg (by omega)]
  rw [e, hh]
  rfl
/-- The arm for the store: the block was the last one made. -/
theorem wpList_store_new {P : Program} {ops : Array Oper} {rest : List Oper} {op : Oper} {a : Act} {w : World} {Q : Exit → Act → World → Prop} {Z : Array Value} {bt : TypeId} (hgd : op.guard = none) (ty : TypeId) (x y : Operand) (ho : op.op = .store ty x y)
    (n : Nat) (cells : Array Value) (hx : a.eval x = .pointer (some ⟨n, 0, none⟩)) (hy : a.eval y = .agg cells)
    (hz : cells.size = Z.size) (hi : (P.info? ty).map (·.size) = some cells.size) (h1 : cells.all (·.oneCell') = true) (hn : n = w.heap.size)
    (h : wpList P ops Q rest (a.put op.dst undef) (w.alloc (.cells cells bt))) : wpList P ops Q (op :: rest) a (w.alloc (.cells Z bt)) := by
  subst hn
  refine wpList_store_mid hgd ty x y ho w.heap.size 0 cells hx hy ?_ hi h1 ?_
  · intro j hj
    rw [Nat.zero_add]
    have hb := heap_alloc_new w (.cells Z bt)
    refine ⟨?_, frozen_of_row _ _ _ _ _ hb⟩
    rw [cell_of_row _ _ _ _ _ _ hb, Array.getElem?_eq_getElem (by omega)]
    rfl
  · rw [alloc_setCells w bt Z cells hz]
    exact h
theorem bC_one (l : List Nat) : ((l.map bV).toArray).all (·.oneCell') = true := by
  apply Array.all_eq_true_iff_forall_mem.2
  intro v hv
  simp only [List.mem_toArray, List.mem_map] at hv
  obtain ⟨n, _, rfl⟩ := hv
  rfl
end Go.Proofs.Ytpfmfigommmjiaa
