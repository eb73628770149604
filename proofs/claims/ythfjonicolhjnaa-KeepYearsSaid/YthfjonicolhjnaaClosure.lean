/- The walks of graph.Closure and Reach. -/
import Derived.Test.YthfjonicolhjnaaGraphW
import Derived.Test.YthfjonicolhjnaaAppendSat
namespace Go.Proofs.Ythfjonicolhjnaa
open Go.RowKit Plain
/-- truth values in a row -/
def oC (o : List Bool) : Array Value := (o.map Value.bool).toArray
theorem oC_get (o : List Bool) (i : Nat) (h : i < o.length) : (oC o)[i]? = some (.bool (o.getD i false)) := by
  simp [oC, List.getD_eq_getElem?_getD, List.getElem?_eq_getElem h]
theorem oC_set (o : List Bool) (i : Nat) (b : Bool) : (oC o).setIfInBounds i (.bool b) = oC (o.set i b) := by
  simp [oC]
theorem info_bool : (Try.prog.info? 4).map (fun i => (i.zero, i.size, i.bytes)) = some (some (.bool false), 1, 1) := by kernel_rfl
theorem info_int : (Try.prog.info? 3).map (fun i => (i.zero, i.size, i.bytes)) = some (some (.int .i64 0), 1, 8) := by kernel_rfl
set_option maxRecDepth 100000 in
theorem run_make_bools (n : Nat) (hn : n ≤ 1048576) (u : World) : (Instr.makeSlice 50 (.int .i64 (n : Int)) (.int .i64 (n : Int))).run Try.prog u = .ok (.slice (some ⟨u.heap.size, 0, none⟩) n n) (u.alloc (.cells (oC (List.replicate n false)) 4)) := by
  obtain ⟨i, hi, hz, hs, hb⟩ := info_parts info_bool
  have := run_make (P := Try.prog) u 50 4 i (.bool false) Try.underlying50 hi hz .i64 .i64 (n : Int) (n : Int) (by omega) (Int.le_refl _) (by rw [hb]; omega) (by omega)
  rw [this, hs, Int.toNat_natCast]
  congr 3
  simp only [madeCells, Nat.mul_one]
  apply Array.ext
  · simp [oC]
  · intro k h1 h2
    simp [Value.cells, oC, Nat.mod_one]
/-- how many cells of a block hold false -/
def fls (w : World) (B : Nat) : Nat := match w.heap[B]? with
  | some (.cells cs _ _) => cs.toList.countP fun v => match v with
    | .bool b => !b
    | _ => false
  | _ => 0
theorem fls_row {w : World} {B : Nat} {o : List Bool} {t : TypeId} (h : w.heap[B]? = some (.cells (oC o) t (0, 0))) : fls w B = falses o := by
  unfold fls falses
  rw [h]
  show ((o.map Value.bool).toArray.toList).countP _ = _
  rw [List.toList_toArray, List.countP_map]
  rfl
def lenOf : Value → Nat
  | .slice _ n _ => n
  | _ => 0
theorem iC_one (n : Int) : ∀ u ∈ iC n, u.oneCell' = true := by
  intro u hu
  simp only [iC, List.mem_singleton] at hu
  subst hu
  rfl
theorem iC_take (st : List Int) (k : Int) : ((st ++ [k]).flatMap iC).take (st.length * 1) = st.flatMap iC := by
  rw [List.flatMap_append, List.take_append_of_le_length (by rw [flat_length iC_length]; exact Nat.le_refl _)]
  exact List.take_of_length_le (by rw [flat_length iC_length]; exact Nat.le_refl _)
theorem snoc_of {α : Type} (l : List α) (h : l ≠ []) : ∃ m t, l = m ++ [t] := ⟨l.dropLast, l.getLast h, (List.dropLast_concat_getLast h).symm⟩
theorem own_is {w : World} {base : Nat} {t : TypeId} {k n c : Nat} {a : Option Addr} {xs : List Value} (h : w.ownsRow base t k (.slice a n c) n xs) (hn : 0 < n) : ∃ g, a = some ⟨g, 0, none⟩ := by
  rcases h.2 with ⟨_, h0⟩ | ⟨g, cap, cur, hv, _⟩
  · omega
  · injection hv with hv
    exact ⟨g, hv⟩
theorem own_cap {w : World} {base : Nat} {t : TypeId} {k n c : Nat} {a : Option Addr} {xs : List Value} (h : w.ownsRow base t k (.slice a n c) n xs) : n ≤ c ∧ c ≤ 9223372036854775807 := by
  rcases h.2 with ⟨hv, h0⟩ | ⟨g, cap, cur, hv, _, _, h1, h2, _⟩
  · injection hv with _ _ hv
    omega
  · injection hv with _ _ hv
    unfold maxLen at h2
    omega
theorem own_neq {w : World} {base : Nat} {t t' : TypeId} {k n g : Nat} {v : Value} {xs : List Value} {cs : Array Value} (h : w.ownsRow base t k v n xs) (hg : w.heap[g]? = some (.cells cs t' (0, 0))) (ht : t ≠ t') : some g ≠ v.ownBlock := by
  rcases h.2 with ⟨rfl, _⟩ | ⟨g', cap, cur, rfl, _, hh, _⟩
  · simp [Value.ownBlock]
  · intro he
    have : g = g' := by simpa [Value.ownBlock] using he
    subst this
    rw [hh] at hg
    injection hg with hg
    injection hg with _ hg
    exact ht hg
/-- a store into a row of another type -/
theorem own_store {w : World} {base : Nat} {t t' : TypeId} {k n g : Nat} {v : Value} {xs : List Value} {cs : Array Value} (h : w.ownsRow base t k v n xs) (hg : w.heap[g]? = some (.cells cs t' (0, 0))) (ht : t ≠ t') (i : Nat) (u : Value) : (w.setCell ⟨g, i, none⟩ u).ownsRow base t k v n xs := by
  have hne := own_neq h hg ht
  refine ⟨h.1, ?_⟩
  rcases h.2 with h0 | ⟨g', cap, cur, rfl, hb, hh, hr⟩
  · exact .inl h0
  · exact .inr ⟨g', cap, cur, rfl, hb, (heap_setCell_other w ⟨g, i, none⟩ g' u (fun e => hne (by simp [Value.ownBlock]; exact e.symm))).trans hh, hr⟩
/-- what Closure leaves -/
def ClEnd (w0 : World) (ks : List (List Int)) (rs : List Int) (e : Ending) (w : World) : Prop := Below w0.heap.size w0 w ∧ ∃ g o, e = .returned (.slice (some ⟨g, 0, none⟩) ks.length ks.length) ∧ w0.heap.size ≤ g ∧ g < w.heap.size ∧ w.heap[g]? = some (.cells (oC o) 4 (0, 0)) ∧ GSpec ks rs o
end Go.Proofs.Ythfjonicolhjnaa
