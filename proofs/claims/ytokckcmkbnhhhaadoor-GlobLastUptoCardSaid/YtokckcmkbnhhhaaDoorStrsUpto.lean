/- A slice of strings that came in: what it reads as; how much its strings hold where what came in is small. -/
import Derived.Test.YtokckcmkbnhhhaaDoorStrs
import Derived.SliceStrings
namespace Go.Proofs.YtokckcmkbnhhhaaDoor
open Go.RowKit Go.ChangeShapes Go.WideShapes Go.ChangeAt
open Go.ChangeMaps (open_string shut_string)
set_option maxRecDepth 100000 in
theorem open_strs2 {H : Type} {enc : TypeId × Value → H} {W : World} {r : Reach} {base b0 : Nat} {sp : Nat → Bool} {held : Bool} {v : Value} {d : DataW H} {p : List MemPlace} (ho : Value.okWide Tryd.prog W r b0 36 v) (hd : DataW.Trod enc Tryd.prog W base sp held 36 v d p) :
    ∃ (a : Option Addr) (l : List ByteArray) (cap : Nat), v = .slice a l.length cap ∧ l.length ≤ cap ∧ cap ≤ 9223372036854775807 ∧ SAt 1 sC W a l ∧ (∀ y ∈ l, y.size ≤ 9223372036854775807) ∧ ((l = [] ∧ d = .nil) ∨ ∃ spare, d = .slice (strs l) spare) := by
  obtain ⟨a0, len, cap, rfl⟩ := okWide_slice Tryd.underlying36 ho
  obtain ⟨fuel, hf⟩ := hd
  rcases open_strings Tryd.underlying36 Tryd.underlying9 cells_str hf with ⟨hcs, hx⟩ | ⟨a, len', cap', ss, hcs, _, hl, hm, hz, hx, hcell, hsz⟩
  · simp only [Value.cells, List.cons.injEq, and_true, Value.slice.injEq] at hcs
    obtain ⟨rfl, rfl, rfl⟩ := hcs
    exact ⟨none, [], 0, rfl, by simp, by simp, SAt.nil, by simp, .inl ⟨rfl, by cases hx; rfl⟩⟩
  · simp only [Value.cells, List.cons.injEq, and_true, Value.slice.injEq] at hcs
    obtain ⟨rfl, rfl, rfl⟩ := hcs
    have hle : len ≤ ss.length := by rw [hz]; split <;> omega
    have htl : (ss.take len).length = len := by rw [List.length_take]; omega
    unfold maxLen at hm hsz
    refine ⟨some a, ss.take len, cap, by rw [htl], by rw [htl]; exact hl, hm, ?_, fun y hy => hsz y (List.mem_of_mem_take hy), .inr ⟨_, by cases hx; rfl⟩⟩
    intro k hk
    obtain ⟨g, off, spt⟩ := a
    have hc := hcell k (by omega)
    have hspt : spt = none := by simpa [Addr.add] using World.cell?_spot (hcell 0 (by omega))
    subst hspt
    have e : (⟨g, off, none⟩ : Addr).add k = ⟨g, off + k, none⟩ := by
      unfold Addr.add
      split
      · rename_i h; subst h; rfl
      · rfl
    rw [e] at hc
    refine ⟨g, off, rfl, World.block_lt_of_cell? _ _ hc, ?_⟩
    intro j u hu
    have hj : j = 0 := by
      cases j with
      | zero => rfl
      | succ j => simp [sC] at hu
    subst hj
    simp only [sC, List.getElem?_cons_zero, Option.some.injEq] at hu
    subst hu
    rw [Nat.mul_one, Nat.add_zero, hc, List.getElem_take, List.getD_eq_getElem?_getD, List.getElem?_eq_getElem (by omega)]
    rfl
theorem strs_bulk {H : Type} : ∀ l : List ByteArray, (l.map strN).flatten.length + l.length ≤ Rows.uptoBulkAll (strs (H := H) l)
  | [] => by simp [strs, Rows.uptoBulkAll]
  | s :: l => by
    have ih := strs_bulk (H := H) l
    simp only [strs, List.map_cons, List.flatten_cons, List.length_append, strN_length, Rows.uptoBulkAll, Rows.uptoBulk, List.length_cons, Array.length_toList] at ih ⊢
    have : s.data.size = s.size := rfl
    omega
theorem strs_one : ∀ (l : List ByteArray) (y : ByteArray), y ∈ l → y.size ≤ (l.map strN).flatten.length
  | s :: l, y, h => by
    rw [List.map_cons, List.flatten_cons, List.length_append, strN_length]
    rcases List.mem_cons.1 h with rfl | h
    · omega
    · have := strs_one l y h; omega
end Go.Proofs.YtokckcmkbnhhhaaDoor
