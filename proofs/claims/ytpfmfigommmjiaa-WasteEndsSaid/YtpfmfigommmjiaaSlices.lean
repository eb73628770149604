/- Slices whose elements take n cells each, told by a list: kept, opened (an argument), read off a row of the call's own. -/
import Derived.WalkKit
import Derived.ProofKit
import Derived.OpenShut
import Derived.SizedLaws
import Derived.Lib.Hide
import Derived.Deep.MidRow
import Derived.Deep.Slices
import Derived.Deep.Fields
import Derived.ChangeSame
import Derived.Laws.OwnMore
namespace Go.Proofs.Ytpfmfigommmjiaa
open Go.RowKit Go.ChangeShapes Go.WideShapes Go.ChangeAt
/-- the elements of l lie at a, n cells each -/
def SAt {α : Type} (n : Nat) (c : α → List Value) (w : World) (a : Option Addr) (l : List α) : Prop :=
  ∀ i (h : i < l.length), ∃ g off, a = some ⟨g, off, none⟩ ∧ g < w.heap.size ∧ w.rangeAt g (off + i * n) (c l[i])
section
variable {α : Type} {n : Nat} {c : α → List Value} {w w' : World} {a : Option Addr} {l : List α}
theorem SAt.nil : SAt n c w a ([] : List α) := fun i h => absurd h (by simp)
theorem SAt.below (h : SAt n c w a l) (hb : Below w.heap.size w w') : SAt n c w' a l := fun i hi => by
  obtain ⟨g, off, e, hg, hr⟩ := h i hi
  exact ⟨g, off, e, Nat.lt_of_lt_of_le hg hb.size, fun j u hu => (hb.cell (p := ⟨g, off + i * n + j, none⟩) hg).trans (hr j u hu)⟩
theorem SAt.drew (h : SAt n c w a l) : SAt n c w.drew a l := h
/-- one element of a row of cells -/
theorem flat_get (hc : ∀ y, (c y).length = n) : ∀ (l : List α) (i j : Nat) (h : i < l.length), j < n → (l.flatMap c)[i * n + j]? = (c l[i])[j]?
  | [], i, j, h, _ => by cases h
  | p :: l, 0, j, h, hj => by
    rw [List.flatMap_cons, List.getElem?_append_left (by rw [hc]; omega)]
    simp
  | p :: l, i + 1, j, h, hj => by
    rw [List.flatMap_cons, List.getElem?_append_right (by rw [hc, Nat.succ_mul]; omega), hc]
    have := flat_get hc l i j (by simpa using h) hj
    rw [show (i + 1) * n + j - n = i * n + j by rw [Nat.succ_mul]; omega, this]
    rfl
theorem flat_length (hc : ∀ y, (c y).length = n) : ∀ l : List α, (l.flatMap c).length = l.length * n
  | [] => by simp
  | p :: l => by rw [List.flatMap_cons, List.length_append, hc, flat_length hc l, List.length_cons, Nat.succ_mul]; omega
/-- a row of the call's own read as a list -/
theorem SAt.own {base : Nat} {t : TypeId} {v : Value} (h : w.ownsRow base t n v l.length (l.flatMap c)) (hc : ∀ y, (c y).length = n) :
    ∃ a cap, v = .slice a l.length cap ∧ l.length ≤ cap ∧ cap ≤ 9223372036854775807 ∧ SAt n c w a l := by
  obtain ⟨_, h2⟩ := h
  rcases h2 with ⟨hv, h3⟩ | ⟨g, cap, cur, hv, hb, hg, h3, h4, h5, h6⟩
  · refine ⟨none, 0, by rw [hv, h3], by omega, by omega, fun i hi => by omega⟩
  · refine ⟨_, cap, hv, h3, by unfold maxLen at h4; exact h4, fun i hi => ⟨g, 0, rfl, lt_of_block hg, fun j u hu => ?_⟩⟩
    have hj : j < n := by
      rcases Nat.lt_or_ge j n with h | h
      · exact h
      · rw [List.getElem?_eq_none (by rw [hc]; exact h)] at hu; cases hu
    have hlt : i * n + j < l.length * n := by
      have : (i + 1) * n ≤ l.length * n := Nat.mul_le_mul_right _ hi
      rw [Nat.succ_mul] at this
      omega
    rw [Nat.zero_add, cell_of_row _ _ _ _ _ _ hg, ← hu, ← flat_get hc l i j hi hj, ← h6, List.getElem?_take, if_pos hlt]
    simp
/-- a slice that is read, opened -/
theorem SAt.trod {H : Type} {P : Program} {enc : TypeId × Value → H} {base : Nat} {sp : Nat → Bool} {held : Bool} {t e : TypeId} (Pr : α → Prop) (ht : P.underlying t = some (.slice e)) (hC : P.cellsOf e = n) (hn : 0 < n) (hc : ∀ y, (c y).length = n)
    (hread : ∀ fuel cs x, DataW.trod enc P w base sp held fuel e cs = some x → ∃ y, cs = c y ∧ Pr y) {fuel : Nat} {vs : List Value} {d : DataW H × List MemPlace} (hf : DataW.trod enc P w base sp held fuel t vs = some d) :
    ∃ (a : Option Addr) (l : List α) (cap : Nat), vs = [.slice a l.length cap] ∧ l.length ≤ cap ∧ cap ≤ 9223372036854775807 ∧ (∀ y ∈ l, Pr y) ∧ SAt n c w a l ∧ (l = [] ∨ ∃ elems spare, d.1 = .slice elems spare ∧ elems.length = l.length) := by
  rcases Go.Deep.open_slice ht hf with ⟨hcs, _⟩ | ⟨a', len, cap, m, k, D, Pl, hcs, _, hl, hm, hmm, hxd, hx⟩
  · subst hcs
    exact ⟨none, [], 0, rfl, by simp, by simp, by simp, SAt.nil, .inl rfl⟩
  · subst hcs
    have hlm : len ≤ m := by rw [hmm]; split <;> omega
    have hall : ∀ i, i < len → ∃ y : α, Pr y ∧ ∀ j, j < n → w.cell? ((a'.add (i * n)).add j) = (c y)[j]? := by
      intro i hi
      obtain ⟨cs', h1, h2⟩ := hx i (by omega)
      rw [hC] at h1
      obtain ⟨y, rfl, hy⟩ := hread _ _ _ h2
      obtain ⟨_, _, hcl⟩ := World.cells?_some h1
      exact ⟨y, hy, hcl⟩
    by_cases h0 : len = 0
    · subst h0
      exact ⟨some a', [], cap, rfl, by simp, by unfold maxLen at hm; exact hm, by simp, SAt.nil, .inl rfl⟩
    · have : Inhabited α := ⟨(hall 0 (by omega)).choose⟩
      obtain ⟨f, hf'⟩ := Go.Deep.choose_lt hall
      have hget : ∀ k (h : k < ((List.range len).map f).length), ((List.range len).map f)[k] = f k := by intro k h; simp
      refine ⟨some a', (List.range len).map f, cap, by simp, by simpa using hl, by unfold maxLen at hm; exact hm, ?_, ?_, .inr ⟨_, _, by rw [hxd], by simp⟩⟩
      · intro y hy
        simp only [List.mem_map, List.mem_range] at hy
        obtain ⟨i, hi, rfl⟩ := hy
        exact (hf' i hi).1
      · obtain ⟨b, off, spt⟩ := a'
        have hcell := fun i (hi : i < len) j (hj : j < n) => (hf' i hi).2 j hj
        simp only [Go.Deep.add_add] at hcell
        have h00 := hcell 0 (by omega) 0 hn
        rw [List.getElem?_eq_getElem (show 0 < (c (f 0)).length by rw [hc]; exact hn)] at h00
        have hspt : spt = none := by simpa [Addr.add] using World.cell?_spot h00
        subst hspt
        have hbl := World.block_lt_of_cell? _ _ h00
        intro k hk
        refine ⟨b, off, rfl, by simpa [Addr.add] using hbl, ?_⟩
        rw [hget k hk]
        intro j u hu
        have hk' : k < len := by simpa using hk
        have hj : j < n := by
          rcases Nat.lt_or_ge j n with h | h
          · exact h
          · rw [List.getElem?_eq_none (by rw [hc]; exact h)] at hu; cases hu
        have := hcell k hk' j hj
        rw [hu] at this
        rw [← this]
        congr 1
        unfold Addr.add
        split
        · rename_i h0'
          obtain rfl : j = 0 := by omega
          simp
        · simp [Nat.add_assoc]
/-- an argument opened -/
theorem SAt.open_ {H : Type} {P : Program} {enc : TypeId × Value → H} {r : Reach} {base b0 : Nat} {sp : Nat → Bool} {held : Bool} {t e : TypeId} {v : Value} {d : DataW H} {p : List MemPlace} (Pr : α → Prop) (ht : P.underlying t = some (.slice e)) (hC : P.cellsOf e = n) (hn : 0 < n) (hc : ∀ y, (c y).length = n)
    (hread : ∀ fuel cs x, DataW.trod enc P w base sp held fuel e cs = some x → ∃ y, cs = c y ∧ Pr y) (ho : Value.okWide P w r b0 t v) (hd : DataW.Trod enc P w base sp held t v d p) :
    ∃ (a : Option Addr) (l : List α) (cap : Nat), v = .slice a l.length cap ∧ l.length ≤ cap ∧ cap ≤ 9223372036854775807 ∧ (∀ y ∈ l, Pr y) ∧ SAt n c w a l ∧ (l = [] ∨ ∃ elems spare, d = .slice elems spare ∧ elems.length = l.length) := by
  obtain ⟨a, len, cap, rfl⟩ := okWide_slice ht ho
  obtain ⟨fuel, hf⟩ := hd
  obtain ⟨a', l, cap', hv, h1, h2, h3, h4, h5⟩ := SAt.trod Pr ht hC hn hc hread hf
  simp only [Value.cells, List.cons.injEq, and_true] at hv
  exact ⟨a', l, cap', hv, h1, h2, h3, h4, h5⟩
end
/-- the fields of a struct, a cell each -/
theorem trod_fields {H : Type} {P : Program} {enc : TypeId × Value → H} {w : World} {base : Nat} {sp : Nat → Bool} {held : Bool} {e : TypeId} {fs : Array Field} {fuel : Nat} {cs : List Value} {x : DataW H × List MemPlace}
    (he : P.underlying e = some (.struct fs)) (hone : Go.Deep.oneCellFields P fs = true) (hC : P.cellsOf e = fs.size) (h : DataW.trod enc P w base sp held fuel e cs = some x) :
    cs.length = fs.size ∧ ∀ (j : Nat) (f : Field), fs[j]? = some f → ∃ (u : Value) (m : Nat) (y : DataW H × List MemPlace), cs[j]? = some u ∧ DataW.trod enc P w base sp held m f.type [u] = some y := by
  obtain ⟨ys, m, _, _, hlen, hyl, hf⟩ := DataW.trod_struct he h
  refine ⟨hlen.trans hC, fun j f hj => ?_⟩
  obtain ⟨ho, hk⟩ := Go.Deep.hone_of hone j f hj
  have hjl : j < fs.size := (Array.getElem?_eq_some_iff.1 hj).1
  have hjc : j < cs.length := by omega
  have h1 := hf j f hj
  rw [ho, hk, List.drop_eq_getElem_cons hjc] at h1
  have hys : ys[j]? = some (ys[j]'(by omega)) := List.getElem?_eq_getElem (by omega)
  rw [hys] at h1
  exact ⟨cs[j], m, _, List.getElem?_eq_getElem hjc, h1⟩
end Go.Proofs.Ytpfmfigommmjiaa
