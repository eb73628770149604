/- Rows of 64-bit numbers. -/
import Derived.Test.YtpfmfigommmjiaaMem
import Derived.Test.YtpfmfigommmjiaaBits
import Derived.Deep.MidRow
namespace Go.Proofs.Ytpfmfigommmjiaa
open Go.RowKit
def uV (n : Nat) : Value := .int .u64 (n : Int)
/-- a filter's cells -/
def uC (l : List Nat) : Array Value := (l.map uV).toArray
theorem uC_size (l : List Nat) : (uC l).size = l.length := by simp [uC]
def URow (w : World) (e : TypeId) (B : Nat) (l : List Nat) : Prop := w.heap[B]? = some (.cells (uC l) e (0, 0))
theorem URow.cell {w : World} {e : TypeId} {B : Nat} {l : List Nat} (h : URow w e B l) {k : Nat} (hk : k < l.length) : w.cell? ⟨B, k, none⟩ = some (.int .u64 ((l.getD k 0 : Nat) : Int)) := by
  rw [cell_of_row w B k _ e _ h]
  simp [uC, List.getElem?_map, List.getD_eq_getElem?_getD, List.getElem?_eq_getElem hk, uV]
theorem URow.frozen {w : World} {e : TypeId} {B : Nat} {l : List Nat} (h : URow w e B l) (k : Nat) : w.frozen? ⟨B, k, none⟩ = false := frozen_of_row w B k _ e h
theorem URow.drew {w : World} {e : TypeId} {B : Nat} {l : List Nat} (h : URow w e B l) : URow w.drew e B l := h
theorem URow.lt {w : World} {e : TypeId} {B : Nat} {l : List Nat} (h : URow w e B l) : B < w.heap.size := lt_of_block h
theorem URow.below {w w' : World} {e : TypeId} {B : Nat} {l : List Nat} (h : URow w e B l) (hb : Below w.heap.size w w') : URow w' e B l := (hb.block B h.lt).trans h
theorem URow.set {w : World} {e : TypeId} {B : Nat} {l : List Nat} (h : URow w e B l) (k v : Nat) : URow (w.setCell ⟨B, k, none⟩ (.int .u64 (v : Int))) e B (l.set k v) := by
  have := heap_setCell_same w B k _ e (.int .u64 (v : Int)) h
  unfold URow
  rw [this]
  simp [uC, List.map_set, uV]
theorem URow.new (w : World) (e : TypeId) (l : List Nat) : URow (w.alloc (.cells (uC l) e)) e w.heap.size l := heap_alloc_new w _
theorem URow.alloc {w : World} {e : TypeId} {B : Nat} {l : List Nat} (h : URow w e B l) (o : Obj) : URow (w.alloc o) e B l := (Below.heap_alloc w o B h.lt).trans h
theorem URow.other {w : World} {e : TypeId} {B : Nat} {l : List Nat} (h : URow w e B l) {a : Addr} (ha : B ≠ a.block) (v : Value) : URow (w.setCell a v) e B l := (heap_setCell_other w a B v ha).trans h
theorem heap_setCells (b : Nat) (t : TypeId) : ∀ (vs : List Value) (o : Nat) (w : World) (cs : Array Value), w.heap[b]? = some (.cells cs t (0, 0)) →
    ∃ cs', (w.setCells b o vs).heap[b]? = some (.cells cs' t (0, 0)) ∧ cs'.size = cs.size ∧ ∀ i, cs'[i]? = if o ≤ i ∧ i < o + vs.length ∧ i < cs.size then vs[i - o]? else cs[i]?
  | [], o, w, cs, h => ⟨cs, h, rfl, fun i => by rw [if_neg (by simp; omega)]⟩
  | v :: r, o, w, cs, h => by
    have h1 := heap_setCell_same w b o cs t v h
    obtain ⟨cs', h2, h3, h4⟩ := heap_setCells b t r (o + 1) (w.setCell ⟨b, o, none⟩ v) _ h1
    refine ⟨cs', h2, by rw [h3]; simp, fun i => ?_⟩
    rw [h4]
    simp only [Array.size_setIfInBounds, List.length_cons]
    by_cases hi : i = o
    · subst hi
      rw [if_neg (by omega)]
      by_cases hs : i < cs.size
      · rw [if_pos ⟨by omega, by omega, hs⟩]
        simp [hs]
      · rw [if_neg (by omega)]
        simp [hs]
    · by_cases hc : o + 1 ≤ i ∧ i < o + 1 + r.length ∧ i < cs.size
      · rw [if_pos hc, if_pos ⟨by omega, by omega, by omega⟩]
        rw [show i - o = (i - (o + 1)) + 1 by omega]
        rfl
      · rw [if_neg hc, if_neg (by omega)]
        rw [Array.getElem?_setIfInBounds]
        rw [if_neg (by omega)]
theorem heap_setCells_other (b k : Nat) (hk : k ≠ b) : ∀ (vs : List Value) (o : Nat) (w : World), (w.setCells b o vs).heap[k]? = w.heap[k]?
  | [], _, _ => rfl
  | v :: r, o, w => by
    have := heap_setCells_other b k hk r (o + 1) (w.setCell ⟨b, o, none⟩ v)
    exact this.trans (heap_setCell_other w ⟨b, o, none⟩ k v hk)
theorem URow.there {w : World} {e : TypeId} {B : Nat} {l : List Nat} (h : URow w e B l) : w.there B 0 l.length := fun j hj => by
  rw [Nat.zero_add, h.cell hj]
  exact ⟨rfl, h.frozen j⟩
/-- a whole row is stored -/
theorem URow.store {w : World} {e : TypeId} {B : Nat} {l : List Nat} (h : URow w e B l) (m : List Nat) (hm : m.length = l.length) : URow (w.setCells B 0 (uC m).toList) e B m := by
  obtain ⟨cs', h1, h2, h3⟩ := heap_setCells B e (uC m).toList 0 w (uC l) h
  unfold URow
  rw [h1]
  congr 2
  apply Array.ext
  · rw [h2, uC_size, uC_size, hm]
  · intro i hi1 hi2
    have := h3 i
    rw [uC_size] at hi2
    rw [if_pos ⟨by omega, by rw [Array.length_toList, uC_size]; omega, by rw [uC_size]; omega⟩, Array.getElem?_eq_getElem hi1] at this
    simp only [Nat.sub_zero, Array.getElem?_toList] at this
    rw [Array.getElem?_eq_getElem (by rw [uC_size]; exact hi2)] at this
    exact Option.some.inj this
theorem below_setCells {B b : Nat} (hb : B ≤ b) : ∀ (vs : List Value) (o : Nat) {w w1 : World}, Below B w w1 → Below B w (w1.setCells b o vs)
  | [], _, _, _, h => h
  | v :: r, o, _, _, h => below_setCells hb r (o + 1) (h.setCell (p := ⟨b, o, none⟩) hb v)
theorem uC_one (l : List Nat) : (uC l).all (·.oneCell') = true := by
  unfold uC
  apply all_oneCell_toArray
  intro v hv
  simp only [List.mem_map] at hv
  obtain ⟨n, _, rfl⟩ := hv
  rfl
end Go.Proofs.Ytpfmfigommmjiaa
