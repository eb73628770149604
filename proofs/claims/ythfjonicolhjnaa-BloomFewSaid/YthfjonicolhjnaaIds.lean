/- A slice of names (arrays of bytes) that came in, opened. -/
import Derived.Test.YthfjonicolhjnaaOpenId
import Derived.Deep.Slices
namespace Go.Proofs.Ythfjonicolhjnaa
open Go.RowKit Go.ChangeShapes Go.WideShapes Go.ChangeAt Plain
theorem trod_bytes_cells {H : Type} {P : Program} {enc : TypeId × Value → H} {W : World} {base : Nat} {sp : Nat → Bool} {held : Bool} {t e : TypeId} {n fuel : Nat} {cs : List Value} {x : DataW H × List MemPlace}
    (ht : P.underlying t = some (.array n e)) (he : P.underlying e = some (.int .u8)) (hc : P.cellsOf e = 1) (hn : P.cellsOf t = n) (h : DataW.trod enc P W base sp held fuel t cs = some x) :
    ∃ l : List Nat, cs = l.map bV ∧ l.length = n ∧ ∀ c ∈ l, c < 256 := by
  obtain ⟨xs, m, rfl, _, hlen, hxl, hx⟩ := DataW.trod_array ht h
  rw [hn] at hlen
  obtain ⟨zs, hz, hw⟩ := ints_of (k := .u8) cs (fun u hu => by
    obtain ⟨i, hi, rfl⟩ := List.mem_iff_getElem.1 hu
    have hi' := hx i (by omega)
    rw [hc, Nat.mul_one, List.getElem?_eq_getElem (by omega)] at hi'
    obtain ⟨a, ea, _, wa⟩ := DataW.trod_int he hi'
    rw [List.drop_eq_getElem_cons hi] at ea
    simp only [List.take_succ_cons, List.take_zero, List.cons.injEq, and_true] at ea
    exact ⟨a, ea, wa⟩)
  have hb : ∀ z ∈ zs, 0 ≤ z ∧ z < 256 := fun z hz => by
    have := hw z hz
    have hx : 0 ≤ z ∧ z ≤ 255 := by simpa [Lit.wf, IntKind.min, IntKind.max, IntKind.signed, IntKind.bits] using this
    omega
  refine ⟨zs.map Int.toNat, ?_, by rw [List.length_map, ← hlen, hz, List.length_map], ?_⟩
  · rw [hz, List.map_map]
    apply List.map_congr_left
    intro z hz
    have := hb z hz
    simp only [Function.comp, bV]
    congr 1
    omega
  · intro c hc'
    simp only [List.mem_map] at hc'
    obtain ⟨z, hz, rfl⟩ := hc'
    have := hb z hz
    omega
/-- the names of a slice -/
theorem open_ids {H : Type} {enc : TypeId × Value → H} {W : World} {r : Reach} {base b0 : Nat} {sp : Nat → Bool} {held : Bool} {v : Value} {d : DataW H} {p : List MemPlace}
    (ho : Value.okWide Try.prog W r b0 25 v) (hd : DataW.Trod enc Try.prog W base sp held 25 v d p) :
    ∃ (a : Option Addr) (ids : List (List Nat)) (cap : Nat), v = .slice a ids.length cap ∧ ids.length ≤ maxLen ∧ (∀ l ∈ ids, l.length = 8 ∧ ∀ c ∈ l, c < 256) ∧
      (ids = [] ∨ ∃ b off, a = some ⟨b, off, none⟩ ∧ b < W.heap.size ∧ ∀ k (h : k < ids.length), W.rangeAt b (off + k * 8) (ids[k].map bV)) := by
  obtain ⟨a, len, cap, rfl⟩ := okWide_slice Try.underlying25 ho
  obtain ⟨fuel, hf⟩ := hd
  have c8 : Try.prog.cellsOf 27 = 8 := by kernel_rfl
  rcases Go.Deep.open_slice Try.underlying25 hf with ⟨hcs, _⟩ | ⟨a', len', cap', m, n, D, Pl, hcs, _, hl, hm, hmm, _, hx⟩
  · simp [Value.cells] at hcs
    obtain ⟨rfl, rfl, rfl⟩ := hcs
    exact ⟨none, [], 0, rfl, by simp, by simp, .inl rfl⟩
  · simp [Value.cells] at hcs
    obtain ⟨rfl, rfl, rfl⟩ := hcs
    have hlm : len ≤ m := by rw [hmm]; split <;> omega
    have hall : ∀ i, i < len → ∃ l : List Nat, (l.length = 8 ∧ ∀ c ∈ l, c < 256) ∧ ∀ j, j < 8 → W.cell? ((a'.add (i * 8)).add j) = (l.map bV)[j]? := by
      intro i hi
      obtain ⟨cs', h1, h2⟩ := hx i (by omega)
      rw [c8] at h1
      obtain ⟨l, rfl, hl8, hlt⟩ := trod_bytes_cells Try.underlying27 Try.underlying5 (by kernel_rfl) c8 h2
      obtain ⟨_, _, hc⟩ := World.cells?_some h1
      exact ⟨l, ⟨hl8, hlt⟩, hc⟩
    obtain ⟨f, hf'⟩ := Go.Deep.choose_lt hall
    have hget : ∀ k (h : k < ((List.range len).map f).length), ((List.range len).map f)[k] = f k := by intro k h; simp
    refine ⟨some a', (List.range len).map f, cap, by simp, by simp; omega, ?_, ?_⟩
    · intro l hl'
      simp only [List.mem_map, List.mem_range] at hl'
      obtain ⟨i, hi, rfl⟩ := hl'
      exact (hf' i hi).1
    · by_cases h0 : len = 0
      · left; subst h0; rfl
      · right
        obtain ⟨b, off, spt⟩ := a'
        have hcell := fun i (hi : i < len) j (hj : j < 8) => (hf' i hi).2 j hj
        simp only [Go.Deep.add_add] at hcell
        have h00 := hcell 0 (by omega) 0 (by omega)
        have hl00 := (hf' 0 (by omega)).1.1
        rw [List.getElem?_eq_getElem (show 0 < ((f 0).map bV).length by rw [List.length_map, hl00]; omega)] at h00
        have hspt : spt = none := by simpa [Addr.add] using World.cell?_spot h00
        subst hspt
        have hbl := World.block_lt_of_cell? _ _ h00
        refine ⟨b, off, rfl, by simpa [Addr.add] using hbl, fun k hk => ?_⟩
        rw [hget k hk]
        intro j v hv
        have hk' : k < len := by simpa using hk
        have hj : j < 8 := by
          rcases Nat.lt_or_ge j 8 with h | h
          · exact h
          · rw [List.getElem?_eq_none (by rw [List.length_map, (hf' k hk').1.1]; exact h)] at hv; cases hv
        have := hcell k hk' j hj
        rw [hv] at this
        rw [← this]
        congr 1
        unfold Addr.add
        split
        · rename_i h0'
          obtain rfl : k = 0 := by omega
          obtain rfl : j = 0 := by omega
          simp
        · simp [Nat.add_assoc]
end Go.Proofs.Ythfjonicolhjnaa
