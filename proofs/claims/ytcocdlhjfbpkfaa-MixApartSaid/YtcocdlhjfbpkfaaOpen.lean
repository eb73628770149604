/- What the reading of a slice of bytes or of integers that came in tells the walk. -/
import Derived.Test.YtcocdlhjfbpkfaaMem
import Derived.ProofKit
import Derived.OpenShut
import Derived.SizedLaws
namespace Go.Proofs.Ytcocdlhjfbpkfaa
open Go.RowKit Go.ChangeShapes Go.WideShapes Go.ChangeAt
theorem open_ints_at {H : Type} {P : Program} {enc : TypeId × Value → H} {W : World} {t e : TypeId} {k : IntKind} {a : Option Addr} {len cap : Nat} {d : DataW H} {p : List MemPlace} (ht : P.underlying t = some (.slice e)) (he : P.underlying e = some (.int k)) (hc : P.cellsOf e = 1)
    (h : DataW.Trod enc P W 0 (fun _ => true) true t (.slice a len cap) d p) :
    (a = none ∧ len = 0 ∧ cap = 0 ∧ d = .nil) ∨
    ∃ (b off : Nat) (sp : Option Nat) (zs : List Int), a = some ⟨b, off, sp⟩ ∧ len ≤ cap ∧ cap ≤ maxLen ∧ zs.length = cap ∧ d = .slice (lits k (zs.take len)) (lits k (zs.drop len)) ∧
      (∀ i, i < zs.length → W.cell? ⟨b, off + i, sp⟩ = some (.int k (zs.getD i 0))) ∧ (∀ n ∈ zs, (Lit.int k n).wf = true) := by
  obtain ⟨fuel, hf⟩ := h
  rcases open_ints ht he hc hf with ⟨hcs, hx⟩ | ⟨x, l, c, zs, hcs, _, hl, hm, hz, hx, hcell, hwz⟩
  · left
    simp [Value.cells] at hcs hx
    obtain ⟨rfl, rfl, rfl⟩ := hcs
    exact ⟨rfl, rfl, rfl, hx.1⟩
  · right
    simp [Value.cells] at hcs hx
    obtain ⟨rfl, rfl, rfl⟩ := hcs
    obtain ⟨b, off, sp⟩ := x
    exact ⟨b, off, sp, zs, rfl, hl, hm, by simpa using hz, hx.1, fun i hi => by
      have h1 := hcell i hi
      have h0 := World.cell?_spot (hcell 0 (by omega))
      have hsp : sp = none := by simpa [Addr.add] using h0
      subst hsp
      by_cases hi0 : i = 0
      · subst hi0; simpa [Addr.add] using h1
      · simpa [Addr.add, hi0] using h1, hwz⟩
/-- bytes: the elements as numbers -/
theorem open_bytes {H : Type} {P : Program} {enc : TypeId × Value → H} {W : World} {t e : TypeId} {a : Option Addr} {len cap : Nat} {d : DataW H} {p : List MemPlace} (ht : P.underlying t = some (.slice e)) (he : P.underlying e = some (.int .u8)) (hc : P.cellsOf e = 1)
    (h : DataW.Trod enc P W 0 (fun _ => true) true t (.slice a len cap) d p) :
    (a = none ∧ len = 0 ∧ cap = 0 ∧ d = .nil) ∨
    ∃ (b off : Nat) (sp : Option Nat) (l : List Nat) (elems spare : List (DataW H)), a = some ⟨b, off, sp⟩ ∧ len = l.length ∧ l.length ≤ cap ∧ d = .slice elems spare ∧ elems.length + spare.length = cap ∧
      (∀ i, i < l.length → W.cell? ⟨b, off + i, sp⟩ = some (.int .u8 ((l.getD i 0 : Nat) : Int))) ∧ (∀ c ∈ l, c < 256) := by
  rcases open_ints_at ht he hc h with h0 | ⟨b, off, sp, zs, ha, hl, hm, hz, hd, hcell, hwz⟩
  · exact .inl h0
  · right
    have hw : ∀ n ∈ zs, 0 ≤ n ∧ n < 256 := fun n hn => by
      have := hwz n hn
      have hx : 0 ≤ n ∧ n ≤ 255 := by simpa [Lit.wf, IntKind.min, IntKind.max, IntKind.signed, IntKind.bits] using this
      omega
    have hlen : ((zs.take len).map Int.toNat).length = len := by rw [List.length_map, List.length_take]; omega
    refine ⟨b, off, sp, (zs.take len).map Int.toNat, _, _, ha, hlen.symm, by omega, hd, ?_, ?_, ?_⟩
    · simp only [lits, List.length_map, List.length_take, List.length_drop]; omega
    · intro i hi
      rw [hlen] at hi
      have hiz : i < zs.length := by omega
      rw [hcell i hiz]
      have h1 := (hw _ (List.getElem_mem hiz)).1
      simp [List.getD_eq_getElem?_getD, List.getElem?_map, hi, List.getElem?_eq_getElem hiz]
      omega
    · intro c hc
      simp only [List.mem_map] at hc
      obtain ⟨n, hn, rfl⟩ := hc
      have := hw n (List.mem_of_mem_take hn)
      omega
end Go.Proofs.Ytcocdlhjfbpkfaa
