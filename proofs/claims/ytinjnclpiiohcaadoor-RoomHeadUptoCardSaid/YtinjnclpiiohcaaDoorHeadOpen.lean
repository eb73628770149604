/- Heads that came in. -/
import Derived.Test.YtinjnclpiiohcaaDoorRoomCheck
import Derived.Test.YtinjnclpiiohcaaDoorPlOpen
namespace Go.Proofs.YtinjnclpiiohcaaDoor
open Go.RowKit Go.ChangeShapes Go.WideShapes Go.ChangeAt Plain
theorem weightsAll_memH {H : Type} {P : Program} {e : TypeId} : ∀ {l : List (DataW H)} {d : DataW H}, d ∈ l → ∀ n ∈ d.weights P e, n ∈ DataW.weightsAll P e l
  | d' :: r, d, hd, n, hn => by
    simp only [DataW.weightsAll, List.mem_append]
    rcases List.mem_cons.1 hd with rfl | h
    · exact Or.inl hn
    · exact Or.inr (weightsAll_memH h n hn)
/-- a slice inside of what came in; each element within the reach -/
theorem SAt.trodW {α : Type} {n : Nat} {c : α → List Value} {w : World} {H : Type} {P : Program} {enc : TypeId × Value → H} {base : Nat} {sp : Nat → Bool} {held : Bool} {t e : TypeId} (Pr : α → Prop) (ht : P.underlying t = some (.slice e)) (hC : P.cellsOf e = n) (hn : 0 < n) (hc : ∀ y, (c y).length = n)
    (hread : ∀ fuel cs x, DataW.trod enc P w base sp held fuel e cs = some x → (∀ q ∈ x.1.weights P e, q ≤ reachBytes) → ∃ y, cs = c y ∧ Pr y) {fuel : Nat} {vs : List Value} {d : DataW H × List MemPlace} (hf : DataW.trod enc P w base sp held fuel t vs = some d) (hw : ∀ q ∈ d.1.weights P t, q ≤ reachBytes) :
    ∃ (a : Option Addr) (l : List α) (cap : Nat), vs = [.slice a l.length cap] ∧ l.length ≤ cap ∧ cap ≤ 9223372036854775807 ∧ (∀ y ∈ l, Pr y) ∧ SAt n c w a l ∧ (l = [] ∨ ∃ elems spare, d.1 = .slice elems spare ∧ elems.length = l.length) := by
  rcases Go.Deep.open_slice ht hf with ⟨hcs, _⟩ | ⟨a', len, cap, m, k, D, Pl, hcs, _, hl, hm, hmm, hxd, hx⟩
  · subst hcs
    exact ⟨none, [], 0, rfl, by simp, by simp, by simp, SAt.nil, .inl rfl⟩
  · subst hcs
    have hlm : len ≤ m := by rw [hmm]; split <;> omega
    have hall : ∀ i, i < len → ∃ y : α, Pr y ∧ ∀ j, j < n → w.cell? ((a'.add (i * n)).add j) = (c y)[j]? := by
      intro i hi
      obtain ⟨cs', h1, h2⟩ := hx i (by omega)
      rw [hC] at h1
      obtain ⟨y, rfl, hy⟩ := hread _ _ _ h2 (fun q hq => hw q (by
        rw [hxd]
        simp only [DataW.weights, ht, List.mem_cons, List.mem_append]
        exact .inr (.inl (weightsAll_memH (List.mem_map.2 ⟨i, List.mem_range.2 hi, rfl⟩) q hq))))
      obtain ⟨_, _, hcl⟩ := World.cells?_some h1
      exact ⟨y, hy, hcl⟩
    by_cases h0 : len = 0
    · subst h0
      exact ⟨some a', [], cap, rfl, by simp, by unfold maxLen at hm; exact hm, by simp, SAt.nil, .inl rfl⟩
    · have : Inhabited α := ⟨(hall 0 (by omega)).choose⟩
      obtain ⟨f, hf'⟩ := Go.Deep.choose_lt hall
      have hget : ∀ k (h : k < ((List.range len).map f).length), ((List.range len).map f)[k] = f k := by intro k h; simp
      refine ⟨some a', (List.range len).map f, cap, by simp, by simpa using hl, by unfold maxLen at hm; exact hm, ?_, ?_, .inr ⟨_, _, by rw [hxd], by simp⟩⟩
      · intro y hy
        simp only [List.mem_map, List.mem_range] at hy
        obtain ⟨i, hi, rfl⟩ := hy
        exact (hf' i hi).1
      · obtain ⟨b, off, spt⟩ := a'
        have hcell := fun i (hi : i < len) j (hj : j < n) => (hf' i hi).2 j hj
        simp only [Go.Deep.add_add] at hcell
        have h00 := hcell 0 (by omega) 0 hn
        rw [List.getElem?_eq_getElem (show 0 < (c (f 0)).length by rw [hc]; exact hn)] at h00
        have hspt : spt = none := by simpa [Addr.add] using World.cell?_spot h00
        subst hspt
        have hbl := World.block_lt_of_cell? _ _ h00
        intro k hk
        refine ⟨b, off, rfl, by simpa [Addr.add] using hbl, ?_⟩
        rw [hget k hk]
        intro j u hu
        have hk' : k < len := by simpa using hk
        have hj : j < n := by
          rcases Nat.lt_or_ge j n with h | h
          · exact h
          · rw [List.getElem?_eq_none (by rw [hc]; exact h)] at hu; cases hu
        have := hcell k hk' j hj
        rw [hu] at this
        rw [← this]
        congr 1
        unfold Addr.add
        split
        · rename_i h0'
          obtain rfl : j = 0 := by omega
          simp
        · simp [Nat.add_assoc]
theorem cells_hd : Tryd.prog.cellsOf 56 = 3 := by kernel_rfl
theorem cells_sn : Tryd.prog.cellsOf 63 = 10 := by kernel_rfl
theorem cells_strH : Tryd.prog.cellsOf 9 = 1 := by kernel_rfl
theorem cells_intsH : Tryd.prog.cellsOf 53 = 1 := by kernel_rfl
theorem cells_snsH : Tryd.prog.cellsOf 54 = 1 := by kernel_rfl
theorem read_numH {H : Type} {enc : TypeId × Value → H} {W : World} {base : Nat} {sp : Nat → Bool} {held : Bool} (fuel : Nat) (cs : List Value) (x : DataW H × List MemPlace) (h : DataW.trod enc Tryd.prog W base sp held fuel 3 cs = some x) : ∃ n : Int, cs = nC n ∧ True := by
  obtain ⟨n, hn, _, _⟩ := DataW.trod_int Tryd.underlying3 h
  exact ⟨n, hn, trivial⟩
set_option maxRecDepth 100000 in
theorem read_sn {H : Type} {enc : TypeId × Value → H} {W : World} {base : Nat} {sp : Nat → Bool} {held : Bool} (fuel : Nat) (cs : List Value) (x : DataW H × List MemPlace) (h : DataW.trod enc Tryd.prog W base sp held fuel 63 cs = some x) (hw : ∀ q ∈ x.1.weights Tryd.prog 63, q ≤ reachBytes) : ∃ s : SM, cs = smC s ∧ (s.1.size ≤ 4611686018427387904 ∧ ∀ c ∈ idL s.2.2, c < 256) := by
  obtain ⟨xs, n, rfl, rfl, hlen, hxl, hf⟩ := DataW.trod_struct Tryd.underlying63 h
  rw [cells_sn] at hlen
  have hx3 : xs.length = 3 := hxl
  have f0 : DataW.trod enc Tryd.prog W base sp held n 9 ((cs.drop 0).take (Tryd.prog.cellsOf 9)) = xs[0]? := hf 0 _ rfl
  have f1 : DataW.trod enc Tryd.prog W base sp held n 3 ((cs.drop 1).take (Tryd.prog.cellsOf 3)) = xs[1]? := hf 1 _ rfl
  have f2 : DataW.trod enc Tryd.prog W base sp held n 27 ((cs.drop 2).take (Tryd.prog.cellsOf 27)) = xs[2]? := hf 2 _ rfl
  rw [cells_strH] at f0
  rw [cells_int1] at f1
  rw [cells_idI] at f2
  rw [List.getElem?_eq_getElem (by omega)] at f0 f1 f2
  obtain ⟨s0, g0, q0, _⟩ := DataW.trod_string Tryd.underlying9 f0
  obtain ⟨a1, g1, _, _⟩ := DataW.trod_int Tryd.underlying3 f1
  obtain ⟨l, g2, h8, hlt⟩ := trod_bytes_cells Tryd.underlying27 Tryd.underlying5 (by kernel_rfl) cells_idI f2
  obtain ⟨t, rfl⟩ := eight h8
  have hz0 : s0.data.toList.length ≤ reachBytes := hw _ (by
    simp only [DataW.weights, Tryd.underlying63]
    refine DataW.weights_mem_each (j := 0) (t := 9) (d := (xs[0]'(by omega)).1) rfl ?_ _ (by rw [q0]; simp [DataW.weights])
    rw [List.getElem?_map, List.getElem?_eq_getElem (by omega)]; rfl)
  have hz0' : s0.size ≤ 140737488351232 := by
    rw [Array.length_toList] at hz0
    exact hz0
  refine ⟨(s0, a1, t), ?_, by show s0.size ≤ _; omega, hlt⟩
  match cs, hlen with
  | [c0, c1, c2, c3, c4, c5, c6, c7, c8, c9], _ =>
    simp only [List.drop_zero, List.take_succ_cons, List.take_zero, List.drop_succ_cons, List.cons.injEq, and_true] at g0 g1 g2
    subst g0 g1
    show _ = [_, _] ++ (idL t).map bV
    rw [← g2]
    rfl
set_option maxRecDepth 100000 in
theorem open_head {H : Type} {enc : TypeId × Value → H} {W : World} {r : Reach} {base b0 : Nat} {sp : Nat → Bool} {held : Bool} {v : Value} {d : DataW H} {p : List MemPlace} (ho : Value.okWide Tryd.prog W r b0 56 v) (hd : DataW.Trod enc Tryd.prog W base sp held 56 v d p) (hw : ∀ q ∈ d.weights Tryd.prog 56, q ≤ reachBytes) :
    ∃ (nx : Int) (P : List Int) (S : List SM) (pa sa : Option Addr) (pc sc : Nat), v = .agg #[.int .i64 nx, .slice pa P.length pc, .slice sa S.length sc] ∧ SAt 1 nC W pa P ∧ SAt 10 smC W sa S ∧ (∀ s ∈ S, s.1.size ≤ 4611686018427387904) ∧ ∀ s ∈ S, ∀ c ∈ idL s.2.2, c < 256 := by
  obtain ⟨cs, rfl, _⟩ := okWide_struct Tryd.underlying56 ho
  obtain ⟨fuel, hf0⟩ := hd
  have hx : DataW.trod enc Tryd.prog W base sp held fuel 56 cs.toList = some (d, p) := hf0
  obtain ⟨xs, n, _, hxe, hlen, hxl, hf⟩ := DataW.trod_struct Tryd.underlying56 hx
  rw [cells_hd] at hlen
  have hx3 : xs.length = 3 := hxl
  have f0 : DataW.trod enc Tryd.prog W base sp held n 3 ((cs.toList.drop 0).take (Tryd.prog.cellsOf 3)) = xs[0]? := hf 0 _ rfl
  have f1 : DataW.trod enc Tryd.prog W base sp held n 53 ((cs.toList.drop 1).take (Tryd.prog.cellsOf 53)) = xs[1]? := hf 1 _ rfl
  have f2 : DataW.trod enc Tryd.prog W base sp held n 54 ((cs.toList.drop 2).take (Tryd.prog.cellsOf 54)) = xs[2]? := hf 2 _ rfl
  rw [cells_int1] at f0
  rw [cells_intsH] at f1
  rw [cells_snsH] at f2
  rw [List.getElem?_eq_getElem (by omega)] at f0 f1 f2
  obtain ⟨a0, g0, _, _⟩ := DataW.trod_int Tryd.underlying3 f0
  obtain ⟨pa, P, pc, g1, _, _, _, hP, _⟩ := SAt.trod (n := 1) (c := nC) (fun _ => True) Tryd.underlying53 cells_int1 (by decide) nC_length read_numH f1
  obtain ⟨sa, S, sc, g2, _, _, hS3, hS, _⟩ := SAt.trodW (n := 10) (c := smC) (fun s : SM => s.1.size ≤ 4611686018427387904 ∧ ∀ c ∈ idL s.2.2, c < 256) Tryd.underlying54 cells_sn (by decide) smC_length read_sn f2 (fun q hq => hw q (by
    rw [show d = _ from congrArg Prod.fst hxe]
    simp only [DataW.weights, Tryd.underlying56]
    refine DataW.weights_mem_each (j := 2) (t := 54) (d := (xs[2]'(by omega)).1) rfl ?_ _ hq
    rw [List.getElem?_map, List.getElem?_eq_getElem (by omega)]; rfl))
  refine ⟨a0, P, S, pa, sa, pc, sc, ?_, hP, hS, fun s hs => (hS3 s hs).1, fun s hs => (hS3 s hs).2⟩
  rw [← Array.toArray_toList (xs := cs)]
  generalize cs.toList = l at *
  match l, hlen with
  | [c0, c1, c2], _ =>
    simp only [List.drop_zero, List.take_succ_cons, List.take_zero, List.drop_succ_cons, List.cons.injEq, and_true] at g0 g1 g2
    subst g0 g1 g2
    rfl
end Go.Proofs.YtinjnclpiiohcaaDoor
