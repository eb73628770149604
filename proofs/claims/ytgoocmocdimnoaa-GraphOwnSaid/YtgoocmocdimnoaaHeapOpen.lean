/- Heaps that came in. -/
import Derived.Test.YtgoocmocdimnoaaSameHeap
namespace Go.Proofs.Ytgoocmocdimnoaa
open Go.RowKit Go.ChangeShapes Go.WideShapes Go.ChangeAt Plain
theorem bulk_memT {H : Type} : ∀ {l : List (DataW H)} {d : DataW H}, d ∈ l → Rows.uptoBulk d ≤ Rows.uptoBulkAll l
  | _ :: r, d, hd => by
    rcases List.mem_cons.1 hd with rfl | h
    · simp only [Rows.uptoBulkAll]; omega
    · have := bulk_memT h; simp only [Rows.uptoBulkAll]; omega
/-- a slice inside of what came in; each element no bulkier -/
theorem SAt.trodU {α : Type} {n : Nat} {c : α → List Value} {w : World} {H : Type} {P : Program} {enc : TypeId × Value → H} {base : Nat} {sp : Nat → Bool} {held : Bool} {t e : TypeId} {N : Nat} (Pr : α → Prop) (ht : P.underlying t = some (.slice e)) (hC : P.cellsOf e = n) (hn : 0 < n) (hc : ∀ y, (c y).length = n)
    (hread : ∀ fuel cs x, DataW.trod enc P w base sp held fuel e cs = some x → Rows.uptoBulk x.1 ≤ N → ∃ y, cs = c y ∧ Pr y) {fuel : Nat} {vs : List Value} {d : DataW H × List MemPlace} (hf : DataW.trod enc P w base sp held fuel t vs = some d) (hw : Rows.uptoBulk d.1 ≤ N) :
    ∃ (a : Option Addr) (l : List α) (cap : Nat), vs = [.slice a l.length cap] ∧ l.length ≤ cap ∧ cap ≤ 9223372036854775807 ∧ (∀ y ∈ l, Pr y) ∧ SAt n c w a l ∧ (l = [] ∨ ∃ elems spare, d.1 = .slice elems spare ∧ elems.length = l.length) := by
  rcases Go.Deep.open_slice ht hf with ⟨hcs, _⟩ | ⟨a', len, cap, m, k, D, Pl, hcs, _, hl, hm, hmm, hxd, hx⟩
  · subst hcs
    exact ⟨none, [], 0, rfl, by simp, by simp, by simp, SAt.nil, .inl rfl⟩
  · subst hcs
    have hlm : len ≤ m := by rw [hmm]; split <;> omega
    have hall : ∀ i, i < len → ∃ y : α, Pr y ∧ ∀ j, j < n → w.cell? ((a'.add (i * n)).add j) = (c y)[j]? := by
      intro i hi
      obtain ⟨cs', h1, h2⟩ := hx i (by omega)
      rw [hC] at h1
      obtain ⟨y, rfl, hy⟩ := hread _ _ _ h2 (Nat.le_trans (bulk_memT (l := (List.range len).map D) (List.mem_map.2 ⟨i, List.mem_range.2 hi, rfl⟩)) (by rw [hxd] at hw; simp only [Rows.uptoBulk] at hw; omega))
      obtain ⟨_, _, hcl⟩ := World.cells?_some h1
      exact ⟨y, hy, hcl⟩
    by_cases h0 : len = 0
    · subst h0
      exact ⟨some a', [], cap, rfl, by simp, by unfold maxLen at hm; exact hm, by simp, SAt.nil, .inl rfl⟩
    · have : Inhabited α := ⟨(hall 0 (by omega)).choose⟩
      obtain ⟨f, hf'⟩ := Go.Deep.choose_lt hall
      have hget : ∀ k (h : k < ((List.range len).map f).length), ((List.range len).map f)[k] = f k := by intro k h; simp
      refine ⟨some a', (List.range len).map f, cap, by simp, by simpa using hl, by unfold maxLen at hm; exact hm, ?_, ?_, .inr ⟨_, _, by rw [hxd], by simp⟩⟩
      · intro y hy
        simp only [List.mem_map, List.mem_range] at hy
        obtain ⟨i, hi, rfl⟩ := hy
        exact (hf' i hi).1
      · obtain ⟨b, off, spt⟩ := a'
        have hcell := fun i (hi : i < len) j (hj : j < n) => (hf' i hi).2 j hj
        simp only [Go.Deep.add_add] at hcell
        have h00 := hcell 0 (by omega) 0 hn
        rw [List.getElem?_eq_getElem (show 0 < (c (f 0)).length by rw [hc]; exact hn)] at h00
        have hspt : spt = none := by simpa [Addr.add] using World.cell?_spot h00
        subst hspt
        have hbl := World.block_lt_of_cell? _ _ h00
        intro k hk
        refine ⟨b, off, rfl, by simpa [Addr.add] using hbl, ?_⟩
        rw [hget k hk]
        intro j u hu
        have hk' : k < len := by simpa using hk
        have hj : j < n := by
          rcases Nat.lt_or_ge j n with h | h
          · exact h
          · rw [List.getElem?_eq_none (by rw [hc]; exact h)] at hu; cases hu
        have := hcell k hk' j hj
        rw [hu] at this
        rw [← this]
        congr 1
        unfold Addr.add
        split
        · rename_i h0'
          obtain rfl : j = 0 := by omega
          simp
        · simp [Nat.add_assoc]
theorem cells_hp : Try.prog.cellsOf 41 = 3 := by kernel_rfl
theorem cells_th : Try.prog.cellsOf 47 = 3 := by kernel_rfl
theorem cells_ths : Try.prog.cellsOf 39 = 1 := by kernel_rfl
theorem cells_boolT : Try.prog.cellsOf 4 = 1 := by kernel_rfl
theorem len_bulk {H : Type} {α : Type} {l : List α} {d : DataW H} (h : l = [] ∨ ∃ elems spare, d = .slice elems spare ∧ elems.length = l.length) : l.length ≤ Rows.uptoBulk d := by
  rcases h with rfl | ⟨e, s, rfl, h⟩
  · simp
  · have := upto_len e
    simp only [Rows.uptoBulk]; omega
set_option maxRecDepth 100000 in
theorem read_thg {H : Type} {enc : TypeId × Value → H} {W : World} {base : Nat} {sp : Nat → Bool} {held : Bool} (fuel : Nat) (cs : List Value) (x : DataW H × List MemPlace) (h : DataW.trod enc Try.prog W base sp held fuel 47 cs = some x) (hw : Rows.uptoBulk x.1 ≤ 1048570) : ∃ r : TRow, cs = tcC r ∧ (SAt 1 iC W r.1 r.2.2.1 ∧ r.2.2.1.length ≤ 1048570) := by
  obtain ⟨xs, n, rfl, rfl, hlen, hxl, hf⟩ := DataW.trod_struct Try.underlying47 h
  rw [cells_th] at hlen
  have hx3 : xs.length = 3 := hxl
  have f0 : DataW.trod enc Try.prog W base sp held n 23 ((cs.drop 0).take (Try.prog.cellsOf 23)) = xs[0]? := hf 0 _ rfl
  have f1 : DataW.trod enc Try.prog W base sp held n 3 ((cs.drop 1).take (Try.prog.cellsOf 3)) = xs[1]? := hf 1 _ rfl
  have f2 : DataW.trod enc Try.prog W base sp held n 4 ((cs.drop 2).take (Try.prog.cellsOf 4)) = xs[2]? := hf 2 _ rfl
  rw [cells_ints] at f0
  rw [cells_int] at f1
  rw [cells_boolT] at f2
  rw [List.getElem?_eq_getElem (by omega)] at f0 f1 f2
  obtain ⟨a0, l, cap, g0, _, _, _, hs, hlb⟩ := SAt.trod (n := 1) (c := iC) (fun _ => True) Try.underlying23 cells_int (by decide) iC_length (fun f c x hx => by obtain ⟨y, hy, _⟩ := read_int f c x hx; exact ⟨y, hy, trivial⟩) f0
  obtain ⟨a1, g1, _, _⟩ := DataW.trod_int Try.underlying3 f1
  obtain ⟨a2, g2, _⟩ := DataW.trod_bool Try.underlying4 f2
  have hb := len_bulk hlb
  have hm : (xs[0]'(by omega)).1 ∈ xs.map (·.1) := List.mem_map.2 ⟨_, List.getElem_mem _, rfl⟩
  have hm2 := bulk_memT hm
  simp only [Rows.uptoBulk] at hw
  refine ⟨(a0, cap, l, a1, a2), ?_, hs, by show l.length ≤ _; omega⟩
  clear f0 f1 f2 h hf
  revert g0 g1 g2
  match cs, hlen with
  | [c0, c1, c2], _ =>
    intro g0 g1 g2
    simp only [List.drop_zero, List.take_succ_cons, List.take_zero, List.drop_succ_cons, List.cons.injEq, and_true] at g0 g1 g2
    subst g0 g1 g2
    rfl
set_option maxRecDepth 100000 in
theorem open_heap {H : Type} {enc : TypeId × Value → H} {W : World} {r : Reach} {base b0 : Nat} {sp : Nat → Bool} {held : Bool} {v : Value} {d : DataW H} {p : List MemPlace} (ho : Value.okWide Try.prog W r b0 41 v) (hd : DataW.Trod enc Try.prog W base sp held 41 v d p) (hw : Rows.uptoBulk d ≤ 1048570) :
    ∃ (rows : List TRow) (rs : List Int) (bz : Bool) (a b : Option Addr) (tc rc : Nat), v = .agg #[.slice a rows.length tc, .slice b rs.length rc, .bool bz] ∧ SAt 3 tcC W a rows ∧ (∀ r ∈ rows, SAt 1 iC W r.1 r.2.2.1 ∧ r.2.2.1.length ≤ 1048570) ∧ SAt 1 iC W b rs ∧ rows.length ≤ 1048570 ∧ rs.length ≤ 1048570 := by
  obtain ⟨cs, rfl, _⟩ := okWide_struct Try.underlying41 ho
  obtain ⟨fuel, hf0⟩ := hd
  have hx : DataW.trod enc Try.prog W base sp held fuel 41 cs.toList = some (d, p) := hf0
  obtain ⟨xs, n, _, hxe, hlen, hxl, hf⟩ := DataW.trod_struct Try.underlying41 hx
  rw [cells_hp] at hlen
  have hx3 : xs.length = 3 := hxl
  have f0 : DataW.trod enc Try.prog W base sp held n 39 ((cs.toList.drop 0).take (Try.prog.cellsOf 39)) = xs[0]? := hf 0 _ rfl
  have f1 : DataW.trod enc Try.prog W base sp held n 23 ((cs.toList.drop 1).take (Try.prog.cellsOf 23)) = xs[1]? := hf 1 _ rfl
  have f2 : DataW.trod enc Try.prog W base sp held n 4 ((cs.toList.drop 2).take (Try.prog.cellsOf 4)) = xs[2]? := hf 2 _ rfl
  rw [cells_ths] at f0
  rw [cells_ints] at f1
  rw [cells_boolT] at f2
  rw [List.getElem?_eq_getElem (by omega)] at f0 f1 f2
  rw [show d = _ from congrArg Prod.fst hxe] at hw
  simp only [Rows.uptoBulk] at hw
  have hm : ∀ k (hk : k < xs.length), Rows.uptoBulk xs[k].1 ≤ Rows.uptoBulkAll (xs.map (·.1)) := fun k hk => bulk_memT (List.mem_map.2 ⟨_, List.getElem_mem _, rfl⟩)
  obtain ⟨a, T, tc, g0, _, _, hT, hTS, hTl⟩ := SAt.trodU (n := 3) (c := tcC) (N := 1048570) (fun r : TRow => SAt 1 iC W r.1 r.2.2.1 ∧ r.2.2.1.length ≤ 1048570) Try.underlying39 cells_th (by decide) tcC_length read_thg f0 (by have := hm 0 (by omega); omega)
  obtain ⟨b, l, rc, g1, _, _, _, hs, hsl⟩ := SAt.trod (n := 1) (c := iC) (fun _ => True) Try.underlying23 cells_int (by decide) iC_length (fun f c x hx => by obtain ⟨y, hy, _⟩ := read_int f c x hx; exact ⟨y, hy, trivial⟩) f1
  obtain ⟨bz, g2, _⟩ := DataW.trod_bool Try.underlying4 f2
  have hb1 := len_bulk hTl
  have hb2 := len_bulk hsl
  refine ⟨T, l, bz, a, b, tc, rc, ?_, hTS, hT, hs, by have := hm 0 (by omega); omega, by have := hm 1 (by omega); omega⟩
  rw [← Array.toArray_toList (xs := cs)]
  generalize cs.toList = q at *
  match q, hlen with
  | [c0, c1, c2], _ =>
    simp only [List.drop_zero, List.take_succ_cons, List.take_zero, List.drop_succ_cons, List.cons.injEq, and_true] at g0 g1 g2
    subst g0 g1 g2
    rfl
end Go.Proofs.Ytgoocmocdimnoaa
