/- Old snapshots: their cells; lists of them that came in. -/
import Derived.Test.YtmdodcpmbhehdaaDoorItems
import Derived.Test.YtmdodcpmbhehdaaDoorMovePlain
namespace Go.Proofs.YtmdodcpmbhehdaaDoor
open Go.RowKit Go.ChangeShapes Go.WideShapes Go.ChangeAt Plain
set_option linter.unusedVariables false
/-- an old snapshot: name, time, and where its items lie -/
abbrev OM := ByteArray × Int × (Option Addr × Nat × List It)
def omC (o : OM) : List Value := [.string o.1, .int .i64 o.2.1, .slice o.2.2.1 o.2.2.2.2.length o.2.2.2.1]
theorem omC_length (o : OM) : (omC o).length = 3 := rfl
/-- an item of machine numbers -/
def ItOk (x : It) : Prop := x.1.size ≤ 1048576 ∧ (-9223372036854775808 ≤ x.2.2.2.1 ∧ x.2.2.2.1 ≤ 9223372036854775807)
/-- as it came in -/
def OmOk (w : World) (o : OM) : Prop := o.1.size ≤ 4611686018427387904 ∧ SAt 5 iC w o.2.2.1 o.2.2.2.2 ∧ o.2.2.2.2.length ≤ 9223372036854775807 ∧ ∀ x ∈ o.2.2.2.2, ItOk x
theorem OmOk.below {w w' : World} {o : OM} (h : OmOk w o) (hb : Below w.heap.size w w') : OmOk w' o := ⟨h.1, h.2.1.below hb, h.2.2⟩
theorem cells_old : Tryd.prog.cellsOf 57 = 3 := by kernel_rfl
theorem cells_itsM : Tryd.prog.cellsOf 55 = 1 := by kernel_rfl
set_option maxRecDepth 100000 in
theorem read_itM {H : Type} {enc : TypeId × Value → H} {W : World} {base : Nat} {sp : Nat → Bool} {held : Bool} (fuel : Nat) (cs : List Value) (x : DataW H × List MemPlace) (h : DataW.trod enc Tryd.prog W base sp held fuel 95 cs = some x) : ∃ p : It, cs = iC p ∧ (p.1.size ≤ Rows.uptoBulk x.1 ∧ (-9223372036854775808 ≤ p.2.2.2.1 ∧ p.2.2.2.1 ≤ 9223372036854775807)) := by
  obtain ⟨p, hp, hz⟩ := read_it fuel cs x h
  refine ⟨p, hp, hz, ?_⟩
  obtain ⟨xs, n, rfl, rfl, hlen, hxl, hf⟩ := DataW.trod_struct Tryd.underlying95 h
  have hx5 : xs.length = 5 := hxl
  have f3 : DataW.trod enc Tryd.prog W base sp held n 3 ((cs.drop 3).take (Tryd.prog.cellsOf 3)) = xs[3]? := hf 3 _ rfl
  rw [cells_intD, List.getElem?_eq_getElem (by omega), hp] at f3
  obtain ⟨a3, g3, _, k3⟩ := DataW.trod_int Tryd.underlying3 f3
  simp only [iC, List.drop_succ_cons, List.drop_zero, List.take_succ_cons, List.take_zero, List.cons.injEq, and_true, Value.int.injEq, true_and] at g3
  rw [g3]
  exact i64Of k3
/-- a slice inside of what came in; each element with what it reads as -/
theorem SAt.trodU {α : Type} {n : Nat} {c : α → List Value} {w : World} {H : Type} {P : Program} {enc : TypeId × Value → H} {base : Nat} {sp : Nat → Bool} {held : Bool} {t e : TypeId} (Pr : α → Nat → Prop) (hup : ∀ y m k, Pr y m → m ≤ k → Pr y k) (ht : P.underlying t = some (.slice e)) (hC : P.cellsOf e = n) (hn : 0 < n) (hc : ∀ y, (c y).length = n)
    (hread : ∀ fuel cs x, DataW.trod enc P w base sp held fuel e cs = some x → ∃ y, cs = c y ∧ Pr y (Rows.uptoBulk x.1)) {fuel : Nat} {vs : List Value} {d : DataW H × List MemPlace} (hf : DataW.trod enc P w base sp held fuel t vs = some d) :
    ∃ (a : Option Addr) (l : List α) (cap : Nat), vs = [.slice a l.length cap] ∧ l.length ≤ cap ∧ cap ≤ 9223372036854775807 ∧ (∀ y ∈ l, Pr y (Rows.uptoBulk d.1)) ∧ SAt n c w a l := by
  rcases Go.Deep.open_slice ht hf with ⟨hcs, _⟩ | ⟨a', len, cap, m, k, D, Pl, hcs, _, hl, hm, hmm, hxd, hx⟩
  · subst hcs
    exact ⟨none, [], 0, rfl, by simp, by simp, by simp, SAt.nil⟩
  · subst hcs
    have hlm : len ≤ m := by rw [hmm]; split <;> omega
    have hdd : d.1 = .slice ((List.range len).map D) ((List.range (m - len)).map fun j => D (len + j)) := by rw [hxd]
    have hall : ∀ i, i < len → ∃ y : α, Pr y (Rows.uptoBulk d.1) ∧ ∀ j, j < n → w.cell? ((a'.add (i * n)).add j) = (c y)[j]? := by
      intro i hi
      obtain ⟨cs', h1, h2⟩ := hx i (by omega)
      rw [hC] at h1
      obtain ⟨y, rfl, hy⟩ := hread _ _ _ h2
      obtain ⟨_, _, hcl⟩ := World.cells?_some h1
      refine ⟨y, hup _ _ _ hy ?_, hcl⟩
      have h3 := bulk_mem (l := (List.range len).map D) (d := D i) (List.mem_map.2 ⟨i, List.mem_range.2 hi, rfl⟩)
      rw [hdd]
      simp only [Rows.uptoBulk]
      omega
    unfold maxLen at hm
    by_cases h0 : len = 0
    · subst h0
      exact ⟨some a', [], cap, rfl, by simp, hm, by simp, SAt.nil⟩
    · have : Inhabited α := ⟨(hall 0 (by omega)).choose⟩
      obtain ⟨f, hf'⟩ := Go.Deep.choose_lt hall
      have hget : ∀ k (h : k < ((List.range len).map f).length), ((List.range len).map f)[k] = f k := by intro k h; simp
      refine ⟨some a', (List.range len).map f, cap, by simp, by simpa using hl, hm, ?_, ?_⟩
      · intro y hy
        simp only [List.mem_map, List.mem_range] at hy
        obtain ⟨i, hi, rfl⟩ := hy
        exact (hf' i hi).1
      · obtain ⟨b, off, spt⟩ := a'
        have hcell := fun i (hi : i < len) j (hj : j < n) => (hf' i hi).2 j hj
        simp only [Go.Deep.add_add] at hcell
        have h00 := hcell 0 (by omega) 0 hn
        rw [List.getElem?_eq_getElem (show 0 < (c (f 0)).length by rw [hc]; exact hn)] at h00
        have hspt : spt = none := by simpa [Addr.add] using World.cell?_spot h00
        subst hspt
        have hbl := World.block_lt_of_cell? _ _ h00
        intro k hk
        refine ⟨b, off, rfl, by simpa [Addr.add] using hbl, ?_⟩
        rw [hget k hk]
        intro j u hu
        have hk' : k < len := by simpa using hk
        have hj : j < n := by
          rcases Nat.lt_or_ge j n with h | h
          · exact h
          · rw [List.getElem?_eq_none (by rw [hc]; exact h)] at hu; cases hu
        have := hcell k hk' j hj
        rw [hu] at this
        rw [← this]
        congr 1
        unfold Addr.add
        split
        · rename_i h0'
          obtain rfl : j = 0 := by omega
          simp
        · simp [Nat.add_assoc]
def OmU (w : World) (o : OM) (m : Nat) : Prop := o.1.size ≤ m ∧ SAt 5 iC w o.2.2.1 o.2.2.2.2 ∧ o.2.2.2.2.length ≤ 9223372036854775807 ∧ ∀ x ∈ o.2.2.2.2, x.1.size ≤ m ∧ (-9223372036854775808 ≤ x.2.2.2.1 ∧ x.2.2.2.1 ≤ 9223372036854775807)
set_option maxRecDepth 100000 in
theorem read_old {H : Type} {enc : TypeId × Value → H} {W : World} {base : Nat} {sp : Nat → Bool} {held : Bool} (fuel : Nat) (cs : List Value) (x : DataW H × List MemPlace) (h : DataW.trod enc Tryd.prog W base sp held fuel 57 cs = some x) : ∃ o : OM, cs = omC o ∧ OmU W o (Rows.uptoBulk x.1) := by
  obtain ⟨xs, n, rfl, rfl, hlen, hxl, hf⟩ := DataW.trod_struct Tryd.underlying57 h
  rw [cells_old] at hlen
  have hx3 : xs.length = 3 := hxl
  have f0 : DataW.trod enc Tryd.prog W base sp held n 9 ((cs.drop 0).take (Tryd.prog.cellsOf 9)) = xs[0]? := hf 0 _ rfl
  have f1 : DataW.trod enc Tryd.prog W base sp held n 3 ((cs.drop 1).take (Tryd.prog.cellsOf 3)) = xs[1]? := hf 1 _ rfl
  have f2 : DataW.trod enc Tryd.prog W base sp held n 55 ((cs.drop 2).take (Tryd.prog.cellsOf 55)) = xs[2]? := hf 2 _ rfl
  rw [cells_strD] at f0
  rw [cells_intD] at f1
  rw [cells_itsM] at f2
  rw [List.getElem?_eq_getElem (by omega)] at f0 f1 f2
  obtain ⟨s0, g0, q0, _⟩ := DataW.trod_string Tryd.underlying9 f0
  obtain ⟨a1, g1, _, _⟩ := DataW.trod_int Tryd.underlying3 f1
  obtain ⟨a, l, cap, g2, hl1, hl2, hP, hs⟩ := SAt.trodU (n := 5) (c := iC) (fun (y : It) m => y.1.size ≤ m ∧ (-9223372036854775808 ≤ y.2.2.2.1 ∧ y.2.2.2.1 ≤ 9223372036854775807)) (fun _ _ _ h1 h2 => ⟨Nat.le_trans h1.1 h2, h1.2⟩) Tryd.underlying55 cells_it (by decide) iC_length read_itM f2
  have hb0 := bulk_mem (List.mem_map.2 ⟨xs[0]'(by omega), List.getElem_mem _, rfl⟩ : (xs[0]'(by omega)).1 ∈ xs.map (·.1))
  have hb2 := bulk_mem (List.mem_map.2 ⟨xs[2]'(by omega), List.getElem_mem _, rfl⟩ : (xs[2]'(by omega)).1 ∈ xs.map (·.1))
  refine ⟨(s0, a1, a, cap, l), ?_, ?_, hs, by show l.length ≤ _; omega, fun y hy => ?_⟩
  · clear f0 f1 f2 h hf
    revert g0 g1 g2
    match cs, hlen with
    | [c0, c1, c2], _ =>
      intro g0 g1 g2
      simp only [List.drop_zero, List.take_succ_cons, List.take_zero, List.drop_succ_cons, List.cons.injEq, and_true] at g0 g1 g2
      subst g0 g1 g2
      rfl
  · rw [q0] at hb0
    simp only [Rows.uptoBulk, Array.length_toList] at hb0 ⊢
    have : s0.data.size = s0.size := rfl
    show s0.size ≤ _
    omega
  · have := hP y hy
    simp only [Rows.uptoBulk] at this hb2 ⊢
    exact ⟨by omega, this.2⟩
set_option maxRecDepth 100000 in
theorem open_olds {H : Type} {enc : TypeId × Value → H} {W : World} {r : Reach} {base b0 : Nat} {sp : Nat → Bool} {held : Bool} {v : Value} {d : DataW H} {p : List MemPlace} (ho : Value.okWide Tryd.prog W r b0 53 v) (hd : DataW.Trod enc Tryd.prog W base sp held 53 v d p) (hk : Rows.uptoBulk d ≤ 1048576) :
    ∃ (a : Option Addr) (L : List OM) (cap : Nat), v = .slice a L.length cap ∧ (∀ o ∈ L, OmOk W o) ∧ SAt 3 omC W a L ∧ L.length ≤ 9223372036854775807 := by
  obtain ⟨a, l, cap, hv, h1, h2, h3, h4⟩ := SAt.open2 (n := 3) (c := omC) (OmU W) (fun y m k h hk => ⟨Nat.le_trans h.1 hk, h.2.1, h.2.2.1, fun x hx => ⟨Nat.le_trans (h.2.2.2 x hx).1 hk, (h.2.2.2 x hx).2⟩⟩) Tryd.underlying53 cells_old (by decide) omC_length read_old ho hd
  exact ⟨a, l, cap, hv, fun o hz => ⟨by have := (h3 o hz).1; omega, (h3 o hz).2.1, (h3 o hz).2.2.1, fun x hx => ⟨by have := ((h3 o hz).2.2.2 x hx).1; omega, ((h3 o hz).2.2.2 x hx).2⟩⟩, h4, by omega⟩
end Go.Proofs.YtmdodcpmbhehdaaDoor
