/- Joined: Items. -/
import Derived.Test.YtbfoonfbhebhfaaGreatDoorKGnC
import Derived.Test.YtbfoonfbhebhfaaGreatDoorKGnD
import Derived.Test.YtbfoonfbhebhfaaGreatDoorRows
import Derived.Test.YtbfoonfbhebhfaaGreatDoorKGnB
import Derived.ChangeKeysEq
import Derived.Laws.StructEq
import Derived.Deep.Slices
import Derived.ChangeArms
namespace Go.Proofs.YtbfoonfbhebhfaaGreatDoor
open Go.RowKit Go.ChangeShapes Go.WideShapes Go.ChangeAt Plain
abbrev It := ByteArray × Int × Int × Int × ByteArray
def iC (x : It) : List Value := [.string x.1, .int .i64 x.2.1, .int .i64 x.2.2.1, .int .i64 x.2.2.2.1, .string x.2.2.2.2]
theorem iC_length (x : It) : (iC x).length = 5 := rfl
theorem iC_one (x : It) : ∀ u ∈ iC x, u.oneCell' = true := by intro u hu; simp only [iC, List.mem_cons, List.not_mem_nil, or_false] at hu; rcases hu with rfl | rfl | rfl | rfl | rfl <;> rfl
theorem eqFields_consD {P : Program} {w : World} {d : Nat} {xs ys : Array Value} {f : Field} {fs : List Field} {a b : Value} {r : Bool} (hn : f.name ≠ "_") (h1 : (part f.type xs f.offset).run P w = .ok a w) (h2 : (part f.type ys f.offset).run P w = .ok b w) (h3 : (Op.equalIn d f.type a b).run P w = .ok r w) :
  (Op.eqFields d xs ys (f :: fs)).run P w = if r = true then (Op.eqFields d xs ys fs).run P w else .ok false w := by
 simp only [Op.eqFields, hn, ne_eq, not_false_eq_true, if_true, Sem.run_bind, h1, h2, h3, Result.andThen_ok]
 cases r <;> rfl
theorem strB_dec (a b : ByteArray) : (a.toList == b.toList) = decide (a = b) := by
 by_cases h : a = b
 ·
  rw [same_strB h, decide_eq_true h]
 ·
  rw [other_strB h, decide_eq_false h]
theorem part_intD (xs : Array Value) (w : World) (off : Nat) (n : Int) (h : xs[off]? = some (.int .i64 n)) : (part 3 xs off).run Tryz.prog w = .ok (.int .i64 n) w := run_part_plain w (by kernel_rfl) h
theorem part_strD (xs : Array Value) (w : World) (off : Nat) (s : ByteArray) (h : xs[off]? = some (.string s)) : (part 9 xs off).run Tryz.prog w = .ok (.string s) w := run_part_plain w (by kernel_rfl) h
set_option maxRecDepth 100000 in
set_option maxHeartbeats 4000000 in
theorem eqIn_it (d : Nat) (p q : It) (w : World) : (Op.equalIn (d + 3) 40 (.agg (iC p).toArray) (.agg (iC q).toArray)).run Tryz.prog w = .ok (decide (p = q)) w := by
 have hu := Tryz.underlying40
 rw [run_equalIn_struct w (d + 2) 40 _ _ (by simp only [Program.fieldsOf, hu]) (by kernel_rfl)]
 simp only [Program.fieldsOf, hu]
 rw [eqFields_consD (by decide) (part_strD _ w 0 p.1 rfl) (part_strD _ w 0 q.1 rfl) (run_equalIn_string w (d + 1) _ _ _ Tryz.underlying9)]
 rw [eqFields_consD (by decide) (part_intD _ w 1 p.2.1 rfl) (part_intD _ w 1 q.2.1 rfl) (run_equalIn_int w (d + 1) _ .i64 .i64 _ _ Tryz.underlying3)]
 rw [eqFields_consD (by decide) (part_intD _ w 2 p.2.2.1 rfl) (part_intD _ w 2 q.2.2.1 rfl) (run_equalIn_int w (d + 1) _ .i64 .i64 _ _ Tryz.underlying3)]
 rw [eqFields_consD (by decide) (part_intD _ w 3 p.2.2.2.1 rfl) (part_intD _ w 3 q.2.2.2.1 rfl) (run_equalIn_int w (d + 1) _ .i64 .i64 _ _ Tryz.underlying3)]
 rw [eqFields_consD (by decide) (part_strD _ w 4 p.2.2.2.2 rfl) (part_strD _ w 4 q.2.2.2.2 rfl) (run_equalIn_string w (d + 1) _ _ _ Tryz.underlying9)]
 simp only [Op.eqFields, Sem.run_pure, strB_dec]
 obtain ⟨p1, p2, p3, p4, p5⟩ := p
 obtain ⟨q1, q2, q3, q4, q5⟩ := q
 simp only [Prod.mk.injEq, beq_iff_eq]
 by_cases h1 : p1 = q1 <;> by_cases h2 : p2 = q2 <;> by_cases h3 : p3 = q3 <;> by_cases h4 : p4 = q4 <;> by_cases h5 : p5 = q5 <;> simp [h1, h2, h3, h4, h5]
set_option maxRecDepth 100000 in
theorem eqIt (p q : It) (b : Bool) (hb : decide (p = q) = b) : (∀ wx, (binOp .eql 40 (.agg (iC p).toArray) (.agg (iC q).toArray)).run Tryz.prog wx = .ok (.bool b) wx) ∧ (∀ wx, (binOp .neq 40 (.agg (iC p).toArray) (.agg (iC q).toArray)).run Tryz.prog wx = .ok (.bool !b) wx) ∧
  (∀ (o : BinOp) (x y : Operand) (wx : World), (eqGuard o 40 x y (.agg (iC p).toArray) (.agg (iC q).toArray)).run Tryz.prog wx = .ok () wx) := by
 subst hb
 refine ⟨fun wx => ?_, fun wx => ?_, fun o x y wx => run_eqGuard_agg wx o _ x y _ _ (by kernel_rfl)⟩
 ·
  have h := run_eql_struct (P := Tryz.prog) wx 40 (iC p).toArray (iC q).toArray
  rw [show (10000 : Nat) = 9997 + 3 from rfl, eqIn_it] at h
  exact h
 ·
  have h := run_neq_struct (P := Tryz.prog) wx 40 (iC p).toArray (iC q).toArray
  rw [show (10000 : Nat) = 9997 + 3 from rfl, eqIn_it] at h
  exact h
theorem bulk_mem {H : Type} : ∀ {l : List (DataW H)} {d : DataW H}, d ∈ l → Rows.uptoBulk d ≤ Rows.uptoBulkAll l
 | x :: l, d, h => by
  rcases List.mem_cons.1 h with rfl | h
  ·
   simp only [Rows.uptoBulkAll]; omega
  ·
   have := bulk_mem h; simp only [Rows.uptoBulkAll]; omega
theorem SAt.open2 {α : Type} {n : Nat} {c : α → List Value} {w : World} {H : Type} {P : Program} {enc : TypeId × Value → H} {r : Reach} {base b0 : Nat} {sp : Nat → Bool} {held : Bool} {t e : TypeId} {v : Value} {d : DataW H} {p : List MemPlace} (Pr : α → Nat → Prop) (hup : ∀ y m k, Pr y m → m ≤ k → Pr y k) (ht : P.underlying t = some (.slice e)) (hC : P.cellsOf e = n) (hn : 0 < n) (hc : ∀ y, (c y).length = n)
  (hread : ∀ fuel cs x, DataW.trod enc P w base sp held fuel e cs = some x → ∃ y, cs = c y ∧ Pr y (Rows.uptoBulk x.1)) (ho : Value.okWide P w r b0 t v) (hd : DataW.Trod enc P w base sp held t v d p) :
  ∃ (a : Option Addr) (l : List α) (cap : Nat), v = .slice a l.length cap ∧ l.length ≤ cap ∧ cap ≤ 9223372036854775807 ∧ (∀ y ∈ l, Pr y (Rows.uptoBulk d)) ∧ SAt n c w a l := by
 obtain ⟨a0, len0, cap0, rfl⟩ := okWide_slice ht ho
 obtain ⟨fuel, hf⟩ := hd
 rcases Go.Deep.open_slice ht hf with ⟨hcs, _⟩ | ⟨a', len, cap, m, k, D, Pl, hcs, _, hl, hm, hmm, hxd, hx⟩
 ·
  simp only [Value.cells, List.cons.injEq, and_true, Value.slice.injEq] at hcs
  obtain ⟨rfl, rfl, rfl⟩ := hcs
  exact ⟨none, [], 0, rfl, by simp, by simp, by simp, SAt.nil⟩
 ·
  simp only [Value.cells, List.cons.injEq, and_true, Value.slice.injEq] at hcs
  obtain ⟨rfl, rfl, rfl⟩ := hcs
  have hlm : len0 ≤ m := by rw [hmm]; split <;> omega
  have hdd : d = .slice ((List.range len0).map D) ((List.range (m - len0)).map fun j => D (len0 + j)) := congrArg Prod.fst hxd
  have hall : ∀ i, i < len0 → ∃ y : α, Pr y (Rows.uptoBulk d) ∧ ∀ j, j < n → w.cell? ((a'.add (i * n)).add j) = (c y)[j]? := by
   intro i hi
   obtain ⟨cs', h1, h2⟩ := hx i (by omega)
   rw [hC] at h1
   obtain ⟨y, rfl, hy⟩ := hread _ _ _ h2
   obtain ⟨_, _, hcl⟩ := World.cells?_some h1
   refine ⟨y, hup _ _ _ hy ?_, hcl⟩
   have h3 := bulk_mem (l := (List.range len0).map D) (d := D i) (List.mem_map.2 ⟨i, List.mem_range.2 hi, rfl⟩)
   rw [hdd]
   simp only [Rows.uptoBulk]
   omega
  unfold maxLen at hm
  by_cases h0 : len0 = 0
  ·
   subst h0
   exact ⟨some a', [], cap0, rfl, by simp, hm, by simp, SAt.nil⟩
  ·
   have : Inhabited α := ⟨(hall 0 (by omega)).choose⟩
   obtain ⟨f, hf'⟩ := Go.Deep.choose_lt hall
   have hget : ∀ k (h : k < ((List.range len0).map f).length), ((List.range len0).map f)[k] = f k := by intro k h; simp
   refine ⟨some a', (List.range len0).map f, cap0, by simp, by simpa using hl, hm, ?_, ?_⟩
   ·
    intro y hy
    simp only [List.mem_map, List.mem_range] at hy
    obtain ⟨i, hi, rfl⟩ := hy
    exact (hf' i hi).1
   ·
    obtain ⟨b, off, spt⟩ := a'
    have hcell := fun i (hi : i < len0) j (hj : j < n) => (hf' i hi).2 j hj
    simp only [Go.Deep.add_add] at hcell
    have h00 := hcell 0 (by omega) 0 hn
    rw [List.getElem?_eq_getElem (show 0 < (c (f 0)).length by rw [hc]; exact hn)] at h00
    have hspt : spt = none := by simpa [Addr.add] using World.cell?_spot h00
    subst hspt
    have hbl := World.block_lt_of_cell? _ _ h00
    intro k hk
    refine ⟨b, off, rfl, by simpa [Addr.add] using hbl, ?_⟩
    rw [hget k hk]
    intro j u hu
    have hk' : k < len0 := by simpa using hk
    have hj : j < n := by
     rcases Nat.lt_or_ge j n with h | h
     ·
      exact h
     ·
      rw [List.getElem?_eq_none (by rw [hc]; exact h)] at hu; cases hu
    have := hcell k hk' j hj
    rw [hu] at this
    rw [← this]
    congr 1
    unfold Addr.add
    split
    ·
     rename_i h0'
     obtain rfl : j = 0 := by omega
     simp
    ·
     simp [Nat.add_assoc]
theorem cells_it : Tryz.prog.cellsOf 40 = 5 := by kernel_rfl
theorem cells_intD : Tryz.prog.cellsOf 3 = 1 := by kernel_rfl
theorem cells_strD : Tryz.prog.cellsOf 9 = 1 := by kernel_rfl
set_option maxRecDepth 100000 in
theorem read_it {H : Type} {enc : TypeId × Value → H} {W : World} {base : Nat} {sp : Nat → Bool} {held : Bool} (fuel : Nat) (cs : List Value) (x : DataW H × List MemPlace) (h : DataW.trod enc Tryz.prog W base sp held fuel 40 cs = some x) : ∃ p : It, cs = iC p ∧ p.1.size ≤ Rows.uptoBulk x.1 := by
 obtain ⟨xs, n, rfl, rfl, hlen, hxl, hf⟩ := DataW.trod_struct Tryz.underlying40 h
 rw [cells_it] at hlen
 have hx5 : xs.length = 5 := hxl
 have f0 : DataW.trod enc Tryz.prog W base sp held n 9 ((cs.drop 0).take (Tryz.prog.cellsOf 9)) = xs[0]? := hf 0 _ rfl
 have f1 : DataW.trod enc Tryz.prog W base sp held n 3 ((cs.drop 1).take (Tryz.prog.cellsOf 3)) = xs[1]? := hf 1 _ rfl
 have f2 : DataW.trod enc Tryz.prog W base sp held n 3 ((cs.drop 2).take (Tryz.prog.cellsOf 3)) = xs[2]? := hf 2 _ rfl
 have f3 : DataW.trod enc Tryz.prog W base sp held n 3 ((cs.drop 3).take (Tryz.prog.cellsOf 3)) = xs[3]? := hf 3 _ rfl
 have f4 : DataW.trod enc Tryz.prog W base sp held n 9 ((cs.drop 4).take (Tryz.prog.cellsOf 9)) = xs[4]? := hf 4 _ rfl
 rw [cells_strD] at f0 f4
 rw [cells_intD] at f1 f2 f3
 rw [List.getElem?_eq_getElem (by omega)] at f0 f1 f2 f3 f4
 obtain ⟨s0, g0, q0, _⟩ := DataW.trod_string Tryz.underlying9 f0
 obtain ⟨a1, g1, _, _⟩ := DataW.trod_int Tryz.underlying3 f1
 obtain ⟨a2, g2, _, _⟩ := DataW.trod_int Tryz.underlying3 f2
 obtain ⟨a3, g3, _, _⟩ := DataW.trod_int Tryz.underlying3 f3
 obtain ⟨s4, g4, _, _⟩ := DataW.trod_string Tryz.underlying9 f4
 refine ⟨(s0, a1, a2, a3, s4), ?_, ?_⟩
 ·
  match cs, hlen with
  | [c0, c1, c2, c3, c4], _ =>
   simp only [List.drop_zero, List.take_succ_cons, List.take_zero, List.drop_succ_cons, List.cons.injEq, and_true] at g0 g1 g2 g3 g4
   subst g0 g1 g2 g3 g4
   rfl
 ·
  have hm : (xs[0]'(by omega)).1 ∈ xs.map (·.1) := List.mem_map.2 ⟨_, List.getElem_mem _, rfl⟩
  have hb := bulk_mem hm
  rw [q0] at hb
  simp only [Rows.uptoBulk, Array.length_toList] at hb ⊢
  have : s0.data.size = s0.size := rfl
  omega
end Go.Proofs.YtbfoonfbhebhfaaGreatDoor
