/- Joined: Items. -/
import Derived.Test.YtbfoonfbhebhfaaGreatDoorKGnC
import Derived.Test.YtbfoonfbhebhfaaGreatDoorKGnD
import Derived.Test.YtbfoonfbhebhfaaGreatDoorRows
import Derived.Test.YtbfoonfbhebhfaaGreatDoorKGnB
import Derived.ChangeKeysEq
import Derived.Laws.StructEq
import Derived.Deep.Slices
import Derived.ChangeArms
namespace Go.Proofs.YtbfoonfbhebhfaaGreatDoor
open Go.RowKit Go.ChangeShapes Go.WideShapes Go.ChangeAt Plain
abbrev It := ByteArray × Int × Int × Int × ByteArray
def iC (x : It) : List Value := [.string x.1, .int .i64 x.2.1, .int .i64 x.2.2.1, .int .i64 x.2.2.2.1, .string x.2.2.2.2]
theorem iC_length (x : It) : (iC x).length = 5 := rfl
theorem iC_one (x : It) : ∀ u ∈ iC x, u.oneCell' = true := by intro u hu; simp only [iC, List.mem_cons, List.not_mem_nil, or_false] at hu; rcases hu with rfl | rfl | rfl | rfl | rfl <;> rfl
theorem eqFields_consD {P : Program} {w : World} {d : Nat} {xs ys : Array Value} {f : Field} {fs : List Field} {a b : Value} {r : Bool} (hn : f.name ≠ "_") (h1 : (part f.type xs f.offset).run P w = .ok a w) (h2 : (part f.type ys f.offset).run P w = .ok b w) (h3 : (Op.equalIn d f.type a b).run P w = .ok r w) :
  (Op.eqFields d xs ys (f :: fs)).run P w = if r = true then (Op.eqFields d xs ys fs).run P w else .ok false w := by
 simp only [Op.eqFields, hn, ne_eq, not_false_eq_true, if_true, Sem.run_bind, h1, h2, h3, Result.andThen_ok]
 cases r <;> rfl
theorem strB_dec (a b : ByteArray) : (a.toList == b.toList) = decide (a = b) := by
 by_cases h : a = b
 ·
  rw [same_strB h, decide_eq_true h]
 ·
  rw [other_strB h, decide_eq_false h]
theorem part_intD (xs : Array Value) (w : World) (off : Nat) (n : Int) (h : xs[off]? = some (.int .i64 n)) : (part 3 xs off).run Tryz.prog w = .ok (.int .i64 n) w := run_part_plain w (by kernel_rfl) h
theorem part_strD (xs : Array Value) (w : World) (off : Nat) (s : ByteArray) (h : xs[off]? = some (.string s)) : (part 9 xs off).run Tryz.prog w = .ok (.string s) w := run_part_plain w (by kernel_rfl) h
set_option maxRecDepth 100000 in
set_option maxHeartbeats 4000000 in
theorem eqIn_it (d : Nat) (p q : It) (w : World) : (Op.equalIn (d + 3) 40 (.agg (iC p).toArray) (.agg (iC q).toArray)).run Tryz.prog w = .ok (decide (p = q)) w := by
 have hu := Tryz.underlying40
 rw [run_equalIn_struct w (d + 2) 40 _ _ (by simp only [Program.fieldsOf, hu]) (by kernel_rfl)]
 simp only [Program.fieldsOf, hu]
 rw [eqFields_consD (by decide) (part_strD _ w 0 p.1 rfl) (part_strD _ w 0 q.1 rfl) (run_equalIn_string w (d + 1) _ _ _ Tryz.underlying9)]
 rw [eqFields_consD (by decide) (part_intD _ w 1 p.2.1 rfl) (part_intD _ w 1 q.2.1 rfl) (run_equalIn_int w (d + 1) _ .i64 .i64 _ _ Tryz.underlying3)]
 rw [eqFields_consD (by decide) (part_intD _ w 2 p.2.2.1 rfl) (part_intD _ w 2 q.2.2.1 rfl) (run_equalIn_int w (d + 1) _ .i64 .i64 _ _ Tryz.underlying3)]
 rw [eqFields_consD (by decide) (part_intD _ w 3 p.2.2.2.1 rfl) (part_intD _ w 3 q.2.2.2.1 rfl) (run_equalIn_int w (d + 1) _ .i64 .i64 _ _ Tryz.underlying3)]
 rw [eqFields_consD (by decide) (part_strD _ w 4 p.2.2.2.2 rfl) (part_strD _ w 4 q.2.2.2.2 rfl) (run_equalIn_string w (d + 1) _ _ _ Tryz.underlying9)]
 simp only [Op.eqFields, Sem.run_pure, strB_dec]
 obtain ⟨p1, p2, p3, p4, p5⟩ := p
 obtain ⟨q1, q2, q3, q4, q5⟩ := q
 simp only [Prod.mk.injEq, beq_iff_eq]
 by_cases h1 : p1 = q1 <;> by_cases h2 : p2 = q2 <;> by_cases h3 : p3 = q3 <;> by_cases h4 : p4 = q4 <;> by_cases h5 : p5 = q5 <;> simp [h1, h2, h3, h4, h5]
set_option maxRecDepth 100000 in
theorem eqIt (p q : It) (b : Bool) (hb : decide (p = q) = b) : (∀ wx, (binOp .eql 40 (.agg (iC p).toArray) (.agg (iC q).toArray)).run Tryz.prog wx = .ok (.bool b) wx) ∧ (∀ wx, (binOp .neq 40 (.agg (iC p).toArray) (.agg (iC q).toArray)).run Tryz.prog wx = .ok (.bool !b) wx) ∧
  (∀ (o : BinOp) (x y : Operand) (wx : World), (eqGuard o 40 x y (.agg (iC p).toArray) (.agg (iC q).toArray)).run Tryz.prog wx = .ok () wx) := by
 subst hb
 refine ⟨fun wx => ?_, fun wx => ?_, fun o x y wx => run_eqGuard_agg wx o _ x y _ _ (by kernel_rfl)⟩
 ·
  have h := run_eql_struct (P := Tryz.prog) wx 40 (iC p).toArray (iC q).toArray
  rw [show (10000 : Nat) = 9997 + 3 from rfl, eqIn_it] at h
  exact h
 ·
  have h := run_neq_struct (P := Tryz.prog) wx 40 (iC p).toArray (iC q).toArray
  rw [show (10000 : Nat) = 9997 + 3 from rfl, eqIn_it] at h
  exact h
end Go.Proofs.YtbfoonfbhebhfaaGreatDoor
