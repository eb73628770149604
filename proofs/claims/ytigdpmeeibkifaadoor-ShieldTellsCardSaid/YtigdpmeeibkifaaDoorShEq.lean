/- == of shards by value; the walk of slices.Equal over shards. -/
import Derived.Test.YtigdpmeeibkifaaDoorShBase
import Derived.Test.YtigdpmeeibkifaaDoorDrawn
import Derived.ChangeKeysEq
import Derived.Laws.StructEq
namespace Go.Proofs.YtigdpmeeibkifaaDoor
open Go.RowKit Plain
set_option linter.unusedVariables false
set_option linter.unusedSimpArgs false
theorem val_binK {P : Program} {o : Oper} {a : Act} {x y : Operand} {t t2 : TypeId} {bo : BinOp} {u v : Value} {b : Bool} {w : World} (ho : o.op = .binOp bo t x y t2) (hx : a.eval x = u) (hy : a.eval y = v) (hr : (binOp bo t u v).run P w = .ok (.bool b) w) (hg : (eqGuard bo t x y u v).run P w = .ok () w) : (execOp a.eval o).run P w = .ok (.value (.bool b)) w := by
  unfold execOp
  simp only [ho, hx, hy, Sem.run_bind, hr, hg, Sem.run_pure, Result.andThen_ok]
theorem eqFields_consD {P : Program} {w : World} {d : Nat} {xs ys : Array Value} {f : Field} {fs : List Field} {a b : Value} {r : Bool} (hn : f.name ≠ "_") (h1 : (part f.type xs f.offset).run P w = .ok a w) (h2 : (part f.type ys f.offset).run P w = .ok b w) (h3 : (Op.equalIn d f.type a b).run P w = .ok r w) :
    (Op.eqFields d xs ys (f :: fs)).run P w = if r = true then (Op.eqFields d xs ys fs).run P w else .ok false w := by
  simp only [Op.eqFields, hn, ne_eq, not_false_eq_true, if_true, Sem.run_bind, h1, h2, h3, Result.andThen_ok]
  cases r <;> rfl
theorem strB_dec (a b : ByteArray) : (a.toList == b.toList) = decide (a = b) := by
  rw [Lib.toList_data, Lib.toList_data]
  by_cases h : a = b
  · subst h; simp
  · rw [decide_eq_false h, beq_eq_false_iff_ne]
    exact fun e => h (ByteArray.ext (Array.toList_inj.1 e))
theorem part_strD (xs : Array Value) (w : World) (off : Nat) (s : ByteArray) (h : xs[off]? = some (.string s)) : (part 9 xs off).run Tryd.prog w = .ok (.string s) w := run_part_plain w (by kernel_rfl) h
theorem part_boolD (xs : Array Value) (w : World) (off : Nat) (b : Bool) (h : xs[off]? = some (.bool b)) : (part 4 xs off).run Tryd.prog w = .ok (.bool b) w := run_part_plain w (by kernel_rfl) h
set_option maxRecDepth 100000 in
set_option maxHeartbeats 4000000 in
theorem eqIn_sh (d : Nat) (p q : ShT) (w : World) : (Op.equalIn (d + 3) 31 (.agg (shC p).toArray) (.agg (shC q).toArray)).run Tryd.prog w = .ok (decide (p = q)) w := by
  have hu := Tryd.underlying31
  rw [run_equalIn_struct w (d + 2) 31 _ _ (by simp only [Program.fieldsOf, hu]) (by kernel_rfl)]
  simp only [Program.fieldsOf, hu]
  rw [eqFields_consD (by decide) (part_boolD _ w 0 p.1 rfl) (part_boolD _ w 0 q.1 rfl) (run_equalIn_bool' w (d + 1) _ _ _ Tryd.underlying4)]
  rw [eqFields_consD (by decide) (part_strD _ w 1 p.2 rfl) (part_strD _ w 1 q.2 rfl) (run_equalIn_string w (d + 1) _ _ _ Tryd.underlying9)]
  simp only [Op.eqFields, Sem.run_pure, strB_dec]
  obtain ⟨p1, p2⟩ := p
  obtain ⟨q1, q2⟩ := q
  simp only [Prod.mk.injEq, beq_iff_eq]
  by_cases h1 : p1 = q1 <;> by_cases h2 : p2 = q2 <;> simp [h1, h2]
set_option maxRecDepth 100000 in
theorem eqSh (p q : ShT) (b : Bool) (hb : decide (p = q) = b) : (∀ wx, (binOp .eql 31 (.agg (shC p).toArray) (.agg (shC q).toArray)).run Tryd.prog wx = .ok (.bool b) wx) ∧ (∀ wx, (binOp .neq 31 (.agg (shC p).toArray) (.agg (shC q).toArray)).run Tryd.prog wx = .ok (.bool !b) wx) ∧
    (∀ (o : BinOp) (x y : Operand) (wx : World), (eqGuard o 31 x y (.agg (shC p).toArray) (.agg (shC q).toArray)).run Tryd.prog wx = .ok () wx) := by
  subst hb
  refine ⟨fun wx => ?_, fun wx => ?_, fun o x y wx => run_eqGuard_agg wx o _ x y _ _ (by kernel_rfl)⟩
  · have h := run_eql_struct (P := Tryd.prog) wx 31 (shC p).toArray (shC q).toArray
    rw [show (10000 : Nat) = 9997 + 3 from rfl, eqIn_sh] at h
    exact h
  · have h := run_neq_struct (P := Tryd.prog) wx 31 (shC p).toArray (shC q).toArray
    rw [show (10000 : Nat) = 9997 + 3 from rfl, eqIn_sh] at h
    exact h
def EqShEnd (w0 : World) (l m : List ShT) (e : Ending) (w : World) : Prop := (∃ r : Bool, e = .returned (.bool r) ∧ (r = true ↔ l = m)) ∧ Below w0.heap.size w0 w
end Go.Proofs.YtigdpmeeibkifaaDoor
