/- '==' of places and of identifiers by value. -/
import Derived.Test.YtinjnclpiiohcaaPlace
import Derived.ChangeKeysEq
import Derived.Laws.StructEq
namespace Go.Proofs.Ytinjnclpiiohcaa
open Go.RowKit Plain
def bA (l : List Nat) : Array Value := (l.map bV).toArray
theorem ext_getDI {a b : List Nat} (h : a.length = b.length) (h2 : ∀ i, i < a.length → a.getD i 0 = b.getD i 0) : a = b := by
  apply List.ext_getElem h
  intro i h1 h3
  have := h2 i h1
  simpa [List.getD_eq_getElem?_getD, List.getElem?_eq_getElem h1, List.getElem?_eq_getElem h3] using this
theorem bA_get (l : List Nat) (i : Nat) (h : i < l.length) : (bA l)[i]? = some (.int .u8 ((l.getD i 0 : Nat) : Int)) := by
  simp [bA, List.getElem?_map, List.getD_eq_getElem?_getD, List.getElem?_eq_getElem h, bV]
theorem run_isAgg_intI {P : Program} (w : World) {e : TypeId} {k : IntKind} (he : P.underlying e = some (.int k)) : (isAgg e).run P w = .ok false w := by
  unfold isAgg
  rw [Sem.run_bind, run_underlying he w]
  rfl
theorem run_part_byteI {P : Program} (w : World) {e : TypeId} {k : IntKind} (he : P.underlying e = some (.int k)) (l : List Nat) (i : Nat) (h : i < l.length) : (part e (bA l) i).run P w = .ok (.int .u8 ((l.getD i 0 : Nat) : Int)) w := by
  unfold part
  rw [Sem.run_bind, run_isAgg_intI w he]
  simp [Result.andThen, bA_get l i h]
theorem run_eqItems_bytesI {P : Program} (d : Nat) {e : TypeId} {k : IntKind} (he : P.underlying e = some (.int k)) (l m : List Nat) (w : World) : ∀ (is : List Nat), (∀ i ∈ is, i < l.length ∧ i < m.length) →
    (Op.eqItems (d + 1) e 1 (bA l) (bA m) is).run P w = .ok (is.all fun i => l.getD i 0 == m.getD i 0) w
  | [], _ => by simp [Op.eqItems]
  | i :: is, h => by
    have hi := h i (by simp)
    have ih := run_eqItems_bytesI d he l m w is (fun j hj => h j (by simp [hj]))
    simp only [Op.eqItems, Sem.run_bind, Nat.mul_one, List.all_cons, run_part_byteI w he l i hi.1, run_part_byteI w he m i hi.2, Result.andThen_ok, Op.equalIn, run_underlying he, if_true, Sem.run_pure]
    generalize l.getD i 0 = x at *
    generalize m.getD i 0 = y at *
    have hb : (((x : Nat) : Int) == ((y : Nat) : Int)) = (x == y) := by
      rw [Bool.eq_iff_iff, beq_iff_eq, beq_iff_eq]; omega
    rw [hb]
    cases c : (x == y)
    · rfl
    · simp only [Bool.not_true, Bool.false_eq_true, if_false, Bool.true_and]
      exact ih
theorem all_range_eqI (l m : List Nat) (n : Nat) (hl : l.length = n) (hm : m.length = n) : ((List.range n).all fun i => l.getD i 0 == m.getD i 0) = decide (l = m) := by
  rw [Bool.eq_iff_iff]
  simp only [List.all_eq_true, List.mem_range, beq_iff_eq, decide_eq_true_eq]
  constructor
  · intro h
    exact ext_getDI (by rw [hl, hm]) (fun i hi => h i (by omega))
  · rintro rfl i _; rfl
theorem run_equalIn_bytes {P : Program} (d : Nat) (w : World) {t e : TypeId} {n : Nat} {k : IntKind} {inf : TypeInfo} (ht : P.underlying t = some (.array n e)) (he : P.underlying e = some (.int k)) (hi : P.info? e = some inf) (hc : P.cellsOf e = 1)
    (l m : List Nat) (hl : l.length = n) (hm : m.length = n) : (Op.equalIn (d + 2) t (.agg (bA l)) (.agg (bA m))).run P w = .ok (decide (l = m)) w := by
  rw [run_equalIn_array w (d + 1) (bA l) (bA m) ht hi, hc, run_eqItems_bytesI d he l m w _ (fun i h => by rw [List.mem_range] at h; omega), all_range_eqI l m n hl hm]
theorem idL_inj {a b : ID8} : idL a = idL b ↔ a = b := by
  obtain ⟨a0, a1, a2, a3, a4, a5, a6, a7⟩ := a
  obtain ⟨b0, b1, b2, b3, b4, b5, b6, b7⟩ := b
  simp [idL]
def idE (a b : ID8) : Bool := decide (idL a = idL b)
def plE (p q : Pl) : Bool := idE p.1 q.1 && ((p.2.1 == q.2.1) && ((p.2.2.1 == q.2.2.1) && ((p.2.2.2.1 == q.2.2.2.1) && (p.2.2.2.2 == q.2.2.2.2))))
theorem idE_true {a b : ID8} : idE a b = true ↔ a = b := by unfold idE; rw [decide_eq_true_eq, idL_inj]
theorem plE_true {p q : Pl} : plE p q = true ↔ p = q := by
  obtain ⟨i, k, a, b, c⟩ := p
  obtain ⟨j, k', a', b', c'⟩ := q
  simp [plE, idE_true]
set_option maxRecDepth 100000 in
theorem eqIn_id (d : Nat) (a b : ID8) (w : World) : (Op.equalIn (d + 2) 67 (.agg (bA (idL a))) (.agg (bA (idL b)))).run Try.prog w = .ok (idE a b) w := by
  have hsome : (Try.prog.info? 5).isSome = true := by kernel_rfl
  obtain ⟨inf, hi⟩ := Option.isSome_iff_exists.1 hsome
  rw [run_equalIn_bytes d w Try.underlying67 Try.underlying5 hi (by kernel_rfl) (idL a) (idL b) rfl rfl]
  rfl
set_option maxRecDepth 100000 in
theorem part_id (p : Pl) (w : World) : (part 67 (plC p).toArray 0).run Try.prog w = .ok (.agg (bA (idL p.1))) w := by
  simp [part, isAgg, run_underlying Try.underlying67]
  rfl
theorem eqFields_cons {P : Program} {w : World} {d : Nat} {xs ys : Array Value} {f : Field} {fs : List Field} {a b : Value} {r : Bool} (hn : f.name ≠ "_") (h1 : (part f.type xs f.offset).run P w = .ok a w) (h2 : (part f.type ys f.offset).run P w = .ok b w) (h3 : (Op.equalIn d f.type a b).run P w = .ok r w) :
    (Op.eqFields d xs ys (f :: fs)).run P w = if r = true then (Op.eqFields d xs ys fs).run P w else .ok false w := by
  simp only [Op.eqFields, hn, ne_eq, not_false_eq_true, if_true, Sem.run_bind, h1, h2, h3, Result.andThen_ok]
  cases r <;> rfl
theorem part_int (p : Pl) (w : World) (off : Nat) (n : Int) (h : (plC p).toArray[off]? = some (.int .i64 n)) : (part 3 (plC p).toArray off).run Try.prog w = .ok (.int .i64 n) w := run_part_plain w (by kernel_rfl) h
set_option maxRecDepth 100000 in
set_option maxHeartbeats 4000000 in
theorem eq_pl (p q : Pl) (w : World) : (Op.equalIn 10000 69 (plV p) (plV q)).run Try.prog w = .ok (plE p q) w := by
  have hu := Try.underlying69
  unfold plV
  rw [run_equalIn_struct w 9999 69 _ _ (by simp only [Program.fieldsOf, hu]) (by kernel_rfl)]
  simp only [Program.fieldsOf, hu]
  rw [eqFields_cons (by decide) (part_id p w) (part_id q w) (eqIn_id 9997 p.1 q.1 w)]
  rw [eqFields_cons (by decide) (part_int p w 8 p.2.1 rfl) (part_int q w 8 q.2.1 rfl) (run_equalIn_int w 9998 _ .i64 .i64 _ _ Try.underlying3)]
  rw [eqFields_cons (by decide) (part_int p w 9 p.2.2.1 rfl) (part_int q w 9 q.2.2.1 rfl) (run_equalIn_int w 9998 _ .i64 .i64 _ _ Try.underlying3)]
  rw [eqFields_cons (by decide) (part_int p w 10 p.2.2.2.1 rfl) (part_int q w 10 q.2.2.2.1 rfl) (run_equalIn_int w 9998 _ .i64 .i64 _ _ Try.underlying3)]
  rw [eqFields_cons (by decide) (part_int p w 11 p.2.2.2.2 rfl) (part_int q w 11 q.2.2.2.2 rfl) (run_equalIn_int w 9998 _ .i64 .i64 _ _ Try.underlying3)]
  simp only [Op.eqFields, Sem.run_pure]
  unfold plE
  generalize idE p.1 q.1 = b1
  generalize (p.2.1 == q.2.1) = b2
  generalize (p.2.2.1 == q.2.2.1) = b3
  generalize (p.2.2.2.1 == q.2.2.2.1) = b4
  generalize (p.2.2.2.2 == q.2.2.2.2) = b5
  cases b1 <;> cases b2 <;> cases b3 <;> cases b4 <;> cases b5 <;> rfl
set_option maxRecDepth 100000 in
theorem eqPl (p q : Pl) (b : Bool) (hb : plE p q = b) : (∀ wx, (binOp .eql 69 (plV p) (plV q)).run Try.prog wx = .ok (.bool b) wx) ∧ (∀ wx, (binOp .neq 69 (plV p) (plV q)).run Try.prog wx = .ok (.bool !b) wx) ∧
    (∀ (o : BinOp) (x y : Operand) (wx : World), (eqGuard o 69 x y (plV p) (plV q)).run Try.prog wx = .ok () wx) := by
  subst hb
  refine ⟨fun wx => ?_, fun wx => ?_, fun o x y wx => run_eqGuard_agg wx o _ x y _ _ (by kernel_rfl)⟩
  · have h := run_eql_struct (P := Try.prog) wx 69 (plC p).toArray (plC q).toArray
    rw [show Value.agg (plC p).toArray = plV p from rfl, show Value.agg (plC q).toArray = plV q from rfl, eq_pl] at h
    exact h
  · have h := run_neq_struct (P := Try.prog) wx 69 (plC p).toArray (plC q).toArray
    rw [show Value.agg (plC p).toArray = plV p from rfl, show Value.agg (plC q).toArray = plV q from rfl, eq_pl] at h
    exact h
set_option maxRecDepth 100000 in
theorem neqIdP (a b : ID8) (r : Bool) (hb : idE a b = r) : (∀ wx, (binOp .neq 67 (idV a) (idV b)).run Try.prog wx = .ok (.bool !r) wx) ∧
    (∀ (o : BinOp) (x y : Operand) (wx : World), (eqGuard o 67 x y (idV a) (idV b)).run Try.prog wx = .ok () wx) := by
  subst hb
  refine ⟨fun wx => ?_, fun o x y wx => run_eqGuard_agg wx o _ x y _ _ (by kernel_rfl)⟩
  have h := run_neq_struct (P := Try.prog) wx 67 (bA (idL a)) (bA (idL b))
  rw [eqIn_id 9998] at h
  exact h
end Go.Proofs.Ytinjnclpiiohcaa
