/- A map of the call's own from codes to bytes. -/
import Derived.Test.YtbfhhnpoogmlnaaDoorPressPlain
import Derived.Test.YtbfhhnpoogmlnaaDoorPressRd
import Derived.DeepKeys3
import Derived.MapKept
import Derived.ChangeMaps5
import Derived.ChangeKeysEq
import Derived.Laws.StructEq
namespace Go.Proofs.YtbfhhnpoogmlnaaDoor
open Go.RowKit Plain Go.ChangeMaps
set_option linter.unusedSimpArgs false
set_option linter.unusedVariables false
def kcV (k : Nat × Nat) : Value := .agg #[.int .i64 (k.1 : Int), .int .i64 (k.2 : Int)]
def ceM (p : CE × Nat) : MapEntry := { key := kcV p.1.1, val := .int .u8 (p.1.2 : Int), born := p.2 }
def mcE (es : List CE) : Array MapEntry := (es.zipIdx.map ceM).toArray
def mcO (es : List CE) : Obj := .map (mcE es) es.length
theorem mcE_push (es : List CE) (k : Nat × Nat) (v : Nat) : (mcE es).push { key := kcV k, val := .int .u8 (v : Int), born := es.length } = mcE (es ++ [(k, v)]) := by
  simp [mcE, List.zipIdx_append, ceM]
theorem mcE_size (es : List CE) : (mcE es).size = es.length := by simp [mcE]
theorem mcO_nil : mcO [] = .map #[] 0 := rfl
theorem und_codes : Tryd.prog.underlying 195 = some (.map 197 5) := by kernel_rfl
theorem part_kcV (w : World) (k : Nat × Nat) (j : Nat) (v : Value) (h : (#[.int .i64 (k.1 : Int), .int .i64 (k.2 : Int)] : Array Value)[j]? = some v) : (part 3 #[.int .i64 (k.1 : Int), .int .i64 (k.2 : Int)] j).run Tryd.prog w = .ok v w :=
  run_part_plain (w := w) (by kernel_rfl) h
theorem eqFields_consP {P : Program} {w : World} {d : Nat} {xs ys : Array Value} {f : Field} {fs : List Field} {a b : Value} {r : Bool} (hn : f.name ≠ "_") (h1 : (part f.type xs f.offset).run P w = .ok a w) (h2 : (part f.type ys f.offset).run P w = .ok b w) (h3 : (Op.equalIn d f.type a b).run P w = .ok r w) :
    (Op.eqFields d xs ys (f :: fs)).run P w = if r = true then (Op.eqFields d xs ys fs).run P w else .ok false w := by
  simp only [Op.eqFields, hn, ne_eq, not_false_eq_true, if_true, Sem.run_bind, h1, h2, h3, Result.andThen_ok]
  cases r <;> rfl
set_option maxRecDepth 100000 in
set_option maxHeartbeats 4000000 in
theorem eqIn_kcV (d : Nat) (w : World) (a b : Nat × Nat) : (Op.equalIn (d + 3) 197 (kcV a) (kcV b)).run Tryd.prog w = .ok (decide (a = b)) w := by
  have hu := Tryd.underlying197
  unfold kcV
  rw [run_equalIn_struct w (d + 2) 197 _ _ (by simp only [Program.fieldsOf, hu]) (by kernel_rfl)]
  simp only [Program.fieldsOf, hu]
  rw [eqFields_consP (by decide) (part_kcV w a 0 _ rfl) (part_kcV w b 0 _ rfl) (run_equalIn_int w (d + 1) _ .i64 .i64 _ _ Tryd.underlying3)]
  rw [eqFields_consP (by decide) (part_kcV w a 1 _ rfl) (part_kcV w b 1 _ rfl) (run_equalIn_int w (d + 1) _ .i64 .i64 _ _ Tryd.underlying3)]
  obtain ⟨a1, a2⟩ := a
  obtain ⟨b1, b2⟩ := b
  by_cases e1 : a1 = b1
  · by_cases e2 : a2 = b2
    · simp [e1, e2, Op.eqFields]
    · have e2' : ((a2 : Int) == (b2 : Int)) = false := beq_eq_false_iff_ne.2 (by omega)
      simp [e1, e2, e2']
  · have e1' : ((a1 : Int) == (b1 : Int)) = false := beq_eq_false_iff_ne.2 (by omega)
    simp [e1, e1']
theorem equal_kcV (w : World) (a b : Nat × Nat) : (Op.equal 197 (kcV a) (kcV b)).run Tryd.prog w = .ok (decide (a = b)) w := eqIn_kcV 9997 w a b
theorem find_kcV (w : World) (k : Nat × Nat) : ∀ (l : List (CE × Nat)) (i : Nat), (lk (l.map (·.1)) k = none ∧ (Instr.findAsking 197 (kcV k) (l.map ceM) i).run Tryd.prog w = .ok none w) ∨
    (∃ x, lk (l.map (·.1)) k = some x ∧ ∃ j, (Instr.findAsking 197 (kcV k) (l.map ceM) i).run Tryd.prog w = .ok (some (j, .int .u8 (x : Int))) w)
  | [], i => .inl ⟨rfl, by simp [Instr.findAsking]⟩
  | p :: l, i => by
    by_cases e : k = p.1.1
    · right
      refine ⟨p.1.2, ?_, i, ?_⟩
      · unfold lk; rw [List.map_cons, List.find?_cons_of_pos (by simp [e])]; rfl
      · simp only [List.map_cons, Instr.findAsking, Sem.run_bind, ceM, equal_kcV, e, decide_true, Result.andThen_ok, if_true, Sem.run_pure]
    · have hl : lk ((p :: l).map (·.1)) k = lk (l.map (·.1)) k := by
        unfold lk
        rw [List.map_cons, List.find?_cons_of_neg (by simp; exact fun h => e h.symm)]
      rw [hl]
      have hq : (Instr.findAsking 197 (kcV k) ((p :: l).map ceM) i).run Tryd.prog w = (Instr.findAsking 197 (kcV k) (l.map ceM) (i + 1)).run Tryd.prog w := by
        have he : (Op.equal 197 (kcV k) (ceM p).key).run Tryd.prog w = .ok false w := by
          have := equal_kcV w k p.1.1
          rw [decide_eq_false e] at this
          exact this
        simp only [List.map_cons, Instr.findAsking, Sem.run_bind, he, Result.andThen_ok, Bool.false_eq_true, if_false]
      rw [hq]
      exact find_kcV w k l (i + 1)
theorem zip_fstC (es : List CE) : es.zipIdx.map (·.1) = es := by
  have : (fun p : CE × Nat => p.1) = Prod.fst := rfl
  rw [this]; simp
theorem findKey_kcV (w : World) (k : Nat × Nat) (es : List CE) : (lk es k = none ∧ (Instr.findKey 197 (kcV k) (mcE es).toList).run Tryd.prog w = .ok none w) ∨ (∃ x, lk es k = some x ∧ ∃ j, (Instr.findKey 197 (kcV k) (mcE es).toList).run Tryd.prog w = .ok (some (j, .int .u8 (x : Int))) w) := by
  have hq := run_findKey_eq (P := Tryd.prog) (w := w) (k := 197) (by rw [Tryd.underlying197]) (kcV k) (mcE es).toList
  rw [hq]
  have := find_kcV w k es.zipIdx 0
  rw [zip_fstC] at this
  exact this
theorem checkKeyC_int (w : World) (em : Bool) (d : Nat) (x : Int) : (Instr.checkKey em (d + 1) 3 (.int .i64 x)).run Tryd.prog w = .ok () w := by
  rw [Instr.checkKey]
  simp only [Sem.run_bind, run_underlying Tryd.underlying3, Result.andThen_ok, Sem.run_pure]
theorem checkKeyC_d (w : World) (em : Bool) (d : Nat) (k : Nat × Nat) : (Instr.checkKey em (d + 1 + 1) 197 (kcV k)).run Tryd.prog w = .ok () w := by
  have p0 := part_kcV w k 0 (.int .i64 (k.1 : Int)) rfl
  have p1 := part_kcV w k 1 (.int .i64 (k.2 : Int)) rfl
  rw [Instr.checkKey]
  unfold kcV
  simp only [Sem.run_bind, run_underlying Tryd.underlying197, Result.andThen_ok]
  simp [← Array.forIn_toList, p0, p1, checkKeyC_int, Result.andThen]
theorem checkKey_kcV (w : World) (em : Bool) (k : Nat × Nat) : (Instr.checkKey em 10000 197 (kcV k)).run Tryd.prog w = .ok () w := checkKeyC_d w em 9998 k
/-- 'symbols[c]' with its second answer -/
theorem look_code {w : World} {b : Nat} {es : List CE} (hb : w.heap[b]? = some (mcO es)) (k : Nat × Nat) : (Instr.lookup 195 (.map (some b)) (kcV k) true).run Tryd.prog w = .ok (.tuple #[.int .u8 (((lk es k).getD 0 : Nat) : Int), .bool (lk es k).isSome]) w := by
  have hz : (zeroValue 5).run Tryd.prog w = .ok (.int .u8 0) w := by kernel_rfl
  have hf := findKey_kcV w k es
  have hg := MapKept.run_getObj_map (P := Tryd.prog) hb
  unfold Instr.lookup
  simp only [Sem.run_bind, run_underlying und_codes, hg, Result.andThen_ok, checkKey_kcV, Sem.run_pure]
  rcases hf with ⟨h1, h2⟩ | ⟨x, h1, j, h2⟩
  · simp [h2, hz, h1, Result.andThen]
  · simp [h2, h1, Result.andThen]
/-- 'symbols[c] = b' where c is new -/
theorem put_code {w : World} {b : Nat} {es : List CE} (hb : w.heap[b]? = some (mcO es)) (k : Nat × Nat) (v : Nat) (hk : lk es k = none) : (Instr.mapUpdate 195 (.map (some b)) (kcV k) (.int .u8 (v : Int))).run Tryd.prog w = .ok () (setBlock w b (mcO (es ++ [(k, v)]))) := by
  have hf := findKey_kcV w k es
  have hg := MapKept.run_getObj_map (P := Tryd.prog) hb
  have hs := MapKept.run_setObj_map (P := Tryd.prog) (mcO (es ++ [(k, v)])) hb
  rcases hf with ⟨_, h2⟩ | ⟨x, h1, _⟩
  · unfold Instr.mapUpdate
    simp only [Sem.run_bind, run_underlying und_codes, hg, Result.andThen_ok, checkKey_kcV, h2, mcE_push]
    rw [show Obj.map (mcE (es ++ [(k, v)])) (es.length + 1) = mcO (es ++ [(k, v)]) by simp [mcO]]
    exact hs
  · rw [h1] at hk; cases hk
theorem setBlockC_same {w : World} {b : Nat} {es : List CE} (hb : w.heap[b]? = some (mcO es)) (o : Obj) : (setBlock w b o).heap[b]? = some o := heap_setBlock_same hb o
theorem setBlockC_other {w : World} {b : Nat} (o : Obj) {i : Nat} (h : i ≠ b) : (setBlock w b o).heap[i]? = w.heap[i]? := by
  simp only [setBlock]
  rw [Array.getElem?_setIfInBounds_ne (by omega)]
theorem below_setBlockC {w0 w : World} {B b : Nat} (h : Below B w0 w) (hb : B ≤ b) (o : Obj) : Below B w0 (setBlock w b o) where
  os := h.os
  tape := h.tape
  output := h.output
  size := by have := h.size; simpa [setBlock] using this
  block k hk := by rw [setBlockC_other o (by omega)]; exact h.block k hk
end Go.Proofs.YtbfhhnpoogmlnaaDoor
