/- A map of the call's own whose keys are pairs of numbers and whose elements are all true. -/
import Derived.Test.YthfjonicolhjnaaKeepPlain
import Derived.Test.YthfjonicolhjnaaEqWords
import Derived.Test.YthfjonicolhjnaaBools
import Derived.Test.YthfjonicolhjnaaDrawn
import Derived.DeepKeys3
import Derived.MapKept
import Derived.ChangeMaps5
import Derived.ChangeKeysEq
namespace Go.Proofs.Ythfjonicolhjnaa
open Go.RowKit Plain Go.ChangeMaps
def kV (k : KK) : Value := .agg #[.int .i64 k.1, .int .i64 k.2]
def mE (ks : List KK) : Array MapEntry := (ks.zipIdx.map fun p => { key := kV p.1, val := .bool true, born := p.2 : MapEntry }).toArray
def mO (ks : List KK) : Obj := .map (mE ks) ks.length
theorem mE_push (ks : List KK) (k : KK) : (mE ks).push { key := kV k, val := .bool true, born := ks.length } = mE (ks ++ [k]) := by
  simp [mE, List.zipIdx_append]
theorem mE_size (ks : List KK) : (mE ks).size = ks.length := by simp [mE]
theorem mO_nil : mO [] = .map #[] 0 := rfl
theorem info_intT : ∃ i, Try.prog.info? 3 = some i := by
  have h : (Try.prog.info? 3).isSome = true := by kernel_rfl
  exact Option.isSome_iff_exists.1 h
theorem cells_intT : Try.prog.cellsOf 3 = 1 := by kernel_rfl
theorem und_span : Try.prog.underlying 76 = some (.array 2 3) := by kernel_rfl
theorem und_seen : Try.prog.underlying 74 = some (.map 76 4) := by kernel_rfl
theorem part_kV (w : World) (k : KK) (j : Nat) (v : Value) (h : (#[.int .i64 k.1, .int .i64 k.2] : Array Value)[j]? = some v) : (part 3 #[.int .i64 k.1, .int .i64 k.2] j).run Try.prog w = .ok v w :=
  run_part_plain (w := w) (by kernel_rfl) h
theorem eq_intT (w : World) (d : Nat) (x y : Int) : (Op.equalIn (d + 1) 3 (.int .i64 x) (.int .i64 y)).run Try.prog w = .ok (x == y) w := by
  simp only [Op.equalIn, Sem.run_bind, run_underlying Try.underlying3, Result.andThen_ok, if_true, Sem.run_pure]
theorem eqItems2 (w : World) (d : Nat) (a b : KK) : (Op.eqItems (d + 1) 3 1 #[.int .i64 a.1, .int .i64 a.2] #[.int .i64 b.1, .int .i64 b.2] [0, 1]).run Try.prog w = .ok (decide (a = b)) w := by
  obtain ⟨a1, a2⟩ := a
  obtain ⟨b1, b2⟩ := b
  have p0 := part_kV w (a1, a2) 0 (.int .i64 a1) rfl
  have p1 := part_kV w (a1, a2) 1 (.int .i64 a2) rfl
  have q0 := part_kV w (b1, b2) 0 (.int .i64 b1) rfl
  have q1 := part_kV w (b1, b2) 1 (.int .i64 b2) rfl
  simp only [Op.eqItems, Sem.run_bind, Nat.mul_one, p0, q0, eq_intT, Result.andThen_ok]
  by_cases e1 : a1 = b1
  · subst e1
    simp only [beq_self_eq_true, Bool.not_true, Bool.false_eq_true, if_false, Sem.run_bind, p1, q1, eq_intT, Result.andThen_ok]
    by_cases e2 : a2 = b2
    · subst e2; simp
    · have : (a2 == b2) = false := by simpa using e2
      simp [this, e2]
  · have : (a1 == b1) = false := by simpa using e1
    simp [this, e1]
theorem equal_kV (w : World) (a b : KK) : (Op.equal 76 (kV a) (kV b)).run Try.prog w = .ok (decide (a = b)) w := by
  obtain ⟨inf, hi⟩ := info_intT
  unfold Op.equal Op.maxDepth kV
  rw [run_equalIn_array w 9999 _ _ und_span hi, cells_intT]
  exact eqItems2 w 9998 a b
theorem find_kV (w : World) (k : KK) : ∀ (l : List (KK × Nat)) (i : Nat), (k ∉ l.map Prod.fst ∧ (Instr.findAsking 76 (kV k) (l.map fun p => { key := kV p.1, val := .bool true, born := p.2 : MapEntry }) i).run Try.prog w = .ok none w) ∨
    (k ∈ l.map Prod.fst ∧ ∃ j, (Instr.findAsking 76 (kV k) (l.map fun p => { key := kV p.1, val := .bool true, born := p.2 : MapEntry }) i).run Try.prog w = .ok (some (j, .bool true)) w)
  | [], i => .inl ⟨by simp, by simp [Instr.findAsking]⟩
  | p :: l, i => by
    by_cases e : k = p.1
    · right
      refine ⟨by simp [e], i, ?_⟩
      simp only [List.map_cons, Instr.findAsking, Sem.run_bind, equal_kV, e, decide_true, Result.andThen_ok, if_true, Sem.run_pure]
    · rcases find_kV w k l (i + 1) with ⟨h1, h2⟩ | ⟨h1, j, h2⟩
      · left
        refine ⟨by simp only [List.map_cons, List.mem_cons, not_or]; exact ⟨e, h1⟩, ?_⟩
        simp only [List.map_cons, Instr.findAsking, Sem.run_bind, equal_kV, e, decide_false, Result.andThen_ok, Bool.false_eq_true, if_false]
        exact h2
      · right
        refine ⟨by simp only [List.map_cons, List.mem_cons]; exact Or.inr h1, j, ?_⟩
        simp only [List.map_cons, Instr.findAsking, Sem.run_bind, equal_kV, e, decide_false, Result.andThen_ok, Bool.false_eq_true, if_false]
        exact h2
theorem zip_fst (ks : List KK) : ks.zipIdx.map Prod.fst = ks := by simp
theorem findKey_kV (w : World) (k : KK) (ks : List KK) : (k ∉ ks ∧ (Instr.findKey 76 (kV k) (mE ks).toList).run Try.prog w = .ok none w) ∨ (k ∈ ks ∧ ∃ j, (Instr.findKey 76 (kV k) (mE ks).toList).run Try.prog w = .ok (some (j, .bool true)) w) := by
  have hq := run_findKey_eq (P := Try.prog) (w := w) (k := 76) (by rw [und_span]) (kV k) (mE ks).toList
  rw [hq]
  have := find_kV w k ks.zipIdx 0
  rw [zip_fst] at this
  exact this
theorem checkKey_int (w : World) (em : Bool) (d : Nat) (x : Int) : (Instr.checkKey em (d + 1) 3 (.int .i64 x)).run Try.prog w = .ok () w := by
  rw [Instr.checkKey]
  simp only [Sem.run_bind, run_underlying Try.underlying3, Result.andThen_ok, Sem.run_pure]
theorem checkKey_d (w : World) (em : Bool) (d : Nat) (k : KK) : (Instr.checkKey em (d + 1 + 1) 76 (kV k)).run Try.prog w = .ok () w := by
  obtain ⟨inf, hi⟩ := info_intT
  have p0 := part_kV w k 0 (.int .i64 k.1) rfl
  have p1 := part_kV w k 1 (.int .i64 k.2) rfl
  rw [Instr.checkKey]
  unfold kV
  simp only [Sem.run_bind, run_underlying und_span, Result.andThen_ok]
  simp only [Std.Legacy.Range.forIn_eq_forIn_range', Std.Legacy.Range.size, Nat.sub_zero, Nat.add_one_sub_one, Nat.div_one]
  have h2 : List.range' 0 2 = [0, 1] := rfl
  rw [h2]
  simp only [List.forIn_cons, List.forIn_nil, Sem.run_bind, run_sizeOf w hi, cells_intT, Nat.mul_one, Result.andThen_ok, p0, p1, checkKey_int, Sem.run_pure]
theorem checkKey_kV (w : World) (em : Bool) (k : KK) : (Instr.checkKey em 10000 76 (kV k)).run Try.prog w = .ok () w := checkKey_d w em 9998 k
/-- 'seen[s]' -/
theorem look_seen {w : World} {b : Nat} {ks : List KK} (hb : w.heap[b]? = some (mO ks)) (k : KK) : (Instr.lookup 74 (.map (some b)) (kV k) false).run Try.prog w = .ok (.bool (decide (k ∈ ks))) w := by
  have hz : (zeroValue 4).run Try.prog w = .ok (.bool false) w := by kernel_rfl
  have hf := findKey_kV w k ks
  have hg := MapKept.run_getObj_map (P := Try.prog) hb
  unfold Instr.lookup
  simp only [Sem.run_bind, run_underlying und_seen, hg, Result.andThen_ok, checkKey_kV, Sem.run_pure]
  rcases hf with ⟨h1, h2⟩ | ⟨h1, j, h2⟩
  · simp [h2, hz, h1, Result.andThen]
  · simp [h2, h1, Result.andThen]
/-- 'seen[s] = true' where s is new -/
theorem put_seen {w : World} {b : Nat} {ks : List KK} (hb : w.heap[b]? = some (mO ks)) (k : KK) (hk : k ∉ ks) : (Instr.mapUpdate 74 (.map (some b)) (kV k) (.bool true)).run Try.prog w = .ok () (setBlock w b (mO (ks ++ [k]))) := by
  have hf := findKey_kV w k ks
  have hg := MapKept.run_getObj_map (P := Try.prog) hb
  have hs := MapKept.run_setObj_map (P := Try.prog) (mO (ks ++ [k])) hb
  rcases hf with ⟨_, h2⟩ | ⟨h1, _⟩
  · unfold Instr.mapUpdate
    simp only [Sem.run_bind, run_underlying und_seen, hg, Result.andThen_ok, checkKey_kV, h2, mE_push]
    rw [show Obj.map (mE (ks ++ [k])) (ks.length + 1) = mO (ks ++ [k]) by simp [mO]]
    exact hs
  · exact absurd h1 hk
theorem len_seen {w : World} {b : Nat} {ks : List KK} (hb : w.heap[b]? = some (mO ks)) (ty : TypeId) : (Builtin.len_ #[74] ty #[.map (some b)]).run Try.prog w = .ok (.int .i64 (ks.length : Int)) w := by
  have hg := MapKept.run_getObj_map (P := Try.prog) hb
  simp [Builtin.len_, run_underlying und_seen, hg, goInt, Result.andThen, mE_size]
theorem setBlock_same {w : World} {b : Nat} {ks : List KK} (hb : w.heap[b]? = some (mO ks)) (o : Obj) : (setBlock w b o).heap[b]? = some o := heap_setBlock_same hb o
theorem setBlock_other {w : World} {b : Nat} (o : Obj) {i : Nat} (h : i ≠ b) : (setBlock w b o).heap[i]? = w.heap[i]? := by
  simp only [setBlock]
  rw [Array.getElem?_setIfInBounds_ne (by omega)]
theorem below_setBlock {w0 w : World} {B b : Nat} (h : Below B w0 w) (hb : B ≤ b) (o : Obj) : Below B w0 (setBlock w b o) where
  os := h.os
  tape := h.tape
  output := h.output
  size := by have := h.size; simpa [setBlock] using this
  block k hk := by rw [setBlock_other o (by omega)]; exact h.block k hk
end Go.Proofs.Ythfjonicolhjnaa
