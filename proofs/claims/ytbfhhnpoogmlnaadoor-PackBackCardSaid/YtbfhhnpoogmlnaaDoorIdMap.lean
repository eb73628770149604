/- A map of the call's own whose keys are identifiers (arrays of eight bytes). -/
import Derived.Test.YtbfhhnpoogmlnaaDoorEqBytes
import Derived.Test.YtbfhhnpoogmlnaaDoorBase3
import Derived.DeepKeys3
import Derived.MapKept
import Derived.ChangeMaps5
import Derived.ChangeKeysEq
namespace Go.Proofs.YtbfhhnpoogmlnaaDoor
open Go.RowKit Plain Go.ChangeMaps
set_option linter.unusedVariables false
set_option linter.unusedSimpArgs false
section
variable {α : Type} (vf : α → Value)
def ieM (p : (List Nat × α) × Nat) : MapEntry := { key := .agg (bC p.1.1), val := vf p.1.2, born := p.2 }
def imE (es : List (List Nat × α)) : Array MapEntry := (es.zipIdx.map (ieM vf)).toArray
def imO (es : List (List Nat × α)) : Obj := .map (imE vf es) es.length
/-- a map asked -/
def ilk (es : List (List Nat × α)) (k : List Nat) : Option α := (es.find? (fun e => e.1 == k)).map (·.2)
theorem imE_push (es : List (List Nat × α)) (k : List Nat) (v : α) : (imE vf es).push { key := .agg (bC k), val := vf v, born := es.length } = imE vf (es ++ [(k, v)]) := by
  simp [imE, List.zipIdx_append, ieM]
theorem imE_size (es : List (List Nat × α)) : (imE vf es).size = es.length := by simp [imE]
theorem imO_nil : imO vf [] = .map #[] 0 := rfl
theorem ilk_nil (k : List Nat) : ilk ([] : List (List Nat × α)) k = none := rfl
theorem ilk_snoc (es : List (List Nat × α)) (k : List Nat) (v : α) (q : List Nat) : ilk (es ++ [(k, v)]) q = (match ilk es q with | some x => some x | none => if k = q then some v else none) := by
  unfold ilk
  rw [List.find?_append]
  cases h : es.find? (fun e => e.1 == q) with
  | some e => simp
  | none =>
    by_cases hq : k = q
    · simp [hq]
    · simp [hq]
theorem ilk_mem {es : List (List Nat × α)} {k : List Nat} {v : α} (h : ilk es k = some v) : (k, v) ∈ es := by
  unfold ilk at h
  cases hf : es.find? (fun e => e.1 == k) with
  | none => rw [hf] at h; cases h
  | some e =>
    rw [hf] at h
    have h1 := List.find?_some hf
    have h2 := List.mem_of_find?_eq_some hf
    obtain ⟨ek, ex⟩ := e
    have e1 : ek = k := by simpa using h1
    have e2 : ex = v := by simpa using h
    subst e1 e2
    exact h2
theorem ilk_none {es : List (List Nat × α)} {k : List Nat} (h : ilk es k = none) (v : α) : (k, v) ∉ es := by
  intro hm
  unfold ilk at h
  have : es.find? (fun e => e.1 == k) = none := by simpa using h
  have := List.find?_eq_none.1 this _ hm
  simp at this
theorem info_u8I : ∃ i, Tryd.prog.info? 5 = some i := by
  have h : (Tryd.prog.info? 5).isSome = true := by kernel_rfl
  exact Option.isSome_iff_exists.1 h
theorem cells_u8I : Tryd.prog.cellsOf 5 = 1 := by kernel_rfl
theorem equal_id8 (w : World) (a b : List Nat) (ha : a.length = 8) (hb : b.length = 8) : (Op.equal 49 (.agg (bC a)) (.agg (bC b))).run Tryd.prog w = .ok (decide (a = b)) w := by
  obtain ⟨inf, hi⟩ := info_u8I
  exact run_equal_bytes w Tryd.underlying49 Tryd.underlying5 hi cells_u8I a b ha hb
theorem eql_id8 (w : World) (a b : List Nat) (ha : a.length = 8) (hb : b.length = 8) : (binOp .eql 49 (.agg (bC a)) (.agg (bC b))).run Tryd.prog w = .ok (.bool (decide (a = b))) w := by
  obtain ⟨inf, hi⟩ := info_u8I
  exact run_eql_bytes w Tryd.underlying49 Tryd.underlying5 hi cells_u8I a b ha hb
theorem neq_id8 (w : World) (a b : List Nat) (ha : a.length = 8) (hb : b.length = 8) : (binOp .neq 49 (.agg (bC a)) (.agg (bC b))).run Tryd.prog w = .ok (.bool (!decide (a = b))) w := by
  unfold binOp
  simp only [Sem.run_bind, equal_id8 w a b ha hb, Result.andThen_ok, Sem.run_pure]
theorem find_id8 (w : World) (k : List Nat) (hk : k.length = 8) : ∀ (l : List ((List Nat × α) × Nat)) (i : Nat), (∀ p ∈ l, p.1.1.length = 8) → (ilk (l.map (·.1)) k = none ∧ (Instr.findAsking 49 (.agg (bC k)) (l.map (ieM vf)) i).run Tryd.prog w = .ok none w) ∨
    (∃ x, ilk (l.map (·.1)) k = some x ∧ ∃ j, (Instr.findAsking 49 (.agg (bC k)) (l.map (ieM vf)) i).run Tryd.prog w = .ok (some (j, vf x)) w)
  | [], i, _ => .inl ⟨rfl, by simp [Instr.findAsking]⟩
  | p :: l, i, hp => by
    have hp0 := hp p (by simp)
    have he := equal_id8 w k p.1.1 hk hp0
    by_cases e : k = p.1.1
    · right
      refine ⟨p.1.2, ?_, i, ?_⟩
      · unfold ilk; rw [List.map_cons, List.find?_cons_of_pos (by simp [e])]; rfl
      · rw [decide_eq_true e] at he
        simp only [List.map_cons, Instr.findAsking, Sem.run_bind, ieM, he, Result.andThen_ok, if_true, Sem.run_pure]
    · rw [decide_eq_false e] at he
      have hl : ilk ((p :: l).map (·.1)) k = ilk (l.map (·.1)) k := by
        unfold ilk
        rw [List.map_cons, List.find?_cons_of_neg (by simp; exact fun h => e h.symm)]
      rw [hl]
      have hq : (Instr.findAsking 49 (.agg (bC k)) ((p :: l).map (ieM vf)) i).run Tryd.prog w = (Instr.findAsking 49 (.agg (bC k)) (l.map (ieM vf)) (i + 1)).run Tryd.prog w := by
        simp only [List.map_cons, Instr.findAsking, Sem.run_bind, ieM, he, Result.andThen_ok, Bool.false_eq_true, if_false]
      rw [hq]
      exact find_id8 w k hk l (i + 1) (fun q hq => hp q (by simp [hq]))
theorem zip_fstI (es : List (List Nat × α)) : es.zipIdx.map (·.1) = es := by
  have : (fun p : (List Nat × α) × Nat => p.1) = Prod.fst := rfl
  rw [this]; simp
theorem findKey_id8 (w : World) (k : List Nat) (es : List (List Nat × α)) (hk : k.length = 8) (hes : ∀ e ∈ es, e.1.length = 8) : (ilk es k = none ∧ (Instr.findKey 49 (.agg (bC k)) (imE vf es).toList).run Tryd.prog w = .ok none w) ∨ (∃ x, ilk es k = some x ∧ ∃ j, (Instr.findKey 49 (.agg (bC k)) (imE vf es).toList).run Tryd.prog w = .ok (some (j, vf x)) w) := by
  have hq := run_findKey_eq (P := Tryd.prog) (w := w) (k := 49) (by rw [Tryd.underlying49]) (.agg (bC k)) (imE vf es).toList
  rw [hq]
  have := find_id8 vf w k hk es.zipIdx 0 (fun p hp => by
    have h1 : p.1 ∈ es.zipIdx.map (·.1) := List.mem_map.2 ⟨p, hp, rfl⟩
    rw [zip_fstI] at h1
    exact hes _ h1)
  rw [zip_fstI] at this
  exact this
theorem checkKeyI_u8 (w : World) (em : Bool) (d : Nat) (x : Int) : (Instr.checkKey em (d + 1) 5 (.int .u8 x)).run Tryd.prog w = .ok () w := by
  rw [Instr.checkKey]
  simp only [Sem.run_bind, run_underlying Tryd.underlying5, Result.andThen_ok, Sem.run_pure]
theorem checkKeyI_d (w : World) (em : Bool) (d : Nat) (k : List Nat) (hk : k.length = 8) : (Instr.checkKey em (d + 1 + 1) 49 (.agg (bC k))).run Tryd.prog w = .ok () w := by
  obtain ⟨inf, hi⟩ := info_u8I
  have hp : ∀ i, i < 8 → (part 5 (bC k) i).run Tryd.prog w = .ok (.int .u8 ((k.getD i 0 : Nat) : Int)) w := fun i h => run_part_byte w Tryd.underlying5 k i (by omega)
  rw [Instr.checkKey]
  simp only [Sem.run_bind, run_underlying Tryd.underlying49, Result.andThen_ok]
  simp only [Std.Legacy.Range.forIn_eq_forIn_range', Std.Legacy.Range.size, Nat.sub_zero, Nat.add_one_sub_one, Nat.div_one]
  have h2 : List.range' 0 8 = [0, 1, 2, 3, 4, 5, 6, 7] := rfl
  rw [h2]
  simp only [List.forIn_cons, List.forIn_nil, Sem.run_bind, run_sizeOf w hi, cells_u8I, Nat.mul_one, Result.andThen_ok, hp 0 (by decide), hp 1 (by decide), hp 2 (by decide), hp 3 (by decide), hp 4 (by decide), hp 5 (by decide), hp 6 (by decide), hp 7 (by decide), checkKeyI_u8, Sem.run_pure]
theorem checkKey_id8 (w : World) (em : Bool) (k : List Nat) (hk : k.length = 8) : (Instr.checkKey em 10000 49 (.agg (bC k))).run Tryd.prog w = .ok () w := checkKeyI_d w em 9998 k hk
/-- 'm[id]' with its second answer; z is what a missing one answers -/
theorem look_id2 {w : World} {b : Nat} {mt et : TypeId} {z : Value} {es : List (List Nat × α)} (hm : Tryd.prog.underlying mt = some (.map 49 et)) (hz : (zeroValue et).run Tryd.prog w = .ok z w) (hb : w.heap[b]? = some (imO vf es)) (k : List Nat) (hk : k.length = 8) (hes : ∀ e ∈ es, e.1.length = 8) :
    (Instr.lookup mt (.map (some b)) (.agg (bC k)) true).run Tryd.prog w = .ok (.tuple #[((ilk es k).map vf).getD z, .bool (ilk es k).isSome]) w := by
  have hf := findKey_id8 vf w k es hk hes
  have hg := MapKept.run_getObj_map (P := Tryd.prog) hb
  unfold Instr.lookup
  simp only [Sem.run_bind, run_underlying hm, hg, Result.andThen_ok, checkKey_id8 w _ k hk, Sem.run_pure]
  rcases hf with ⟨h1, h2⟩ | ⟨x, h1, j, h2⟩
  · simp [h2, hz, h1, Result.andThen]
  · simp [h2, h1, Result.andThen]
theorem look_id1 {w : World} {b : Nat} {mt et : TypeId} {z : Value} {es : List (List Nat × α)} (hm : Tryd.prog.underlying mt = some (.map 49 et)) (hz : (zeroValue et).run Tryd.prog w = .ok z w) (hb : w.heap[b]? = some (imO vf es)) (k : List Nat) (hk : k.length = 8) (hes : ∀ e ∈ es, e.1.length = 8) :
    (Instr.lookup mt (.map (some b)) (.agg (bC k)) false).run Tryd.prog w = .ok (((ilk es k).map vf).getD z) w := by
  have hf := findKey_id8 vf w k es hk hes
  have hg := MapKept.run_getObj_map (P := Tryd.prog) hb
  unfold Instr.lookup
  simp only [Sem.run_bind, run_underlying hm, hg, Result.andThen_ok, checkKey_id8 w _ k hk, Sem.run_pure]
  rcases hf with ⟨h1, h2⟩ | ⟨x, h1, j, h2⟩
  · simp [h2, hz, h1, Result.andThen]
  · simp [h2, h1, Result.andThen]
/-- 'm[id] = v' where id is new -/
theorem put_id8 {w : World} {b : Nat} {mt et : TypeId} {es : List (List Nat × α)} (hm : Tryd.prog.underlying mt = some (.map 49 et)) (hb : w.heap[b]? = some (imO vf es)) (k : List Nat) (v : α) (hk : k.length = 8) (hes : ∀ e ∈ es, e.1.length = 8) (hn : ilk es k = none) :
    (Instr.mapUpdate mt (.map (some b)) (.agg (bC k)) (vf v)).run Tryd.prog w = .ok () (setBlock w b (imO vf (es ++ [(k, v)]))) := by
  have hf := findKey_id8 vf w k es hk hes
  have hg := MapKept.run_getObj_map (P := Tryd.prog) hb
  have hs := MapKept.run_setObj_map (P := Tryd.prog) (imO vf (es ++ [(k, v)])) hb
  rcases hf with ⟨_, h2⟩ | ⟨x, h1, _⟩
  · unfold Instr.mapUpdate
    simp only [Sem.run_bind, run_underlying hm, hg, Result.andThen_ok, checkKey_id8 w _ k hk, h2, imE_push]
    rw [show Obj.map (imE vf (es ++ [(k, v)])) (es.length + 1) = imO vf (es ++ [(k, v)]) by simp [imO]]
    exact hs
  · rw [h1] at hn; cases hn
theorem setBlockI_same {w : World} {b : Nat} {es : List (List Nat × α)} (hb : w.heap[b]? = some (imO vf es)) (o : Obj) : (setBlock w b o).heap[b]? = some o := heap_setBlock_same hb o
theorem setBlockI_other {w : World} {b : Nat} (o : Obj) {i : Nat} (h : i ≠ b) : (setBlock w b o).heap[i]? = w.heap[i]? := by
  simp only [setBlock]
  rw [Array.getElem?_setIfInBounds_ne (by omega)]
theorem below_setBlockI {w0 w : World} {B b : Nat} (h : Below B w0 w) (hb : B ≤ b) (o : Obj) : Below B w0 (setBlock w b o) where
  os := h.os
  tape := h.tape
  output := h.output
  size := by have := h.size; simpa [setBlock] using this
  block k hk := by rw [setBlockI_other o (by omega)]; exact h.block k hk
end
end Go.Proofs.YtbfhhnpoogmlnaaDoor
