/- A map of the call's own whose keys are numbers and whose elements are all true. -/
import Derived.Test.YtpfmfigommmjiaaWasteC
import Derived.DeepKeys3
import Derived.MapKept
import Derived.ChangeMaps5
import Derived.ChangeKeysEq
namespace Go.Proofs.Ytpfmfigommmjiaa
open Go.RowKit Plain Go.ChangeMaps
def mE (ks : List Int) : Array MapEntry := (ks.zipIdx.map fun p => { key := .int .i64 p.1, val := .bool true, born := p.2 : MapEntry }).toArray
def mO (ks : List Int) : Obj := .map (mE ks) ks.length
theorem mE_mem {ks : List Int} {e : MapEntry} (h : e ∈ (mE ks).toList) : ∃ y ∈ ks, e.key = .int .i64 y ∧ e.val = .bool true := by
  unfold mE at h
  obtain ⟨p, hp, rfl⟩ := List.mem_map.1 h
  exact ⟨p.1, (List.mem_zipIdx' hp).2 ▸ List.getElem_mem _, rfl, rfl⟩
theorem mE_has {ks : List Int} {y : Int} (h : y ∈ ks) : ∃ e ∈ (mE ks).toList, e.key = .int .i64 y := by
  obtain ⟨i, hi, e⟩ := List.mem_iff_getElem.1 h
  refine ⟨{ key := .int .i64 y, val := .bool true, born := i : MapEntry }, List.mem_map.2 ⟨(y, i), ?_, rfl⟩, rfl⟩
  rw [List.mem_zipIdx_iff_getElem?]
  simp [hi, e]
set_option maxRecDepth 100000 in
theorem mE_push (ks : List Int) (k : Int) : (mE ks).push { key := .int .i64 k, val := .bool true, born := ks.length } = mE (ks ++ [k]) := by
  simp [mE, List.zipIdx_append]
theorem mO_nil : mO [] = .map #[] 0 := rfl
theorem und_seenW : Try.prog.underlying 46 = some (.map 3 4) := by kernel_rfl
theorem findKey_iW (w : World) (k : Int) (ks : List Int) : (k ∉ ks ∧ (Instr.findKey 3 (.int .i64 k) (mE ks).toList).run Try.prog w = .ok none w) ∨ (k ∈ ks ∧ ∃ j, (Instr.findKey 3 (.int .i64 k) (mE ks).toList).run Try.prog w = .ok (some (j, .bool true)) w) := by
  rcases MapKept.findNow_spec (d := .int .i64) (k := .int .i64 k) (by simp [MapKept.IsKey]) (mE ks).toList 0 (fun x hx => by obtain ⟨y, _, e, _⟩ := mE_mem hx; rw [e]; simp [MapKept.IsKey]) with ⟨h1, h2⟩ | ⟨j, e, h1, h2, h3⟩
  · refine .inl ⟨fun hk => ?_, MapKept.run_findKey Try.underlying3 h1⟩
    obtain ⟨e, he, ek⟩ := mE_has hk
    exact h2 e he ek
  · obtain ⟨y, hy, ey, ev⟩ := mE_mem (List.mem_of_getElem? h2)
    rw [ey] at h3
    obtain rfl : y = k := by injection h3
    refine .inr ⟨hy, 0 + j, ?_⟩
    rw [ev] at h1
    exact MapKept.run_findKey Try.underlying3 h1
theorem checkKey_iW (w : World) (em : Bool) (x : Int) : (Instr.checkKey em 10000 3 (.int .i64 x)).run Try.prog w = .ok () w := by
  rw [Instr.checkKey]
  simp only [Sem.run_bind, run_underlying Try.underlying3, Result.andThen_ok, Sem.run_pure]
/-- 'seen[s]' -/
theorem look_seen {w : World} {b : Nat} {ks : List Int} (hb : w.heap[b]? = some (mO ks)) (k : Int) : (Instr.lookup 46 (.map (some b)) (.int .i64 k) false).run Try.prog w = .ok (.bool (decide (k ∈ ks))) w := by
  have hz : (zeroValue 4).run Try.prog w = .ok (.bool false) w := by kernel_rfl
  have hf := findKey_iW w k ks
  have hg := MapKept.run_getObj_map (P := Try.prog) hb
  unfold Instr.lookup
  simp only [Sem.run_bind, run_underlying und_seenW, hg, Result.andThen_ok, checkKey_iW, Sem.run_pure]
  rcases hf with ⟨h1, h2⟩ | ⟨h1, j, h2⟩
  · simp [h2, hz, h1, Result.andThen]
  · simp [h2, h1, Result.andThen]
/-- 'seen[s] = true' where s is new -/
theorem put_seen {w : World} {b : Nat} {ks : List Int} (hb : w.heap[b]? = some (mO ks)) (k : Int) (hk : k ∉ ks) : (Instr.mapUpdate 46 (.map (some b)) (.int .i64 k) (.bool true)).run Try.prog w = .ok () (setBlock w b (mO (ks ++ [k]))) := by
  have hf := findKey_iW w k ks
  have hg := MapKept.run_getObj_map (P := Try.prog) hb
  have hs := MapKept.run_setObj_map (P := Try.prog) (mO (ks ++ [k])) hb
  rcases hf with ⟨_, h2⟩ | ⟨h1, _⟩
  · unfold Instr.mapUpdate
    simp only [Sem.run_bind, run_underlying und_seenW, hg, Result.andThen_ok, checkKey_iW, h2, mE_push]
    rw [show Obj.map (mE (ks ++ [k])) (ks.length + 1) = mO (ks ++ [k]) by simp [mO]]
    exact hs
  · exact absurd h1 hk
theorem setBlock_same {w : World} {b : Nat} {ks : List Int} (hb : w.heap[b]? = some (mO ks)) (o : Obj) : (setBlock w b o).heap[b]? = some o := heap_setBlock_same hb o
theorem setBlock_other {w : World} {b : Nat} (o : Obj) {i : Nat} (h : i ≠ b) : (setBlock w b o).heap[i]? = w.heap[i]? := by
  simp only [setBlock]
  rw [Array.getElem?_setIfInBounds_ne (by omega)]
theorem below_setBlock {w0 w : World} {B b : Nat} (h : Below B w0 w) (hb : B ≤ b) (o : Obj) : Below B w0 (setBlock w b o) where
  os := h.os
  tape := h.tape
  output := h.output
  size := by have := h.size; simpa [setBlock] using this
  block k hk := by rw [setBlock_other o (by omega)]; exact h.block k hk
end Go.Proofs.Ytpfmfigommmjiaa
