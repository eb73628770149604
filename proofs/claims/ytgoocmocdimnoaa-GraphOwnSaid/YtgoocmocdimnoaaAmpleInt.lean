/- The walks of ample, stays and spoil over ints. -/
import Derived.Test.YtgoocmocdimnoaaAmpleBase
import Derived.Test.YtgoocmocdimnoaaInts
namespace Go.Proofs.Ytgoocmocdimnoaa
open Go.RowKit
set_option linter.unusedVariables false
abbrev AmpI (w : World) (g : Nat) (l : List Int) (f : Int) : Prop := Amp iC [.int .i64 0] 3 w g l f
theorem iC_oneA (n : Int) : ∀ u ∈ iC n, u.oneCell' = true := by
  intro u hu
  simp only [iC, List.mem_singleton] at hu
  subst hu
  rfl
theorem info_intA : (Try.prog.info? 3).map (fun i => (i.zero, i.size, i.bytes)) = some (some (.int .i64 0), 1, 8) := by kernel_rfl
set_option maxRecDepth 100000 in
theorem run_make_intsA (n : Nat) (hn : n ≤ 17592186043914) (u : World) : (Instr.makeSlice 23 (.int .i64 0) (.int .i64 ((n : Int) + 3))).run Try.prog u = .ok (.slice (some ⟨u.heap.size, 0, none⟩) 0 (n + 3)) (u.alloc (.cells (Array.replicate (n + 3) (Value.int .i64 0)) 3)) := by
  obtain ⟨i, hi, hz, hs, hb⟩ := info_parts info_intA
  have := run_make (P := Try.prog) u 23 3 i (.int .i64 0) Try.underlying23 hi hz .i64 .i64 0 ((n : Int) + 3) (by omega) (by omega) (by rw [hb]; omega) (by omega)
  rw [this, hs]
  have e : ((n : Int) + 3).toNat = n + 3 := by omega
  rw [e]
  congr 3
  simp only [madeCells, Nat.mul_one]
  apply Array.ext
  · simp
  · intro k h1 h2
    simp [Value.cells, Nat.mod_one]
def AmEnd {α : Type} (c : α → List Value) (z : List Value) (t : TypeId) (l : List α) (f : α) (w0 : World) (e : Ending) (w : World) : Prop := ∃ g, e = .returned (.slice (some ⟨g, 0, none⟩) l.length (l.length + 3)) ∧ w0.heap.size ≤ g ∧ Amp c z t w g l f ∧ Below w0.heap.size w0 w
set_option maxRecDepth 100000 in
set_option maxHeartbeats 1000000 in
theorem ampleInt_any (a : Option Addr) (cap : Nat) (l : List Int) (f : Int) (w : World) (h : SAt 1 iC w a l) (hl : l.length ≤ 17592186043904) :
    Calls Try.prog 32 #[.slice a l.length cap, .int .i64 f] w (AmEnd iC [.int .i64 0] 3 l f w) := by
  have hmk := run_make_intsA l.length (by omega)
  have hinfo := Lib.hid info_intA
  have HB1 := Lib.hid ((Below.refl w.heap.size w).alloc (Nat.le_refl _) (.cells (Array.replicate (l.length + 3) (Value.int .i64 0)) 3))
  have hr1 := heap_alloc_new w (.cells (Array.replicate (l.length + 3) (Value.int .i64 0)) 3)
  have hfl : (l.flatMap iC).length = l.length := by rw [flat_length iC_length]; omega
  have HSRC := Lib.hid (src_sat (c := cap) Try.underlying23 (by decide) iC_length iC_oneA (h.below HB1.out))
  have hz : Array.replicate (l.length + 3) (Value.int .i64 0) = ([] ++ List.replicate l.length (Value.int .i64 0) ++ List.replicate 3 (Value.int .i64 0)).toArray := by rw [List.nil_append, List.replicate_append_replicate, ← List.toArray_replicate]
  have hi1 := row_is hr1 0 l.length (by simp)
  have HC1 : Hid (∀ j, j < (l.flatMap iC).length → ((w.alloc (.cells (Array.replicate (l.length + 3) (Value.int .i64 0)) 3)).cell? ⟨w.heap.size, 0 + 0 + j, none⟩).isSome = true) := fun j hj => hi1.1 j (by omega)
  have HF1 : Hid (∀ j, j < (l.flatMap iC).length → (w.alloc (.cells (Array.replicate (l.length + 3) (Value.int .i64 0)) 3)).frozen? ⟨w.heap.size, 0 + 0 + j, none⟩ = false) := fun j hj => hi1.2 j (by omega)
  have hr2 : ((w.alloc (.cells (Array.replicate (l.length + 3) (Value.int .i64 0)) 3)).setCells w.heap.size 0 (l.flatMap iC)).heap[w.heap.size]? = some (.cells ([] ++ l.flatMap iC ++ List.replicate 3 (Value.int .i64 0)).toArray 3 (0, 0)) := by
    rw [hz] at hr1 ⊢
    have := row_mid [] (List.replicate l.length (Value.int .i64 0)) (List.replicate 3 (Value.int .i64 0)) (l.flatMap iC) hr1 (by simp [hfl])
    exact this
  have HB2 := Lib.hid (below_setCells (Nat.le_refl _) (l.flatMap iC) 0 HB1.out)
  have HROOM1 : Hid (0 + l.length ≤ l.length + 3) := by show _ ≤ _; omega
  have HROOM2 : Hid (l.length + 2 ≤ l.length + 3) := by show _ ≤ _; omega
  have ew : IntKind.i64.wrap ((l.length : Int) + 3) = (l.length : Int) + 3 := wraps_i64 _ (by omega) (by omega)
  have HW2E : Hid (∃ W2, (w.alloc (.cells (Array.replicate (l.length + 3) (Value.int .i64 0)) 3)).setCells w.heap.size 0 (l.flatMap iC) = W2) := ⟨_, rfl⟩
  rw [List.nil_append] at hr2
  have hba : Below ((w.alloc (.cells (Array.replicate (l.length + 3) (Value.int .i64 0)) 3)).setCells w.heap.size 0 (l.flatMap iC)).heap.size ((w.alloc (.cells (Array.replicate (l.length + 3) (Value.int .i64 0)) 3)).setCells w.heap.size 0 (l.flatMap iC)) (((w.alloc (.cells (Array.replicate (l.length + 3) (Value.int .i64 0)) 3)).setCells w.heap.size 0 (l.flatMap iC)).alloc (.cells #[.int .i64 f, .int .i64 f] 3)) := (Below.refl _ _).alloc (Nat.le_refl _) _
  have hr3 := (hba.block _ (lt_of_block hr2)).trans hr2
  have hi3 := row_is hr3 l.length 2 (by simp [hfl])
  have HC3 : Hid (∀ j, j < ([.int .i64 f, .int .i64 f] : List Value).length → ((((w.alloc (.cells (Array.replicate (l.length + 3) (Value.int .i64 0)) 3)).setCells w.heap.size 0 (l.flatMap iC)).alloc (.cells #[.int .i64 f, .int .i64 f] 3)).cell? ⟨w.heap.size, 0 + l.length + j, none⟩).isSome = true) := fun j hj => by rw [Nat.zero_add]; exact hi3.1 j hj
  have HF3 : Hid (∀ j, j < ([.int .i64 f, .int .i64 f] : List Value).length → (((w.alloc (.cells (Array.replicate (l.length + 3) (Value.int .i64 0)) 3)).setCells w.heap.size 0 (l.flatMap iC)).alloc (.cells #[.int .i64 f, .int .i64 f] 3)).frozen? ⟨w.heap.size, 0 + l.length + j, none⟩ = false) := fun j hj => by rw [Nat.zero_add]; exact hi3.2 j hj
  have HSR2 : Hid (Src Try.prog 1 23 (.slice (some ⟨((w.alloc (.cells (Array.replicate (l.length + 3) (Value.int .i64 0)) 3)).setCells w.heap.size 0 (l.flatMap iC)).heap.size, 0, none⟩) 2 2) 2 [Value.int .i64 f, Value.int .i64 f] (((w.alloc (.cells (Array.replicate (l.length + 3) (Value.int .i64 0)) 3)).setCells w.heap.size 0 (l.flatMap iC)).alloc (.cells #[Value.int .i64 f, Value.int .i64 f] 3))) := Src.ofSlice _ Try.underlying23 ⟨((w.alloc (.cells (Array.replicate (l.length + 3) (Value.int .i64 0)) 3)).setCells w.heap.size 0 (l.flatMap iC)).heap.size, 0, none⟩ 2 2 _ rfl (cells_new_at _ _ rfl #[Value.int .i64 f, Value.int .i64 f] 3 _ rfl) (by intro u hu; simp only [List.mem_cons, List.not_mem_nil, or_false] at hu; rcases hu with rfl | rfl <;> rfl)
  have hr4 : ((((w.alloc (.cells (Array.replicate (l.length + 3) (Value.int .i64 0)) 3)).setCells w.heap.size 0 (l.flatMap iC)).alloc (.cells #[.int .i64 f, .int .i64 f] 3)).setCells w.heap.size l.length [.int .i64 f, .int .i64 f]).heap[w.heap.size]? = some (.cells (l.flatMap iC ++ (iC f ++ iC f) ++ [Value.int .i64 0]).toArray 3 (0, 0)) := by
    have e3 : l.flatMap iC ++ List.replicate 3 (Value.int .i64 0) = l.flatMap iC ++ List.replicate 2 (Value.int .i64 0) ++ [Value.int .i64 0] := by rw [List.append_assoc]; rfl
    rw [e3] at hr3
    have := row_mid (l.flatMap iC) (List.replicate 2 (Value.int .i64 0)) [Value.int .i64 0] [.int .i64 f, .int .i64 f] hr3 rfl
    rw [hfl] at this
    exact this
  have HR4 := Lib.hid hr4
  have HB4 := Lib.hid (below_setCells (Nat.le_refl _) [.int .i64 f, .int .i64 f] l.length (HB2.out.alloc HB2.out.size (.cells #[.int .i64 f, .int .i64 f] 3)))
  have HLL : Hid (l.length ≤ 0 + l.length + 2) := by show _ ≤ _; omega
  have c1 : (l.length : Int) ≤ (l.length : Int) + 3 := by omega
  have c0 : (0 : Int) ≤ (l.length : Int) := Int.natCast_nonneg _
  clear hr1 hi1 hr2 hi3 hr3 hba hr4 hz hfl h
  go_enter Try.func32, Try.ntmps32
  go_wp2_with (at_builtin; first | (refine wpList_append_room1 _ rfl _ _ 23 23 rfl 3 (.int .i64 0) 8 Try.underlying23 hinfo.out w.heap.size 0 0 (l.length + 3) rfl _ rfl l.length (l.flatMap iC) HSRC.out HROOM1.out HC1.out HF1.out ?_) | (refine wpList_append_room1 _ rfl _ _ 23 23 rfl 3 (.int .i64 0) 8 Try.underlying23 hinfo.out w.heap.size 0 l.length (l.length + 3) rfl _ rfl 2 [.int .i64 f, .int .i64 f] HSR2.out HROOM2.out HC3.out HF3.out ?_))
  go_ret
  exact ⟨w.heap.size, rfl, Nat.le_refl _, HR4.out, HB4.out⟩
end Go.Proofs.Ytgoocmocdimnoaa
