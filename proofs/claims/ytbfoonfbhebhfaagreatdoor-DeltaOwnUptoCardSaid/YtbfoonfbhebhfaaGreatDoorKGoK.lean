/- Joined: WalkIdx, WalkSl. -/
import Derived.Test.YtbfoonfbhebhfaaGreatDoorKGnZ
import Derived.Test.YtbfoonfbhebhfaaGreatDoorKGnJ
import Derived.Test.YtbfoonfbhebhfaaGreatDoorKGnP
import Derived.ChangeKeysEq
import Derived.Laws.StructEq
import Derived.Test.YtbfoonfbhebhfaaGreatDoorKGnU
import Derived.Test.YtbfoonfbhebhfaaGreatDoorKGoA
namespace Go.Proofs.YtbfoonfbhebhfaaGreatDoor
open Go.RowKit Plain Go.Maps Go.ChangeMaps
set_option linter.unusedVariables false
set_option linter.unusedSimpArgs false
end Go.Proofs.YtbfoonfbhebhfaaGreatDoor
namespace Go.Proofs.YtbfoonfbhebhfaaGreatDoor
open Go.RowKit Plain Go.Maps
set_option linter.unusedVariables false
set_option linter.unusedSimpArgs false
theorem info_itS : (Tryz.prog.info? 40).map (fun i => (i.zero, i.size, i.bytes)) = some (some (.agg #[.string ⟨#[]⟩, .int .i64 0, .int .i64 0, .int .i64 0, .string ⟨#[]⟩]), 5, 56) := by kernel_rfl
section
variable {P : Program} {w : World}
end
theorem owns_emptyB (w : World) (base : Nat) (e : TypeId) (k : Nat) (h : base ≤ w.heap.size) : (w.alloc (.cells #[] e)).ownsRow base e k (.slice (some ⟨w.heap.size, 0, none⟩) 0 0) 0 [] :=
 ⟨by simp, .inr ⟨w.heap.size, 0, #[], rfl, h, heap_alloc_new w _, by omega, by unfold maxLen; omega, by simp, by simp⟩⟩
def ClnEnd {α : Type} (T : TypeId) (k : Nat) (c : α → List Value) (w0 : World) (l : List α) (e : Ending) (w : World) : Prop := Below w0.heap.size w0 w ∧ ∃ a oc, e = .returned (.slice a l.length oc) ∧ w.ownsRow w0.heap.size T k (.slice a l.length oc) l.length (l.flatMap c)
set_option maxRecDepth 100000 in
theorem cloneIt_any (a : Option Addr) (cap : Nat) (l : List It) (w : World) (h : SAt 5 iC w a l) (hl : l.length * 56 ≤ 140737488355328) :
  Calls Tryz.prog 20 #[.slice a l.length cap] w (ClnEnd 40 5 iC w l) := by
 obtain ⟨i0, hi0, hz0, hz1, hz2⟩ := info_parts info_itS
 cases a with
 | none =>
  have hn : l = [] := by
   cases l with
   | nil => rfl
   | cons y l => obtain ⟨g, off, e, _⟩ := h 0 (by simp); cases e
  subst hn
  clear h hl
  have hq := fun u : World => run_eql_slice_nil (P := Tryz.prog) u 26 40 none 0 cap Tryz.underlying26
  go_enter Tryz.func20, Tryz.ntmps20
  go_wp2_with fail
  go_ret
  exact ⟨Below.refl _ _, none, 0, rfl, World.ownsRow_nil _ _ _ _⟩
 | some ad =>
  have HB1 := Lib.hid ((Below.refl w.heap.size w).alloc (Nat.le_refl _) (.cells #[] 40))
  have HS := Lib.hid (h.below HB1.out)
  have HOWN := Lib.hid (owns_emptyB w w.heap.size 40 5 (Nat.le_refl _))
  have D3 : Hid (0 + l.length ≤ maxLen) := by show _ ≤ _; unfold maxLen; omega
  have D4 : Hid ((0 + l.length) * 56 ≤ 140737488355328) := by show _ ≤ _; omega
  have D5 : Hid (w.heap.size ≤ (w.alloc (.cells #[] 40)).heap.size) := HB1.out.size
  clear h hl
  have hq := fun u : World => run_eql_slice_nil (P := Tryz.prog) u 26 40 (some ad) l.length cap Tryz.underlying26
  go_enter Tryz.func20, Tryz.ntmps20
  go_wp2_with (at_builtin; refine wpList_append_sat rfl _ _ 26 rfl w.heap.size 40 i0 (.agg #[.string ⟨#[]⟩, .int .i64 0, .int .i64 0, .int .i64 0, .string ⟨#[]⟩]) 5 56 Tryz.underlying26 hi0 hz0 hz1 hz2 rfl (by decide) (.slice (some ⟨w.heap.size, 0, none⟩) 0 0) 0 [] rfl HOWN.out (some ad) cap l rfl HS.out (fun _ => rfl) (fun p => iC_one p) D3.out D4.out D5.out ?_)
  intro v' w2 hown' hgrow
  have BW := Lib.hid (below_own HB1.out hgrow HB1.out.size HOWN.out (Nat.le_refl _))
  obtain ⟨oa3, oc3, rfl⟩ := own_formK hown'
  have OW := Lib.hid hown'
  clear hown' hgrow
  go_wp2_with fail
  go_ret
  exact ⟨BW.out, oa3, oc3, rfl, OW.out⟩
end Go.Proofs.YtbfoonfbhebhfaaGreatDoor
