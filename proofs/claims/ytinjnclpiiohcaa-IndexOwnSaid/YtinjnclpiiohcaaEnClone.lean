/- The walk of slices.Clone over entries. -/
import Derived.Test.YtinjnclpiiohcaaPlOf
namespace Go.Proofs.Ytinjnclpiiohcaa
open Go.RowKit Go.Proofs
set_option maxRecDepth 100000 in
theorem info_enM : ∃ i, Try.prog.info? 78 = some i ∧ i.zero = some (.agg (enC ((0, 0, 0, 0, 0, 0, 0, 0), 0, 0, 0)).toArray) ∧ i.size = 11 ∧ i.bytes = 32 := info_parts (by kernel_rfl)
theorem enC_one (p : En) : ∀ u ∈ enC p, u.oneCell' = true := by
  intro u hu
  simp only [enC, idL, List.map_cons, List.map_nil, List.cons_append, List.nil_append, List.mem_cons, List.not_mem_nil, or_false, bV] at hu
  rcases hu with rfl | rfl | rfl | rfl | rfl | rfl | rfl | rfl | rfl | rfl | rfl <;> rfl
def CloneEEnd (w0 : World) (l : List En) (e : Ending) (w : World) : Prop := Below w0.heap.size w0 w ∧ ∃ a c, e = .returned (.slice a l.length c) ∧ w.ownsRow w0.heap.size 78 11 (.slice a l.length c) l.length (l.flatMap enC)
set_option maxRecDepth 100000 in
theorem cloneE_any (a : Option Addr) (cap : Nat) (l : List En) (w : World) (h : SAt 11 enC w a l) (hl : l.length * 32 ≤ 140737488355328) :
    Calls Try.prog 43 #[.slice a l.length cap] w (CloneEEnd w l) := by
  obtain ⟨i0, hi0, hz0, hz1, hz2⟩ := info_enM
  cases a with
  | none =>
    have hn : l = [] := by
      cases l with
      | nil => rfl
      | cons y l => obtain ⟨g, off, e, _⟩ := h 0 (by simp); cases e
    subst hn
    clear h hl
    have hq := fun u : World => run_eql_slice_nil (P := Try.prog) u 74 78 none 0 cap Try.underlying74
    go_enter Try.func43, Try.ntmps43
    go_wp2_with fail
    go_ret
    exact ⟨Below.refl _ _, none, 0, rfl, World.ownsRow_nil _ _ _ _⟩
  | some ad =>
    have HB1 := Lib.hid ((Below.refl w.heap.size w).alloc (Nat.le_refl _) (.cells #[] 78))
    have HS := Lib.hid (h.below HB1.out)
    have HOWN := Lib.hid (owns_empty w w.heap.size 78 11 (Nat.le_refl _))
    have D3 : Hid (0 + l.length ≤ maxLen) := by show _ ≤ _; unfold maxLen; omega
    have D4 : Hid ((0 + l.length) * 32 ≤ 140737488355328) := by show _ ≤ _; omega
    have D5 : Hid (w.heap.size ≤ (w.alloc (.cells #[] 78)).heap.size) := HB1.out.size
    clear h hl
    have hq := fun u : World => run_eql_slice_nil (P := Try.prog) u 74 78 (some ad) l.length cap Try.underlying74
    go_enter Try.func43, Try.ntmps43
    go_wp2_with (at_builtin; refine wpList_append_sat rfl _ _ 74 rfl w.heap.size 78 i0 (.agg (enC ((0, 0, 0, 0, 0, 0, 0, 0), 0, 0, 0)).toArray) 11 32 Try.underlying74 hi0 hz0 hz1 hz2 rfl (by decide) (.slice (some ⟨w.heap.size, 0, none⟩) 0 0) 0 [] rfl HOWN.out (some ad) cap l rfl HS.out enC_length enC_one D3.out D4.out D5.out ?_)
    intro v' w2 hown' hgrow
    have BW := Lib.hid (below_own HB1.out hgrow HB1.out.size HOWN.out (Nat.le_refl _))
    obtain ⟨oa3, oc3, rfl⟩ := own_formK hown'
    have OW := Lib.hid hown'
    clear hown' hgrow
    go_wp2_with fail
    go_ret
    exact ⟨BW.out, oa3, oc3, rfl, OW.out⟩
end Go.Proofs.Ytinjnclpiiohcaa
