/- Tokens: == by value, copies. -/
import Derived.Test.YtaipojclfpgaaaaLzBackW
import Derived.Test.YtaipojclfpgaaaaOwnForm
import Derived.Lib.SliceRun
import Derived.Lib.LazyBuf
namespace Go.Proofs.Ytaipojclfpgaaaa
open Go.RowKit Plain
set_option linter.unusedVariables false
set_option linter.unusedSimpArgs false
theorem info_tkM : ∃ i, Try.prog.info? 60 = some i ∧ i.zero = some (.agg (tC ((0, 0, 0) : Tok)).toArray) ∧ i.size = 3 ∧ i.bytes = 24 := info_parts (by kernel_rfl)
def OwnTEnd (w0 : World) (l : List Tok) (e : Ending) (w : World) : Prop := Below w0.heap.size w0 w ∧ ∃ a c, e = .returned (.slice a l.length c) ∧ w.ownsRow w0.heap.size 60 3 (.slice a l.length c) l.length (l.flatMap tC)
theorem owns_empty (w : World) (base : Nat) (e : TypeId) (k : Nat) (h : base ≤ w.heap.size) : (w.alloc (.cells #[] e)).ownsRow base e k (.slice (some ⟨w.heap.size, 0, none⟩) 0 0) 0 [] :=
  ⟨by simp, .inr ⟨w.heap.size, 0, #[], rfl, h, heap_alloc_new w _, by omega, by unfold maxLen; omega, by simp, by simp⟩⟩
set_option maxRecDepth 100000 in
theorem cloneT_any (a : Option Addr) (cap : Nat) (l : List Tok) (w : World) (h : SAt 3 tC w a l) (hl : l.length * 24 ≤ 140737488355328) :
    Calls Try.prog 35 #[.slice a l.length cap] w (OwnTEnd w l) := by
  obtain ⟨i0, hi0, hz0, hz1, hz2⟩ := info_tkM
  cases a with
  | none =>
    have hn : l = [] := by
      cases l with
      | nil => rfl
      | cons y l => obtain ⟨g, off, e, _⟩ := h 0 (by simp); cases e
    subst hn
    clear h hl
    have hq := fun u : World => run_eql_slice_nil (P := Try.prog) u 55 60 none 0 cap Try.underlying55
    go_enter Try.func35, Try.ntmps35
    go_wp2_with fail
    go_ret
    exact ⟨Below.refl _ _, none, 0, rfl, World.ownsRow_nil _ _ _ _⟩
  | some ad =>
    have HB1 := Lib.hid ((Below.refl w.heap.size w).alloc (Nat.le_refl _) (.cells #[] 60))
    have HS := Lib.hid (h.below HB1.out)
    have HOWN := Lib.hid (owns_empty w w.heap.size 60 3 (Nat.le_refl _))
    have D3 : Hid (0 + l.length ≤ maxLen) := by show _ ≤ _; unfold maxLen; omega
    have D4 : Hid ((0 + l.length) * 24 ≤ 140737488355328) := by show _ ≤ _; omega
    have D5 : Hid (w.heap.size ≤ (w.alloc (.cells #[] 60)).heap.size) := HB1.out.size
    clear h hl
    have hq := fun u : World => run_eql_slice_nil (P := Try.prog) u 55 60 (some ad) l.length cap Try.underlying55
    go_enter Try.func35, Try.ntmps35
    go_wp2_with (at_builtin; refine wpList_append_sat rfl _ _ 55 rfl w.heap.size 60 i0 (.agg (tC ((0, 0, 0) : Tok)).toArray) 3 24 Try.underlying55 hi0 hz0 hz1 hz2 rfl (by decide) (.slice (some ⟨w.heap.size, 0, none⟩) 0 0) 0 [] rfl HOWN.out (some ad) cap l rfl HS.out tC_length tC_one D3.out D4.out D5.out ?_)
    intro v' w2 hown' hgrow
    have BW := Lib.hid (below_own HB1.out hgrow HB1.out.size HOWN.out (Nat.le_refl _))
    obtain ⟨oa3, oc3, rfl⟩ := own_formK hown'
    have OW := Lib.hid hown'
    clear hown' hgrow
    go_wp2_with fail
    go_ret
    exact ⟨BW.out, oa3, oc3, rfl, OW.out⟩
end Go.Proofs.Ytaipojclfpgaaaa
