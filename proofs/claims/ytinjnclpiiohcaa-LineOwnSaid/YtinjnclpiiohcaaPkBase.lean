/- Packets, strings and bools in memory; slices.Clone over each. -/
import Derived.Test.YtinjnclpiiohcaaLinkPlain
import Derived.Test.YtinjnclpiiohcaaOwnForm
import Derived.Test.YtinjnclpiiohcaaCmpInt
import Derived.Test.YtinjnclpiiohcaaBits
import Derived.Lib.SliceRun
import Derived.Lib.LazyBuf
namespace Go.Proofs.Ytinjnclpiiohcaa
open Go.RowKit Go.Proofs Plain
abbrev PkT := Plain.Pkt ByteArray
def pkC (p : PkT) : List Value := [.int .i64 p.1, .int .i64 p.2.1, .string p.2.2]
def stC (s : ByteArray) : List Value := [.string s]
def boC (b : Bool) : List Value := [.bool b]
theorem pkC_length (p : PkT) : (pkC p).length = 3 := rfl
theorem stC_length (p : ByteArray) : (stC p).length = 1 := rfl
theorem boC_length (p : Bool) : (boC p).length = 1 := rfl
theorem pkC_one (p : PkT) : ∀ u ∈ pkC p, u.oneCell' = true := by
  intro u hu
  simp only [pkC, List.mem_cons, List.not_mem_nil, or_false] at hu
  rcases hu with rfl | rfl | rfl <;> rfl
theorem stC_one (p : ByteArray) : ∀ u ∈ stC p, u.oneCell' = true := by
  intro u hu
  simp only [stC, List.mem_cons, List.not_mem_nil, or_false] at hu
  subst hu
  rfl
theorem boC_one (p : Bool) : ∀ u ∈ boC p, u.oneCell' = true := by
  intro u hu
  simp only [boC, List.mem_cons, List.not_mem_nil, or_false] at hu
  subst hu
  rfl
theorem info_pkM : ∃ i, Try.prog.info? 30 = some i ∧ i.zero = some (.agg (pkC ((0, 0, ⟨#[]⟩) : PkT)).toArray) ∧ i.size = 3 ∧ i.bytes = 32 := info_parts (by kernel_rfl)
theorem info_stM : ∃ i, Try.prog.info? 9 = some i ∧ i.zero = some (.string ⟨#[]⟩) ∧ i.size = 1 ∧ i.bytes = 16 := info_parts (by kernel_rfl)
theorem info_boM : ∃ i, Try.prog.info? 4 = some i ∧ i.zero = some (.bool false) ∧ i.size = 1 ∧ i.bytes = 1 := info_parts (by kernel_rfl)
/-- the empty row of a literal -/
theorem owns_emptyK (w : World) (base : Nat) (e : TypeId) (k : Nat) (h : base ≤ w.heap.size) : (w.alloc (.cells #[] e)).ownsRow base e k (.slice (some ⟨w.heap.size, 0, none⟩) 0 0) 0 [] :=
  ⟨by simp, .inr ⟨w.heap.size, 0, #[], rfl, h, heap_alloc_new w _, by omega, by unfold maxLen; omega, by simp, by simp⟩⟩
def CloneKEnd (w0 : World) (l : List PkT) (e : Ending) (w : World) : Prop := Below w0.heap.size w0 w ∧ ∃ a c, e = .returned (.slice a l.length c) ∧ w.ownsRow w0.heap.size 30 3 (.slice a l.length c) l.length (l.flatMap pkC)
set_option maxRecDepth 100000 in
theorem cloneK_any (a : Option Addr) (cap : Nat) (l : List PkT) (w : World) (h : SAt 3 pkC w a l) (hl : l.length * 32 ≤ 140737488355328) :
    Calls Try.prog 49 #[.slice a l.length cap] w (CloneKEnd w l) := by
  obtain ⟨i0, hi0, hz0, hz1, hz2⟩ := info_pkM
  cases a with
  | none =>
    have hn : l = [] := by
      cases l with
      | nil => rfl
      | cons y l => obtain ⟨g, off, e, _⟩ := h 0 (by simp); cases e
    subst hn
    clear h hl
    have hq := fun u : World => run_eql_slice_nil (P := Try.prog) u 26 30 none 0 cap Try.underlying26
    go_enter Try.func49, Try.ntmps49
    go_wp2_with fail
    go_ret
    exact ⟨Below.refl _ _, none, 0, rfl, World.ownsRow_nil _ _ _ _⟩
  | some ad =>
    have HB1 := Lib.hid ((Below.refl w.heap.size w).alloc (Nat.le_refl _) (.cells #[] 30))
    have HS := Lib.hid (h.below HB1.out)
    have HOWN := Lib.hid (owns_emptyK w w.heap.size 30 3 (Nat.le_refl _))
    have D3 : Hid (0 + l.length ≤ maxLen) := by show _ ≤ _; unfold maxLen; omega
    have D4 : Hid ((0 + l.length) * 32 ≤ 140737488355328) := by show _ ≤ _; omega
    have D5 : Hid (w.heap.size ≤ (w.alloc (.cells #[] 30)).heap.size) := HB1.out.size
    clear h hl
    have hq := fun u : World => run_eql_slice_nil (P := Try.prog) u 26 30 (some ad) l.length cap Try.underlying26
    go_enter Try.func49, Try.ntmps49
    go_wp2_with (at_builtin; refine wpList_append_sat rfl _ _ 26 rfl w.heap.size 30 i0 (.agg (pkC ((0, 0, ⟨#[]⟩) : PkT)).toArray) 3 32 Try.underlying26 hi0 hz0 hz1 hz2 rfl (by decide) (.slice (some ⟨w.heap.size, 0, none⟩) 0 0) 0 [] rfl HOWN.out (some ad) cap l rfl HS.out pkC_length pkC_one D3.out D4.out D5.out ?_)
    intro v' w2 hown' hgrow
    have BW := Lib.hid (below_own HB1.out hgrow HB1.out.size HOWN.out (Nat.le_refl _))
    obtain ⟨oa3, oc3, rfl⟩ := own_formK hown'
    have OW := Lib.hid hown'
    clear hown' hgrow
    go_wp2_with fail
    go_ret
    exact ⟨BW.out, oa3, oc3, rfl, OW.out⟩
def CloneSEnd (w0 : World) (l : List ByteArray) (e : Ending) (w : World) : Prop := Below w0.heap.size w0 w ∧ ∃ a c, e = .returned (.slice a l.length c) ∧ w.ownsRow w0.heap.size 9 1 (.slice a l.length c) l.length (l.flatMap stC)
set_option maxRecDepth 100000 in
theorem cloneS_any (a : Option Addr) (cap : Nat) (l : List ByteArray) (w : World) (h : SAt 1 stC w a l) (hl : l.length * 16 ≤ 140737488355328) :
    Calls Try.prog 46 #[.slice a l.length cap] w (CloneSEnd w l) := by
  obtain ⟨i0, hi0, hz0, hz1, hz2⟩ := info_stM
  cases a with
  | none =>
    have hn : l = [] := by
      cases l with
      | nil => rfl
      | cons y l => obtain ⟨g, off, e, _⟩ := h 0 (by simp); cases e
    subst hn
    clear h hl
    have hq := fun u : World => run_eql_slice_nil (P := Try.prog) u 22 9 none 0 cap Try.underlying22
    go_enter Try.func46, Try.ntmps46
    go_wp2_with fail
    go_ret
    exact ⟨Below.refl _ _, none, 0, rfl, World.ownsRow_nil _ _ _ _⟩
  | some ad =>
    have HB1 := Lib.hid ((Below.refl w.heap.size w).alloc (Nat.le_refl _) (.cells #[] 9))
    have HS := Lib.hid (h.below HB1.out)
    have HOWN := Lib.hid (owns_emptyK w w.heap.size 9 1 (Nat.le_refl _))
    have D3 : Hid (0 + l.length ≤ maxLen) := by show _ ≤ _; unfold maxLen; omega
    have D4 : Hid ((0 + l.length) * 16 ≤ 140737488355328) := by show _ ≤ _; omega
    have D5 : Hid (w.heap.size ≤ (w.alloc (.cells #[] 9)).heap.size) := HB1.out.size
    clear h hl
    have hq := fun u : World => run_eql_slice_nil (P := Try.prog) u 22 9 (some ad) l.length cap Try.underlying22
    go_enter Try.func46, Try.ntmps46
    go_wp2_with (at_builtin; refine wpList_append_sat rfl _ _ 22 rfl w.heap.size 9 i0 (.string ⟨#[]⟩) 1 16 Try.underlying22 hi0 hz0 hz1 hz2 rfl (by decide) (.slice (some ⟨w.heap.size, 0, none⟩) 0 0) 0 [] rfl HOWN.out (some ad) cap l rfl HS.out stC_length stC_one D3.out D4.out D5.out ?_)
    intro v' w2 hown' hgrow
    have BW := Lib.hid (below_own HB1.out hgrow HB1.out.size HOWN.out (Nat.le_refl _))
    obtain ⟨oa3, oc3, rfl⟩ := own_formK hown'
    have OW := Lib.hid hown'
    clear hown' hgrow
    go_wp2_with fail
    go_ret
    exact ⟨BW.out, oa3, oc3, rfl, OW.out⟩
def CloneBEnd (w0 : World) (l : List Bool) (e : Ending) (w : World) : Prop := Below w0.heap.size w0 w ∧ ∃ a c, e = .returned (.slice a l.length c) ∧ w.ownsRow w0.heap.size 4 1 (.slice a l.length c) l.length (l.flatMap boC)
set_option maxRecDepth 100000 in
theorem cloneB_any (a : Option Addr) (cap : Nat) (l : List Bool) (w : World) (h : SAt 1 boC w a l) (hl : l.length * 1 ≤ 140737488355328) :
    Calls Try.prog 47 #[.slice a l.length cap] w (CloneBEnd w l) := by
  obtain ⟨i0, hi0, hz0, hz1, hz2⟩ := info_boM
  cases a with
  | none =>
    have hn : l = [] := by
      cases l with
      | nil => rfl
      | cons y l => obtain ⟨g, off, e, _⟩ := h 0 (by simp); cases e
    subst hn
    clear h hl
    have hq := fun u : World => run_eql_slice_nil (P := Try.prog) u 23 4 none 0 cap Try.underlying23
    go_enter Try.func47, Try.ntmps47
    go_wp2_with fail
    go_ret
    exact ⟨Below.refl _ _, none, 0, rfl, World.ownsRow_nil _ _ _ _⟩
  | some ad =>
    have HB1 := Lib.hid ((Below.refl w.heap.size w).alloc (Nat.le_refl _) (.cells #[] 4))
    have HS := Lib.hid (h.below HB1.out)
    have HOWN := Lib.hid (owns_emptyK w w.heap.size 4 1 (Nat.le_refl _))
    have D3 : Hid (0 + l.length ≤ maxLen) := by show _ ≤ _; unfold maxLen; omega
    have D4 : Hid ((0 + l.length) * 1 ≤ 140737488355328) := by show _ ≤ _; omega
    have D5 : Hid (w.heap.size ≤ (w.alloc (.cells #[] 4)).heap.size) := HB1.out.size
    clear h hl
    have hq := fun u : World => run_eql_slice_nil (P := Try.prog) u 23 4 (some ad) l.length cap Try.underlying23
    go_enter Try.func47, Try.ntmps47
    go_wp2_with (at_builtin; refine wpList_append_sat rfl _ _ 23 rfl w.heap.size 4 i0 (.bool false) 1 1 Try.underlying23 hi0 hz0 hz1 hz2 rfl (by decide) (.slice (some ⟨w.heap.size, 0, none⟩) 0 0) 0 [] rfl HOWN.out (some ad) cap l rfl HS.out boC_length boC_one D3.out D4.out D5.out ?_)
    intro v' w2 hown' hgrow
    have BW := Lib.hid (below_own HB1.out hgrow HB1.out.size HOWN.out (Nat.le_refl _))
    obtain ⟨oa3, oc3, rfl⟩ := own_formK hown'
    have OW := Lib.hid hown'
    clear hown' hgrow
    go_wp2_with fail
    go_ret
    exact ⟨BW.out, oa3, oc3, rfl, OW.out⟩
end Go.Proofs.Ytinjnclpiiohcaa
