/- TreeBack: its walk. -/
import Derived.Test.YtinjnclpiiohcaaDoorTreeRead
import Derived.Test.YtinjnclpiiohcaaDoorNodes
namespace Go.Proofs.YtinjnclpiiohcaaDoor
open Go.RowKit Plain
/-- a link that is written at the start -/
def mnL : MN := (⟨#[97]⟩, 3, 0, 0, 0, (none, 0, []), ⟨#[98]⟩)
theorem nOk_L : NOk mnL := ⟨by decide +kernel, by decide, by decide, by decide, by decide, by decide, by decide⟩
theorem tOk_L : TOk [mnL] := ⟨by decide, fun m hm => by
  simp only [List.mem_singleton] at hm
  subst hm
  exact nOk_L, fun i h => by simp at h⟩
theorem wOk_L : WOk [mnL] := by
  have h0 := numS_num 0 (by decide)
  have h1 := numS_num 1 (by decide)
  have hi := inumS_is 0 (by decide)
  refine ⟨tOk_L, _, ⟨_, _, h1, EncNs.snoc (l := []) (t := []) .nil ⟨_, _, _, _, h0, hi, h0, h0, rfl⟩, rfl⟩, ?_⟩
  have a0 := h0.length.2
  have a1 := h1.length.2
  have a2 := inum_length hi
  have p1 := putT_length (ndOf mnL).1
  have p2 := putT_length (ndOf mnL).2.2.2.2.2.2
  have e1 : (ndOf mnL).1.length = 1 := rfl
  have e2 : (ndOf mnL).2.2.2.2.2.2.length = 1 := rfl
  have e3 : (ndOf mnL).2.2.2.2.2.1.flatten.length = 0 := rfl
  simp only [List.length_append, List.length_cons, List.length_nil]
  omega
theorem row_rangeT {w : World} {b : Nat} {t : TypeId} {l : List Value} (h : w.heap[b]? = some (.cells l.toArray t (0, 0))) : w.rangeAt b 0 l := fun j v hj => by
  rw [Nat.zero_add, cell_of_row _ _ _ _ _ _ h]
  simpa using hj
theorem nat_L (u : World) : NAt (u.alloc (.cells #[.string ⟨#[97]⟩, .int .i64 3, .int .i64 0, .int .i64 0, .int .i64 0, .slice none 0 0, .string ⟨#[98]⟩] 73)) (some ⟨u.heap.size, 0, none⟩) [mnL] := by
  refine ⟨fun i hi => ?_, fun m hm => ?_⟩
  · obtain rfl : i = 0 := by simpa using hi
    exact ⟨u.heap.size, 0, rfl, by simp, row_rangeT (l := mnC mnL) (heap_alloc_new u _)⟩
  · simp only [List.mem_singleton] at hm
    subst hm
    exact fun i hi => by simp [mnL] at hi
theorem mz_L : ∀ m ∈ [mnL], MZ m ∧ -9223372036854775808 ≤ m.2.2.2.1 ∧ m.2.2.2.1 ≤ 9223372036854775807 := fun m hm => by
  simp only [List.mem_singleton] at hm
  subst hm
  exact ⟨⟨by decide, by decide, by decide, fun p hp => by simp [mnL] at hp⟩, by decide, by decide⟩
theorem Tx.pos {l : List Nd} {t : ByteArray} (h : Tx l (strN t)) : 1 ≤ t.size := by
  obtain ⟨a, f, h1, _, h3⟩ := h
  obtain ⟨ds, _, rfl⟩ := h1
  have := congrArg List.length h3
  rw [strN_length] at this
  simp only [List.length_append, List.length_cons] at this
  omega
theorem ndB_of {m : MN} (h : NOk m) (ht : -9223372036854775808 ≤ m.2.2.2.1 ∧ m.2.2.2.1 ≤ 9223372036854775807) : NdB (ndOf m) := by
  obtain ⟨h1, h2, h3, h4, h5, _, h7⟩ := h
  have hs := chk_size h1
  have hk : 1 ≤ m.2.1 ∧ m.2.1 ≤ 3 := by simpa [knd] using h5
  refine ⟨by show (strN m.1).length ≤ _; rw [strN_length]; omega, by show 0 ≤ m.2.1 ∧ m.2.1 < 256; omega, h2, ht, h3, by show (m.2.2.2.2.2.1.2.2.map idL).length ≤ _; rw [List.length_map]; exact h4, fun p hp => ?_, by show (strN m.2.2.2.2.2.2).length ≤ _; rw [strN_length]; exact h7⟩
  obtain ⟨q, _, rfl⟩ := List.mem_map.1 (show p ∈ m.2.2.2.2.2.1.2.2.map idL from hp)
  rfl
/-- what was written reads as the same nodes -/
theorem rOk_of {l : List MN} {t : ByteArray} (hok : WOk l) (ht : Tx (l.map ndOf) (strN t)) (hz : t.size ≤ 4096) (hm : ∀ m ∈ l, MZ m ∧ -9223372036854775808 ≤ m.2.2.2.1 ∧ m.2.2.2.1 ≤ 9223372036854775807) : ROk t l := by
  refine ⟨hz, hok.1, ht.rd (fun r hr => ?_) (by rw [List.length_map]; exact hok.1.1)⟩
  obtain ⟨m, hmm, rfl⟩ := List.mem_map.1 hr
  exact ndB_of (hok.1.2.1 m hmm) (hm m hmm).2
set_option maxRecDepth 100000 in
set_option maxHeartbeats 4000000 in
theorem treeBack_any (a : Option Addr) (cap : Nat) (l : List MN) (w : World) (h : NAt w a l) (hl : l.length ≤ 9223372036854775807) (hz : ∀ m ∈ l, MZ m ∧ -9223372036854775808 ≤ m.2.2.2.1 ∧ m.2.2.2.1 ≤ 9223372036854775807) (hT : Tabs w) (hM : MaxC w) :
    Calls Tryd.prog 8 #[.slice a l.length cap] w fun e w' => e = .returned (.bool true) ∧ Below w.heap.size w w' := by
  have HN := Lib.hid h
  have HZ := Lib.hid hz
  have HT := Lib.hid hT
  have HM := Lib.hid hM
  have HB0 := Lib.hid ((Below.refl w.heap.size w).alloc (Nat.le_refl _) (.cells #[.string ⟨#[97]⟩, .int .i64 3, .int .i64 0, .int .i64 0, .int .i64 0, .slice none 0 0, .string ⟨#[98]⟩] 73))
  have HW0 := Lib.hid (twrite_any (some ⟨w.heap.size, 0, none⟩) 1 [mnL] _ (nat_L w) (by decide) mz_L (HT.out.below HB0.out) (HM.out.below HB0.out))
  simp only [List.length_cons, List.length_nil] at HW0
  have HWL := Lib.hid fun u hu ht hm => twrite_any a cap l u hu hl hz ht hm
  have HR := Lib.hid fun s u hu => tread_any s u hu
  clear h hz hT hM
  go_enter Tryd.func8, Tryd.ntmps8
  go_wp2_with fail
  refine HW0.out.mono ?_
  rintro e w1 ⟨⟨_, t0, ht0, _, rfl⟩ | ⟨hn, _⟩, hb1⟩
  · have HB1 := Lib.hid (Below.step HB0.out hb1)
    have hne0 := isEmpty_false' (s := t0) (by have := Tx.pos ht0; omega)
    clear hb1 HW0 ht0
    go_wp2_with fail
    refine (HWL.out _ (HN.out.below HB1.out) (HT.out.below HB1.out) (HM.out.below HB1.out)).mono ?_
    rintro e w2 ⟨⟨hok, t, ht, ht4, rfl⟩ | ⟨_, c, hc, rfl⟩, hb2⟩
    · have HB2 := Lib.hid (Below.step HB1.out hb2)
      have HRO := Lib.hid (rOk_of hok ht ht4 HZ.out)
      clear hb2 hok ht
      go_wp2_with fail
      refine (HR.out t _ (HT.out.below HB2.out)).mono ?_
      rintro e w3 ⟨⟨l', a', c', hr, rfl, hna, _⟩ | ⟨_, _, _, hn⟩, hb3⟩
      · have HB3 := Lib.hid (Below.step HB2.out hb3)
        have HSN := Lib.hid (sameNodes_any a a' cap c' l l' w3 (HN.out.below HB3.out) hna hl (HRO.out.2.2.unique hr.2.2) (fun x hx => (HZ.out x hx).1.2.1))
        clear hb3 hr hna
        go_wp2_with fail
        refine HSN.out.mono ?_
        rintro e w4 ⟨rfl, hb4⟩
        have HB4 := Lib.hid (Below.step HB3.out hb4)
        clear hb4 HSN
        go_wp2_with fail
        go_ret
        exact ⟨rfl, HB4.out⟩
      · exact absurd HRO.out (hn l)
    · have HB2 := Lib.hid (Below.step HB1.out hb2)
      have f1 : (c != 0) = true := by simpa using hc
      clear hb2
      go_wp2_with fail
      go_ret
      exact ⟨rfl, HB2.out⟩
  · exact absurd wOk_L hn
end Go.Proofs.YtinjnclpiiohcaaDoor
