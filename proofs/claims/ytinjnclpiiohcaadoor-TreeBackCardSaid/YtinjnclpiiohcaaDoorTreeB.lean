/- The walk of tree's reader's bytes. -/
import Derived.Test.YtinjnclpiiohcaaDoorTreeR
namespace Go.Proofs.YtinjnclpiiohcaaDoor
open Go.RowKit Plain
theorem info_u8B : (Tryd.prog.info? 5).map (fun i => (i.zero, i.size, i.bytes)) = some (some (.int .u8 0), 1, 1) := by kernel_rfl
def BytesEnd (R : Nat) (l : ByteArray) (e n : Nat) (w0 : World) (en : Ending) (w : World) : Prop :=
  ∃ (g cap : Nat) (x : List Nat) (l' : ByteArray) (e' : Nat), n ≤ cap ∧ en = .returned (.slice (some ⟨g, 0, none⟩) n cap) ∧ RSt w R l' e' ∧ BX R w0 w ∧ w0.heap.size ≤ g ∧ g < w.heap.size ∧ w.rangeAt g 0 (x.map bV) ∧ x.length = n ∧ (∀ c ∈ x, c < 256) ∧ l'.size ≤ l.size ∧ ((e = 0 ∧ strN l = x ++ strN l' ∧ e' = 0) ∨ ((e ≠ 0 ∨ l.size < n) ∧ e' ≠ 0))
theorem range_other {w w' : World} {b o : Nat} {cs : List Value} (h : w.rangeAt b o cs) (hb : w'.heap[b]? = w.heap[b]?) : w'.rangeAt b o cs := fun j v hj => (by rw [← h j v hj]; simp only [World.cell?, hb])
theorem range_zeros (w : World) (n : Nat) : (w.alloc (.cells (Array.replicate n (bV 0)) 5)).rangeAt w.heap.size 0 ((List.replicate n 0).map bV) := by
  intro j v hj
  rw [Nat.zero_add, cell_of_row _ _ _ _ _ _ (heap_alloc_new w _), ← hj, List.map_replicate, ← Array.getElem?_toList, Array.toList_replicate]
set_option maxRecDepth 100000 in
set_option maxHeartbeats 1000000 in
theorem rbytes_any (R : Nat) (l : ByteArray) (e n : Nat) (w : World) (hn : n ≤ 8) (h : RSt w R l e) : Calls Tryd.prog 67 #[.pointer (some ⟨R, 0, none⟩), .int .i64 (n : Int)] w (BytesEnd R l e n w) := by
  have HF := Lib.hid fun e c u hu => fail_any R l e c u hu
  have hmk := fun (wx : World) => run_make_bytes (P := Tryd.prog) wx 51 5 Tryd.underlying51 info_u8B (n : Int) (by omega) (by omega)
  simp only [Int.toNat_natCast] at hmk
  have h0 := h.c0
  have h1 := h.c1
  have hz0 := h.fz 0
  have HR := Lib.hid h
  have hRl := lt_of_block h
  clear h
  by_cases hsz : l.size < n
  · have f1 : decide ((l.size : Int) < (n : Int)) = true := decide_eq_true (by omega)
    have f3 : (l.size : Int) < (n : Int) := by omega
    obtain ⟨e2, he2⟩ : ∃ e2, e2 = if e = 0 then 3 else e := ⟨_, rfl⟩
    have he20 : e2 ≠ 0 := by rw [he2]; split <;> omega
    have HF3 := Lib.hid (HF.out e 3 w HR.out)
    rw [← he2] at HF3
    have HE := Lib.hid he20
    have HS := Lib.hid hsz
    have f2 : ((e2 : Int) != 0) = true := by simp; omega
    clear hsz he2
    go_enter Tryd.func67, Tryd.ntmps67
    go_wp2_with fail
    refine HF3.out.mono ?_
    rintro e' w2 ⟨rfl, hr, hb⟩
    have x1 := hr.c1
    have HR2 := Lib.hid (hr.below ((Below.refl w2.heap.size w2).alloc (Nat.le_refl _) (.cells (Array.replicate n (bV 0)) 5)))
    have HB2 := Lib.hid (hb.alloc (.cells (Array.replicate n (bV 0)) 5))
    have HSZ : Hid (w.heap.size ≤ w2.heap.size) := hb.1.size
    have HZ := Lib.hid (range_zeros w2 n)
    clear hr hb he20 h0 h1 hz0
    go_wp2_with fail
    go_ret
    exact ⟨w2.heap.size, n, List.replicate n 0, l, e2, Nat.le_refl _, rfl, HR2.out, HB2.out, HSZ.out, by simp, HZ.out, by simp, by simp, Nat.le_refl _, .inr ⟨.inr HS.out, HE.out⟩⟩
  · have f1 : decide ((l.size : Int) < (n : Int)) = false := decide_eq_false (by omega)
    have f3 : ¬ (l.size : Int) < (n : Int) := by omega
    by_cases he : e = 0
    · subst he
      have k0 : (0 : Int) ≤ (n : Int) := Int.natCast_nonneg _
      have k1 : (n : Int) ≤ (l.size : Int) := by omega
      obtain ⟨X, hX⟩ : ∃ X, l.extract 0 n = X := ⟨_, rfl⟩
      obtain ⟨D, hD⟩ : ∃ D, l.extract n l.size = D := ⟨_, rfl⟩
      have hXN : strN X = (strN l).take n := by rw [← hX, extract_strN']; simp
      have hDN : strN D = (strN l).drop n := by rw [← hD]; exact extract_strN l n
      have hXz : X.size = n := by rw [← strN_length, hXN, List.length_take, strN_length]; omega
      have HP : Hid (strN l = strN X ++ strN D) := by show _ = _; rw [hXN, hDN, List.take_append_drop]
      have HZ : Hid (D.size ≤ l.size) := by show _ ≤ _; rw [← strN_length, hDN, List.length_drop, strN_length]; omega
      have hconv := fun (wx : World) => Lib.run_convert_string_bytes (P := Tryd.prog) wx 9 51 5 X Tryd.underlying9 Tryd.underlying51 Tryd.underlying5
      simp only [hXz] at hconv
      have HC := Lib.hid (crow_bytes w 5 X)
      have HB := Lib.hid (bytesWorld_below (w := w) 5 X)
      have HR2 := Lib.hid (HR.out.below HB.out)
      have x0 := HR2.out.c0
      have x1 := HR2.out.c1
      have z0 := HR2.out.fz 0
      have HXL : Hid ((strN X).length = n) := by show _ = _; rw [strN_length]; exact hXz
      have HCP : Hid (n ≤ grownCap w n 0 5) := grownCap_ge w n 0 _
      clear hXN hDN hXz hsz
      go_enter Tryd.func67, Tryd.ntmps67
      go_wp2_with fail
      go_ret
      refine ⟨w.heap.size, _, strN X, D, 0, HCP.out, rfl, HR2.out.set0 D, (BX.of_below HB.out).set 0 _, Nat.le_refl _, ?_, ?_, HXL.out, strN_lt X, HZ.out, .inl ⟨rfl, HP.out, rfl⟩⟩
      · simpa using HC.out.lt
      · exact range_other (range_of_crow HC.out) (Below.heap_setCell _ _ _ _ (by show w.heap.size ≠ R; omega))
    · have f2 : ((e : Int) != 0) = true := by simp; omega
      have HE := Lib.hid he
      have HR2 := Lib.hid (HR.out.below ((Below.refl w.heap.size w).alloc (Nat.le_refl _) (.cells (Array.replicate n (bV 0)) 5)))
      have HZ := Lib.hid (range_zeros w n)
      clear hsz he
      go_enter Tryd.func67, Tryd.ntmps67
      go_wp2_with fail
      go_ret
      exact ⟨w.heap.size, n, List.replicate n 0, l, e, Nat.le_refl _, rfl, HR2.out, (BX.refl R w).alloc _, Nat.le_refl _, by simp, HZ.out, by simp, by simp, Nat.le_refl _, .inr ⟨.inl HE.out, HE.out⟩⟩
end Go.Proofs.YtinjnclpiiohcaaDoor
