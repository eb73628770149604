/- The walk of mix.ID. -/
import Derived.Test.YtpfmfigommmjiaaDoorMixId
namespace Go.Proofs.YtpfmfigommmjiaaDoor
open Go.RowKit Plain
set_option maxRecDepth 100000 in
set_option maxHeartbeats 1000000 in
theorem id_any (s : ByteArray) (w : World) (hs : s.size ≤ 9223372036854775807) : Calls Tryd.prog 34 #[.string s] w fun e w' => e = .returned (.agg ((be8 (hsum (strN s))).map bV).toArray) ∧ Below w.heap.size w w' := by
  have i51' : (Tryd.prog.info? 43).map (·.size) = some 8 := by kernel_rfl
  have HC := Lib.hid fun wx => hsum_any s wx hs
  have r1' : ((w.alloc (.cells #[Value.int IntKind.u8 0, Value.int IntKind.u8 0, Value.int IntKind.u8 0, Value.int IntKind.u8 0, Value.int IntKind.u8 0, Value.int IntKind.u8 0, Value.int IntKind.u8 0, Value.int IntKind.u8 0] 43)).alloc (.cells #[Value.int IntKind.u8 0, Value.int IntKind.u8 0, Value.int IntKind.u8 0, Value.int IntKind.u8 0, Value.int IntKind.u8 0, Value.int IntKind.u8 0, Value.int IntKind.u8 0, Value.int IntKind.u8 0] 43)).heap[w.heap.size + 1]? = some (.cells #[Value.int IntKind.u8 0, Value.int IntKind.u8 0, Value.int IntKind.u8 0, Value.int IntKind.u8 0, Value.int IntKind.u8 0, Value.int IntKind.u8 0, Value.int IntKind.u8 0, Value.int IntKind.u8 0] 43 (0, 0)) := by
    have := heap_alloc_new (w.alloc (.cells #[Value.int IntKind.u8 0, Value.int IntKind.u8 0, Value.int IntKind.u8 0, Value.int IntKind.u8 0, Value.int IntKind.u8 0, Value.int IntKind.u8 0, Value.int IntKind.u8 0, Value.int IntKind.u8 0] 43)) (.cells #[Value.int IntKind.u8 0, Value.int IntKind.u8 0, Value.int IntKind.u8 0, Value.int IntKind.u8 0, Value.int IntKind.u8 0, Value.int IntKind.u8 0, Value.int IntKind.u8 0, Value.int IntKind.u8 0] 43)
    rw [World.size_alloc] at this
    exact this
  have r0' : ((w.alloc (.cells #[Value.int IntKind.u8 0, Value.int IntKind.u8 0, Value.int IntKind.u8 0, Value.int IntKind.u8 0, Value.int IntKind.u8 0, Value.int IntKind.u8 0, Value.int IntKind.u8 0, Value.int IntKind.u8 0] 43)).alloc (.cells #[Value.int IntKind.u8 0, Value.int IntKind.u8 0, Value.int IntKind.u8 0, Value.int IntKind.u8 0, Value.int IntKind.u8 0, Value.int IntKind.u8 0, Value.int IntKind.u8 0, Value.int IntKind.u8 0] 43)).heap[w.heap.size]? = some (.cells #[Value.int IntKind.u8 0, Value.int IntKind.u8 0, Value.int IntKind.u8 0, Value.int IntKind.u8 0, Value.int IntKind.u8 0, Value.int IntKind.u8 0, Value.int IntKind.u8 0, Value.int IntKind.u8 0] 43 (0, 0)) := (Below.heap_alloc _ _ _ (by simp)).trans (heap_alloc_new w _)
  have b0' : Below w.heap.size w ((w.alloc (.cells #[Value.int IntKind.u8 0, Value.int IntKind.u8 0, Value.int IntKind.u8 0, Value.int IntKind.u8 0, Value.int IntKind.u8 0, Value.int IntKind.u8 0, Value.int IntKind.u8 0, Value.int IntKind.u8 0] 43)).alloc (.cells #[Value.int IntKind.u8 0, Value.int IntKind.u8 0, Value.int IntKind.u8 0, Value.int IntKind.u8 0, Value.int IntKind.u8 0, Value.int IntKind.u8 0, Value.int IntKind.u8 0, Value.int IntKind.u8 0] 43)) := ((Below.refl _ _).alloc (Nat.le_refl _) _).alloc (by simp) _
  have R1 := Lib.hid r1'
  have R0 := Lib.hid r0'
  have B0 := Lib.hid b0'
  clear r1' r0' b0' hs
  have hlen : Hid (((be8 (hsum (strN s))).map bV).toArray.size = 8) := by simp [be8, Hid]
  have hone : Hid ((((be8 (hsum (strN s))).map bV).toArray).all (·.oneCell') = true) := bC_one _
  have HP : Hid (∀ (B : Nat) (wx : World), wx.heap[B]? = some (.cells #[Value.int IntKind.u8 0, Value.int IntKind.u8 0, Value.int IntKind.u8 0, Value.int IntKind.u8 0, Value.int IntKind.u8 0, Value.int IntKind.u8 0, Value.int IntKind.u8 0, Value.int IntKind.u8 0] 43 (0, 0)) → Calls Tryd.prog 50 #[.agg #[], .slice (some ⟨B, 0, none⟩) 8 8, .int .u64 (hsum (strN s) : Int)] wx fun e w' => (∃ v, e = .returned v) ∧ w'.heap[B]? = some (.cells ((be8 (hsum (strN s))).map bV).toArray 43 (0, 0)) ∧ Below B wx w') := fun B wx h => put64 B 43 _ wx h
  have i51 := Lib.hid i51'
  clear i51'
  generalize ((be8 (hsum (strN s))).map bV).toArray = C at *
  generalize hsum (strN s) = h at *
  go_enter Tryd.func34, Tryd.ntmps34
  go_wp2_with fail
  generalize (w.alloc (.cells #[Value.int IntKind.u8 0, Value.int IntKind.u8 0, Value.int IntKind.u8 0, Value.int IntKind.u8 0, Value.int IntKind.u8 0, Value.int IntKind.u8 0, Value.int IntKind.u8 0, Value.int IntKind.u8 0] 43)).alloc (.cells #[Value.int IntKind.u8 0, Value.int IntKind.u8 0, Value.int IntKind.u8 0, Value.int IntKind.u8 0, Value.int IntKind.u8 0, Value.int IntKind.u8 0, Value.int IntKind.u8 0, Value.int IntKind.u8 0] 43) = w1 at *
  refine wp_region_noPanic ?_
  refine wp_region_held_drew (S := fun _ => True) (by kernel_rfl) trivial (fun _ => ?_)
  have R1v : Hid (w1.drew.heap[w.heap.size + 1]? = some (.cells #[Value.int IntKind.u8 0, Value.int IntKind.u8 0, Value.int IntKind.u8 0, Value.int IntKind.u8 0, Value.int IntKind.u8 0, Value.int IntKind.u8 0, Value.int IntKind.u8 0, Value.int IntKind.u8 0] 43 (0, 0))) := R1.out
  have R0v : Hid (w1.drew.heap[w.heap.size]? = some (.cells #[Value.int IntKind.u8 0, Value.int IntKind.u8 0, Value.int IntKind.u8 0, Value.int IntKind.u8 0, Value.int IntKind.u8 0, Value.int IntKind.u8 0, Value.int IntKind.u8 0, Value.int IntKind.u8 0] 43 (0, 0))) := R0.out
  have Bv : Hid (Below w.heap.size w w1.drew) := B0.out.drew
  clear R1 R0 B0
  generalize w1.drew = v0 at *
  refine take_val 0 (.agg #[]) rfl (by kernel_rfl) (by kernel_rfl) (by kernel_rfl) (fun _ _ _ _ h => h) (by rfl) rfl (fun w _ => by go_simp) trivial ?_
  try simp only [List.set_cons_zero, List.set_cons_succ]
  refine take_val 1 (.slice (some ⟨w.heap.size + 1, 0, none⟩) 8 8) rfl (by kernel_rfl) (by kernel_rfl) (by kernel_rfl) (fun _ _ _ _ h => h) (by rfl) rfl (fun w _ => by go_simp) trivial ?_
  try simp only [List.set_cons_zero, List.set_cons_succ]
  refine take_val 2 (.string s) rfl (by kernel_rfl) (by kernel_rfl) (by kernel_rfl) (fun _ _ _ _ h => h) (by rfl) rfl (fun w _ => by go_simp) trivial ?_
  try simp only [List.set_cons_zero, List.set_cons_succ]
  refine one_ready 3 (by kernel_rfl) rfl (by rfl) (fun K hK => ?_)
  go_simp
  refine (HC.out _).mono ?_
  rintro e v1 ⟨rfl, hb1⟩
  go_wp2_with fail
  refine hK.out _ _ trivial ?_
  clear hK K
  try simp only [Act.put, List.setIfInBounds_toArray, List.set_cons_zero, List.set_cons_succ]
  have R1w := Lib.hid ((hb1.block _ (lt_of_block R1v.out)).trans R1v.out)
  have R0w := Lib.hid ((hb1.block _ (lt_of_block R0v.out)).trans R0v.out)
  have Bw := Lib.hid (Below.step Bv.out hb1)
  clear R1v R0v Bv hb1
  refine one_ready 4 (by kernel_rfl) rfl (by rfl) (fun K hK => ?_)
  go_simp
  refine (HP.out _ _ R1w.out).mono ?_
  rintro e v2 ⟨⟨vv, rfl⟩, hr2, hb2⟩
  go_wp2_with fail
  refine hK.out _ _ trivial ?_
  clear hK K
  try simp only [Act.put, List.setIfInBounds_toArray, List.set_cons_zero, List.set_cons_succ]
  have R1x := Lib.hid hr2
  have R0x := Lib.hid ((hb2.block w.heap.size (Nat.lt_succ_self _)).trans R0w.out)
  have Bx : Hid (Below w.heap.size w v2) := Below.trans Bw.out (hb2.mono (Nat.le_succ _))
  clear R1w R0w Bw hr2 hb2
  refine wpAnyH_done (by kernel_rfl) ?_ _
  refine NoPanic.normal ?_
  have hth : Hid (v2.there w.heap.size 0 C.size) := by
    rw [hlen.out]
    intro j hj
    rw [Nat.zero_add, cell_of_row _ _ _ _ _ _ R0x.out, Array.getElem?_eq_getElem hj]
    exact ⟨rfl, frozen_of_row _ _ _ _ _ R0x.out⟩
  have ic : Hid ((Tryd.prog.info? 43).map (·.size) = some C.size) := by rw [hlen.out]; exact i51.out
  go_wp2_with (first
    | (with_reducible refine wpList_load_row rfl 43 (.tmp 3) rfl (w.heap.size + 1) rfl 43 C (0, 0) _ R1x.out Tryd.underlying43 rfl ?_ ?_; exact ic.out)
    | (with_reducible refine wpList_store_mid rfl 43 (.tmp 2) (.tmp 9) rfl w.heap.size 0 C rfl rfl hth.out ic.out hone.out ?_))
  exact bodyPost_ret (v := .agg C) (results_cell_row (p := 2) (ty := 43) rfl _ _ w.heap.size 43 C (0, 0) _ rfl (setCells_full R0x.out _ (by rw [hlen.out]; rfl)) Tryd.underlying43 rfl ic.out) rfl ⟨rfl, below_setCells (Nat.le_refl _) _ _ Bx.out⟩
end Go.Proofs.YtpfmfigommmjiaaDoor
