/- BloomNever: its walk. -/
import Derived.Test.YthfjonicolhjnaaIds
import Derived.Test.YthfjonicolhjnaaBloomPlain2
import Derived.Test.YthfjonicolhjnaaStoreNew
namespace Go.Proofs.Ythfjonicolhjnaa
open Go.RowKit Plain
theorem addl_any (l a : List Nat) (w : World) (hl : IsB l) (ha : a.length = 8) (hb : ∀ c ∈ a, c < 256) : Calls Try.prog 14 #[.agg (uC l), .agg (idC a)] w fun e w' => e = .returned (.agg (uC (addl l a))) ∧ Below w.heap.size w w' := add_any l a w hl ha hb
theorem hasl_any (l a : List Nat) (w : World) (hl : IsB l) (ha : a.length = 8) (hb : ∀ c ∈ a, c < 256) : Calls Try.prog 15 #[.agg (uC l), .agg (idC a)] w fun e w' => e = .returned (.bool (hasl l a)) ∧ Below w.heap.size w w' := has_any l a w hl ha hb
set_option maxRecDepth 100000 in
set_option maxHeartbeats 4000000 in
theorem bloomNever_any (l : List Nat) (a : Option Addr) (ids : List (List Nat)) (cap : Nat) (w : World) (hl : IsB l) (hn : ids.length ≤ 9223372036854775807) (hids : ∀ x ∈ ids, x.length = 8 ∧ ∀ c ∈ x, c < 256)
    (hrow : ids = [] ∨ ∃ b off, a = some ⟨b, off, none⟩ ∧ b < w.heap.size ∧ ∀ k (h : k < ids.length), w.rangeAt b (off + k * 8) (ids[k].map bV)) :
    Calls Try.prog 3 #[.agg (uC l), .slice a ids.length cap] w fun e w' => e = .returned (.bool true) ∧ Below w.heap.size w w' := by
  have i24' : (Try.prog.info? 24).map (·.size) = some 16 := by kernel_rfl
  have i24 := Lib.hid i24'
  have i27' : (Try.prog.info? 27).map (·.size) = some 8 := by kernel_rfl
  have i27 := Lib.hid i27'
  have HN := Lib.hid hn
  have HL := Lib.hid hl
  have HIDS := Lib.hid hids
  have HROW := Lib.hid hrow
  have sl : Hid ((uC l).size = 16) := by rw [uC_size]; exact hl.1
  have ONE := Lib.hid (uC_one l)
  have z16 : Hid ((uC l).size = (#[Value.int IntKind.u64 0, Value.int IntKind.u64 0, Value.int IntKind.u64 0, Value.int IntKind.u64 0, Value.int IntKind.u64 0, Value.int IntKind.u64 0, Value.int IntKind.u64 0, Value.int IntKind.u64 0, Value.int IntKind.u64 0, Value.int IntKind.u64 0, Value.int IntKind.u64 0, Value.int IntKind.u64 0, Value.int IntKind.u64 0, Value.int IntKind.u64 0, Value.int IntKind.u64 0, Value.int IntKind.u64 0] : Array Value).size) := sl
  clear hl hn hids hrow i24' i27'
  have r0 := Lib.hid (heap_alloc_new w (.cells (uC l) 24))
  go_enter Try.func3, Try.ntmps3
  go_wp2_with (first
    | (with_reducible refine wpList_store_new rfl 24 (.tmp 5) (.tmp 10) rfl (w.heap.size + 1) (uC l) rfl rfl ?_ ?_ ONE.out ?_ ?_; (exact z16.out); (rw [sl.out]; exact i24.out); (simp only [World.size_alloc]))
    | (with_reducible refine wpList_load_row rfl 24 (.tmp 2) rfl w.heap.size rfl 24 (uC l) (0, 0) _ r0.out Try.underlying24 rfl ?_ ?_; (rw [sl.out]; exact i24.out)))
  have r1 : Hid (((w.alloc (.cells (uC l) 24)).alloc (.cells (uC l) 24)).heap[w.heap.size + 1]? = some (.cells (uC l) 24 (0, 0))) := by
    have := heap_alloc_new (w.alloc (.cells (uC l) 24)) (.cells (uC l) 24)
    rw [World.size_alloc] at this
    exact this
  have r2 : Hid (((w.alloc (.cells (uC l) 24)).alloc (.cells (uC l) 24)).heap[w.heap.size]? = some (.cells (uC l) 24 (0, 0))) := (Below.heap_alloc (w.alloc (.cells (uC l) 24)) _ _ (by simp)).trans r0.out
  have b0 : Hid (Below w.heap.size w ((w.alloc (.cells (uC l) 24)).alloc (.cells (uC l) 24))) := ((Below.refl _ _).alloc (Nat.le_refl _) _).alloc (by simp) _
  clear r0 z16
  generalize (w.alloc (.cells (uC l) 24)).alloc (.cells (uC l) 24) = w1 at *
  have N64 : (ids.length : Int) ≤ 9223372036854775807 := by have := HN.out; omega
  go_loopw [13] (fun i wr => ∃ k : Nat, k ≤ ids.length ∧ wr.heap[w.heap.size]? = some (.cells (uC l) 24 (0, 0)) ∧ wr.heap[w.heap.size + 1]? = some (.cells (uC ((ids.take k).foldl addl l)) 24 (0, 0)) ∧ Below w.heap.size w wr ∧ i = .int .i64 k) (fun i _ => ids.length - (intOf i).toNat)
  case atStart => exact ⟨0, Nat.zero_le _, r2.out, r1.out, b0.out, rfl⟩
  case round =>
    obtain ⟨k, hk, h0, h1, hbl, rfl⟩ := hrel
    have R0 := Lib.hid h0
    have R1 := Lib.hid h1
    have BLW := Lib.hid hbl
    clear h0 h1 hbl r1 r2 b0
    by_cases hlt : k < ids.length
    · obtain ⟨hx8, hx256⟩ := HIDS.out _ (List.getElem_mem hlt)
      have hstep : (ids.take (k + 1)).foldl addl l = addl ((ids.take k).foldl addl l) ids[k] := by
        rw [List.take_succ_eq_append_getElem hlt, List.foldl_append]; rfl
      have hacc : IsB ((ids.take k).foldl addl l) := fold_ok HL.out _
      have hr0 := HROW.out
      rcases hr0 with rfl | ⟨b, off, rfl, hb, hr⟩
      · simp at hlt
      have hrng : Hid (wr.rangeAt b (off + k * 8) (idC ids[k]).toList) := fun j v hv => by
        rw [BLW.out.cell (p := ⟨b, _, none⟩) hb]
        exact hr k hlt j v hv
      clear hr
      generalize ids[k] = x at *
      have HX8 := Lib.hid hx8
      have HX := Lib.hid hx256
      have HST := Lib.hid hstep
      generalize hac : (ids.take k).foldl addl l = acc at *
      have HACC := Lib.hid hacc
      have sx : Hid ((idC x).size = 8) := by simp [idC, hx8, Hid]
      have sxl : Hid ((idC x).toList.length = 8) := by simp [idC, hx8, Hid]
      have sa : Hid ((uC acc).size = 16) := by rw [uC_size]; exact hacc.1
      have ONEX : Hid ((idC x).all (·.oneCell') = true) := bC_one x
      have z8 : Hid ((idC x).size = (#[Value.int IntKind.u8 0, Value.int IntKind.u8 0, Value.int IntKind.u8 0, Value.int IntKind.u8 0, Value.int IntKind.u8 0, Value.int IntKind.u8 0, Value.int IntKind.u8 0, Value.int IntKind.u8 0] : Array Value).size) := sx
      have RX := Lib.hid (heap_alloc_new wr (.cells (idC x) 27))
      have RC := Lib.hid ((Below.heap_alloc wr (.cells (idC x) 27) _ (lt_of_block R1.out)).trans R1.out)
      have RL := Lib.hid ((Below.heap_alloc wr (.cells (idC x) 27) _ (lt_of_block R0.out)).trans R0.out)
      have BN := Lib.hid (BLW.out.alloc (Nat.le_of_lt (lt_of_block R0.out)) (.cells (idC x) 27))
      have kk : (k : Int) < (ids.length : Int) := by omega
      have k0 : (0 : Int) ≤ (k : Int) := Int.natCast_nonneg _
      clear hx8 hx256 hstep hacc hac R0 R1 BLW hb
      go_wp2_with (first
        | (with_reducible refine wpList_load_mid rfl 27 (.tmp 15) rfl b (off + k * 8) rfl (idC x).toList _ hrng.out Try.underlying27 rfl ?_ ?_; (rw [sxl.out]; exact i27.out))
        | (with_reducible refine wpList_store_new rfl 27 (.tmp 7) (.tmp 16) rfl wr.heap.size (idC x) rfl rfl ?_ ?_ ONEX.out rfl ?_; (exact z8.out); (rw [sx.out]; exact i27.out))
        | (with_reducible refine wpList_load_row rfl 24 (.tmp 5) rfl (w.heap.size + 1) rfl 24 (uC acc) (0, 0) _ RC.out Try.underlying24 rfl ?_ ?_; (rw [sa.out]; exact i24.out))
        | (with_reducible refine wpList_load_row rfl 27 (.tmp 7) rfl wr.heap.size rfl 27 (idC x) (0, 0) _ RX.out Try.underlying27 rfl ?_ ?_; (rw [sx.out]; exact i27.out)))
      generalize wr.alloc (.cells (idC x) 27) = w2 at *
      refine (addl_any acc x w2 HACC.out HX8.out HX.out).mono ?_
      rintro e w3 ⟨rfl, hb3⟩
      have R0n := (hb3.block _ (lt_of_block RL.out)).trans RL.out
      have R1n := (hb3.block _ (lt_of_block RC.out)).trans RC.out
      have BL3 := Below.step BN.out hb3
      have iac := addl_ok HACC.out x
      have sn : Hid ((uC (addl acc x)).size = 16) := by rw [uC_size]; exact iac.1
      have ONEN := Lib.hid (uC_one (addl acc x))
      have u1 : URow w3 24 (w.heap.size + 1) acc := R1n
      have HTH : Hid (w3.there (w.heap.size + 1) 0 16) := by have := u1.there; rw [HACC.out.1] at this; exact this
      have R1m : Hid ((w3.setCells (w.heap.size + 1) 0 (uC (addl acc x)).toList).heap[w.heap.size + 1]? = some (.cells (uC (addl acc x)) 24 (0, 0))) := setCells_full R1n _ (by rw [sn.out, sa.out])
      have R0m : Hid ((w3.setCells (w.heap.size + 1) 0 (uC (addl acc x)).toList).heap[w.heap.size]? = some (.cells (uC l) 24 (0, 0))) := (heap_setCells_other _ _ (by omega) _ _ _).trans R0n
      have BLm : Hid (Below w.heap.size w (w3.setCells (w.heap.size + 1) 0 (uC (addl acc x)).toList)) := below_setCells (by omega) _ _ BL3
      clear R0n R1n BL3 u1 iac hb3 RX RC RL BN
      go_wp2_with (first
        | (with_reducible refine wpList_store_mid rfl 24 (.tmp 5) (.tmp 19) rfl (w.heap.size + 1) 0 (uC (addl acc x)) rfl rfl ?_ ?_ ONEN.out ?_; (rw [sn.out]; exact HTH.out); (rw [sn.out]; exact i24.out)))
      go_roundw
      case rel => exact ⟨k + 1, by omega, R0m.out, by rw [HST.out]; exact R1m.out, BLm.out, by go_num⟩
      case measure => simp [intOf]; omega
    · obtain rfl : k = ids.length := by omega
      have hc : (ids.take ids.length).foldl addl l = ids.foldl addl l := by rw [List.take_length]
      rw [hc] at R1
      have hcok : IsB (ids.foldl addl l) := fold_ok HL.out _
      have HAS : Hid (∀ x ∈ ids, hasl (ids.foldl addl l) x = true) := fun x hx => hasl_mem x ids HL.out hx
      have HJ : Hid (bjoin l (ids.foldl addl l) = ids.foldl addl l) := join_fold HL.out ids
      clear hc
      generalize hcc : ids.foldl addl l = c at *
      clear hcc
      have HC := Lib.hid hcok
      clear hcok hlt hk
      go_wp2
      have sc : Hid ((uC c).size = 16) := by rw [uC_size]; exact HC.out.1
      obtain ⟨w5, hw5⟩ : ∃ w5 : World, w5 = wr := ⟨_, rfl⟩
      rw [← hw5]
      rw [← hw5] at R0 R1 BLW
      clear hw5
      go_loopw [23] (fun i wr => ∃ k : Nat, k ≤ ids.length ∧ wr.heap[w.heap.size]? = some (.cells (uC l) 24 (0, 0)) ∧ wr.heap[w.heap.size + 1]? = some (.cells (uC c) 24 (0, 0)) ∧ Below w.heap.size w wr ∧ i = .int .i64 k) (fun i _ => ids.length - (intOf i).toNat)
      case atStart => exact ⟨0, Nat.zero_le _, R0.out, R1.out, BLW.out, rfl⟩
      case round =>
        obtain ⟨k, hk, h0, h1, hbl, rfl⟩ := hrel
        clear R0 R1 BLW
        have R0 := Lib.hid h0
        have R1 := Lib.hid h1
        have BLW := Lib.hid hbl
        clear h0 h1 hbl
        by_cases hlt : k < ids.length
        · obtain ⟨hx8, hx256⟩ := HIDS.out _ (List.getElem_mem hlt)
          have hhas := HAS.out _ (List.getElem_mem hlt)
          have hr0 := HROW.out
          rcases hr0 with rfl | ⟨b, off, rfl, hb, hr⟩
          · simp at hlt
          have hrng : Hid (wr.rangeAt b (off + k * 8) (idC ids[k]).toList) := fun j v hv => by
            rw [BLW.out.cell (p := ⟨b, _, none⟩) hb]
            exact hr k hlt j v hv
          clear hr
          generalize ids[k] = x at *
          have HX8 := Lib.hid hx8
          have HX := Lib.hid hx256
          have HHAS := Lib.hid hhas
          have sx : Hid ((idC x).size = 8) := by simp [idC, hx8, Hid]
          have sxl : Hid ((idC x).toList.length = 8) := by simp [idC, hx8, Hid]
          have ONEX : Hid ((idC x).all (·.oneCell') = true) := bC_one x
          have z8 : Hid ((idC x).size = (#[Value.int IntKind.u8 0, Value.int IntKind.u8 0, Value.int IntKind.u8 0, Value.int IntKind.u8 0, Value.int IntKind.u8 0, Value.int IntKind.u8 0, Value.int IntKind.u8 0, Value.int IntKind.u8 0] : Array Value).size) := sx
          have RX := Lib.hid (heap_alloc_new wr (.cells (idC x) 27))
          have RC := Lib.hid ((Below.heap_alloc wr (.cells (idC x) 27) _ (lt_of_block R1.out)).trans R1.out)
          have RL := Lib.hid ((Below.heap_alloc wr (.cells (idC x) 27) _ (lt_of_block R0.out)).trans R0.out)
          have BN := Lib.hid (BLW.out.alloc (Nat.le_of_lt (lt_of_block R0.out)) (.cells (idC x) 27))
          have kk : (k : Int) < (ids.length : Int) := by omega
          have k0 : (0 : Int) ≤ (k : Int) := Int.natCast_nonneg _
          clear hx8 hx256 hhas R0 R1 BLW hb
          go_wp2_with (first
            | (with_reducible refine wpList_load_mid rfl 27 (.tmp 25) rfl b (off + k * 8) rfl (idC x).toList _ hrng.out Try.underlying27 rfl ?_ ?_; (rw [sxl.out]; exact i27.out))
            | (with_reducible refine wpList_store_new rfl 27 (.tmp 9) (.tmp 26) rfl wr.heap.size (idC x) rfl rfl ?_ ?_ ONEX.out rfl ?_; (exact z8.out); (rw [sx.out]; exact i27.out))
            | (with_reducible refine wpList_load_row rfl 24 (.tmp 5) rfl (w.heap.size + 1) rfl 24 (uC c) (0, 0) _ RC.out Try.underlying24 rfl ?_ ?_; (rw [sc.out]; exact i24.out))
            | (with_reducible refine wpList_load_row rfl 27 (.tmp 9) rfl wr.heap.size rfl 27 (idC x) (0, 0) _ RX.out Try.underlying27 rfl ?_ ?_; (rw [sx.out]; exact i27.out)))
          generalize wr.alloc (.cells (idC x) 27) = w2 at *
          refine (hasl_any c x w2 HC.out HX8.out HX.out).mono ?_
          rintro e w3 ⟨rfl, hb3⟩
          rw [HHAS.out]
          have R0n := Lib.hid ((hb3.block _ (lt_of_block RL.out)).trans RL.out)
          have R1n := Lib.hid ((hb3.block _ (lt_of_block RC.out)).trans RC.out)
          have BL3 := Lib.hid (Below.step BN.out hb3)
          clear hb3 RX RC RL BN
          go_wp2
          go_roundw
          case rel => exact ⟨k + 1, by omega, R0n.out, R1n.out, BL3.out, by go_num⟩
          case measure => simp [intOf]; omega
        · obtain rfl : k = ids.length := by omega
          clear hlt hk
          go_wp2_with fail
          have hSall : ∀ w', Below wr.heap.size wr w' → (w'.rangeAt w.heap.size 0 (uC l).toList ∧ w'.rangeAt (w.heap.size + 1) 0 (uC c).toList ∧ Below wr.heap.size wr w') := by
            intro w' hb
            have go : ∀ (B : Nat) (t : TypeId) (cs : Array Value), wr.heap[B]? = some (.cells cs t (0, 0)) → w'.rangeAt B 0 cs.toList := by
              intro B t cs hB j v hv
              rw [cell_of_row _ _ _ _ _ _ ((hb.block B (lt_of_block hB)).trans hB)]
              simpa using hv
            exact ⟨go _ _ _ R0.out, go _ _ _ R1.out, hb⟩
          have HS := Lib.hid hSall
          clear hSall R0 R1
          have hu := Try.underlying24
          have hil : (Try.prog.info? 24).map (·.size) = some (uC l).toList.length := by rw [Array.length_toList, sl.out]; exact i24.out
          have hic : (Try.prog.info? 24).map (·.size) = some (uC c).toList.length := by rw [Array.length_toList, sc.out]; exact i24.out
          have HAB : Hid (∀ y ∈ [5, 0, 0, 0, 0, 0, 0, 0], y < 256) := by intro y hy; simp at hy; omega
          refine wp_region_noPanic ?_
          refine wp_region_held_drew (S := fun w' => (w'.rangeAt w.heap.size 0 (uC l).toList ∧ w'.rangeAt (w.heap.size + 1) 0 (uC c).toList ∧ Below wr.heap.size wr w')) (by kernel_rfl) (HS.out _ (Below.drew (Below.refl _ _))) (fun _ => ?_)
          have HH0 := Lib.hid (Below.drew (Below.refl wr.heap.size wr))
          generalize wr.drew = v0 at *
          refine take_val 0 (.agg (uC (List.replicate 16 0))) rfl (by kernel_rfl) (by kernel_rfl) (by kernel_rfl) (fun _ _ _ _ h => h) (by rfl) rfl (fun w _ => by first | (go_simp; done) | (go_simp; rfl) | rfl) (HS.out _ HH0.out) ?_
          try simp only [List.set_cons_zero, List.set_cons_succ]
          refine take_val 1 (.agg (idC [5, 0, 0, 0, 0, 0, 0, 0])) rfl (by kernel_rfl) (by kernel_rfl) (by kernel_rfl) (fun _ _ _ _ h => h) (by rfl) rfl (fun w _ => by first | (go_simp; done) | (go_simp; rfl) | rfl) (HS.out _ HH0.out) ?_
          try simp only [List.set_cons_zero, List.set_cons_succ]
          refine one_ready 2 (by kernel_rfl) rfl (by rfl) (fun K hK => ?_)
          go_simp
          refine (hasl_any (List.replicate 16 0) [5, 0, 0, 0, 0, 0, 0, 0] v0 zeros_ok rfl HAB.out).mono ?_
          rintro e v1 ⟨rfl, hb⟩
          rw [hasl_zeros]
          go_wp2_with fail
          refine hK.out _ _ (HS.out _ (Below.step HH0.out hb)) ?_
          clear hK K
          try simp only [Act.put, List.setIfInBounds_toArray, List.set_cons_zero, List.set_cons_succ]
          have HH2 := Lib.hid (Below.step HH0.out hb)
          clear hb HH0
          refine take_val 3 (.bool true) rfl (by kernel_rfl) (by kernel_rfl) (by kernel_rfl) (fun _ _ _ _ h => h) (by rfl) rfl (fun w _ => by go_simp) (HS.out _ HH2.out) ?_
          try simp only [List.set_cons_zero, List.set_cons_succ]
          refine take_val 4 (.bool true) rfl (by kernel_rfl) (by kernel_rfl) (by kernel_rfl) (fun _ _ _ _ h => h) (by rfl) rfl (fun w _ => by go_simp) (HS.out _ HH2.out) ?_
          try simp only [List.set_cons_zero, List.set_cons_succ]
          refine take_row 5 rfl (by kernel_rfl) (by kernel_rfl) (by kernel_rfl) (fun _ _ _ _ h => h) (by rfl) rfl rfl rfl (fun _ hSw => hSw.1) hu rfl hil (HS.out _ HH2.out) ?_
          try simp only [List.set_cons_zero, List.set_cons_succ]
          refine take_row 6 rfl (by kernel_rfl) (by kernel_rfl) (by kernel_rfl) (fun _ _ _ _ h => h) (by rfl) rfl rfl rfl (fun _ hSw => hSw.2.1) hu rfl hic (HS.out _ HH2.out) ?_
          try simp only [List.set_cons_zero, List.set_cons_succ]
          refine take_row 9 rfl (by kernel_rfl) (by kernel_rfl) (by kernel_rfl) (fun _ _ _ _ h => h) (by rfl) rfl rfl rfl (fun _ hSw => hSw.2.1) hu rfl hic (HS.out _ HH2.out) ?_
          try simp only [List.set_cons_zero, List.set_cons_succ]
          refine one_ready 7 (by kernel_rfl) rfl (by rfl) (fun K hK => ?_)
          refine wp_bs2 _ _ rfl l c (by rfl) (by rfl) HL.out HC.out ?_
          rw [put_eq rfl]
          try simp only [List.set_cons_zero, List.set_cons_succ]
          refine hK.out _ _ (HS.out _ (Below.alloc HH2.out (Below.size HH2.out) _)) ?_
          clear hK K
          have HH4 := Lib.hid (Below.alloc HH2.out (Below.size HH2.out) (Obj.cells (uC (l ++ c)) 24))
          have HB6 := Lib.hid (heap_alloc_new v1 (Obj.cells (uC (l ++ c)) 24))
          clear HH2
          generalize v1.alloc (Obj.cells (uC (l ++ c)) 24) = v3 at *
          generalize v1.heap.size = b5 at *
          refine one_ready 8 (by kernel_rfl) rfl (by rfl) (fun K hK => ?_)
          go_simp
          refine (join2 l c _ _ v3 HL.out HC.out HB6.out).mono ?_
          rintro e v7 ⟨rfl, hb⟩
          go_wp2_with fail
          refine hK.out _ _ (HS.out _ (Below.step HH4.out hb)) ?_
          clear hK K
          try simp only [Act.put, List.setIfInBounds_toArray, List.set_cons_zero, List.set_cons_succ]
          have HH8 := Lib.hid (Below.step HH4.out hb)
          clear hb HH4 HB6
          refine take_val 10 (.bool true) rfl (by kernel_rfl) (by kernel_rfl) (by kernel_rfl) (fun _ _ _ _ h => h) (by rfl) rfl (fun w _ => val_eqB _ _ _ rfl (bjoin l c) c rfl rfl (bjoin_ok HL.out HC.out) HC.out HJ.out _) (HS.out _ HH8.out) ?_
          try simp only [List.set_cons_zero, List.set_cons_succ]
          refine take_val 11 (.bool true) rfl (by kernel_rfl) (by kernel_rfl) (by kernel_rfl) (fun _ _ _ _ h => h) (by rfl) rfl (fun w _ => by go_simp) (HS.out _ HH8.out) ?_
          try simp only [List.set_cons_zero, List.set_cons_succ]
          refine take_val 12 (.bool true) rfl (by kernel_rfl) (by kernel_rfl) (by kernel_rfl) (fun _ _ _ _ h => h) (by rfl) rfl (fun w _ => by go_simp) (HS.out _ HH8.out) ?_
          try simp only [List.set_cons_zero, List.set_cons_succ]
          refine wpAnyH_done (by kernel_rfl) ?_ _
          refine NoPanic.normal ?_
          go_wp2_with fail
          try go_ret
          exact ⟨rfl, Below.step BLW.out HH8.out⟩
end Go.Proofs.Ythfjonicolhjnaa

