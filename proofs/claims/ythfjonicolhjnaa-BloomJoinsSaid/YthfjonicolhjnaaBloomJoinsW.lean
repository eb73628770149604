/- BloomJoins: its walk. -/
import Derived.Test.YthfjonicolhjnaaBloomJoinsT
namespace Go.Proofs.Ythfjonicolhjnaa
open Go.RowKit Plain
set_option maxRecDepth 100000 in
set_option maxHeartbeats 40000000 in
theorem bloomJoins_any (l m k a : List Nat) (w : World) (hl : IsB l) (hm : IsB m) (hk : IsB k) (ha : a.length = 8) (hab : ∀ c ∈ a, c < 256) : Calls Try.prog 4 #[.agg (uC l), .agg (uC m), .agg (uC k), .agg (idC a)] w fun e w' => e = .returned (.bool true) ∧ Below w.heap.size w w' := by
  have i24' : (Try.prog.info? 24).map (·.size) = some 16 := by kernel_rfl
  have i24 := Lib.hid i24'
  have i27' : (Try.prog.info? 27).map (·.size) = some 8 := by kernel_rfl
  have i27 := Lib.hid i27'
  have HL := Lib.hid hl
  have HM := Lib.hid hm
  have HK := Lib.hid hk
  have HA := Lib.hid ha
  have HAB := Lib.hid hab
  have sl : Hid ((uC l).size = 16) := by rw [uC_size]; exact hl.1
  have sm : Hid ((uC m).size = 16) := by rw [uC_size]; exact hm.1
  have sk : Hid ((uC k).size = 16) := by rw [uC_size]; exact hk.1
  have sa' : (idC a).size = 8 := by simp [idC, ha]
  have sa := Lib.hid sa'
  clear sa'
  clear hl hm hk ha hab i24' i27'
  have rl := (((URow.new w 24 l).alloc (.cells (uC m) 24)).alloc (.cells (uC k) 24)).alloc (.cells (idC a) 27)
  have rm := ((URow.new (w.alloc (.cells (uC l) 24)) 24 m).alloc (.cells (uC k) 24)).alloc (.cells (idC a) 27)
  have rk := (URow.new ((w.alloc (.cells (uC l) 24)).alloc (.cells (uC m) 24)) 24 k).alloc (.cells (idC a) 27)
  have ra := heap_alloc_new (((w.alloc (.cells (uC l) 24)).alloc (.cells (uC m) 24)).alloc (.cells (uC k) 24)) (.cells (idC a) 27)
  have b0 : Below w.heap.size w ((((w.alloc (.cells (uC l) 24)).alloc (.cells (uC m) 24)).alloc (.cells (uC k) 24)).alloc (.cells (idC a) 27)) := ((((Below.refl _ _).alloc (Nat.le_refl _) _).alloc (by simp) _).alloc (by simp; omega) _).alloc (by simp; omega) _
  simp only [World.size_alloc] at rm rk ra
  have RL : Hid (((((w.alloc (.cells (uC l) 24)).alloc (.cells (uC m) 24)).alloc (.cells (uC k) 24)).alloc (.cells (idC a) 27)).heap[w.heap.size]? = some (.cells (uC l) 24 (0, 0))) := rl
  have RM : Hid (((((w.alloc (.cells (uC l) 24)).alloc (.cells (uC m) 24)).alloc (.cells (uC k) 24)).alloc (.cells (idC a) 27)).heap[w.heap.size + 1]? = some (.cells (uC m) 24 (0, 0))) := rm
  have RK : Hid (((((w.alloc (.cells (uC l) 24)).alloc (.cells (uC m) 24)).alloc (.cells (uC k) 24)).alloc (.cells (idC a) 27)).heap[w.heap.size + 1 + 1]? = some (.cells (uC k) 24 (0, 0))) := rk
  have RA := Lib.hid ra
  have B0 := Lib.hid b0
  clear rl rm rk ra b0
  go_enter Try.func4, Try.ntmps4
  go_wp2_with (first
    | (with_reducible refine wpList_load_row rfl 24 (.tmp 4) rfl w.heap.size rfl 24 (uC l) (0, 0) _ RL.out Try.underlying24 rfl ?_ ?_; (rw [sl.out]; exact i24.out))
    | (with_reducible refine wpList_load_row rfl 24 (.tmp 5) rfl (w.heap.size + 1) rfl 24 (uC m) (0, 0) _ RM.out Try.underlying24 rfl ?_ ?_; (rw [sm.out]; exact i24.out))
    | (with_reducible refine wpList_bs2 rfl (.tmp 12) (.tmp 13) rfl l m rfl rfl HL.out HM.out ?_))
  have BJ1 : Hid (((((((w.alloc (.cells (uC l) 24)).alloc (.cells (uC m) 24)).alloc (.cells (uC k) 24)).alloc (.cells (idC a) 27)).alloc (.cells (uC (l ++ m)) 24))).heap[w.heap.size + 1 + 1 + 1 + 1]? = some (.cells (uC (l ++ m)) 24 (0, 0))) := by
    have := heap_alloc_new ((((w.alloc (.cells (uC l) 24)).alloc (.cells (uC m) 24)).alloc (.cells (uC k) 24)).alloc (.cells (idC a) 27)) (.cells (uC (l ++ m)) 24)
    simp only [World.size_alloc] at this
    exact this
  have hsz4 : ((((w.alloc (.cells (uC l) 24)).alloc (.cells (uC m) 24)).alloc (.cells (uC k) 24)).alloc (.cells (idC a) 27)).heap.size = w.heap.size + 4 := by simp
  generalize (((w.alloc (.cells (uC l) 24)).alloc (.cells (uC m) 24)).alloc (.cells (uC k) 24)).alloc (.cells (idC a) 27) = w4 at *
  refine (join2 l m _ _ _ HL.out HM.out BJ1.out).mono ?_
  rintro e w5 ⟨rfl, hb⟩
  have hb5 : Below w4.heap.size w4 w5 := Below.step ((Below.refl _ _).alloc (Nat.le_refl _) _) hb
  obtain ⟨lm, hlm⟩ : ∃ x, x = bjoin l m := ⟨_, rfl⟩
  have ilm : IsB lm := hlm ▸ bjoin_ok HL.out HM.out
  rw [← hlm]
  have ELM := Lib.hid hlm
  have ILM := Lib.hid ilm
  have slm : Hid ((uC lm).size = 16) := by rw [uC_size]; exact ilm.1
  have ONE := Lib.hid (uC_one lm)
  have RL5 := Lib.hid ((hb5.block _ (lt_of_block RL.out)).trans RL.out)
  have RM5 := Lib.hid ((hb5.block _ (lt_of_block RM.out)).trans RM.out)
  have RK5 := Lib.hid ((hb5.block _ (lt_of_block RK.out)).trans RK.out)
  have RA5 := Lib.hid ((hb5.block _ (lt_of_block RA.out)).trans RA.out)
  have sz5 : Hid (w.heap.size + 4 < w5.heap.size) := by
    have := hb.size
    rw [World.size_alloc, hsz4] at this
    show w.heap.size + 4 < w5.heap.size
    omega
  have B5 : Hid (Below w.heap.size w w5) := Below.step B0.out hb5
  clear hb hb5 BJ1 RL RM RK RA B0 hlm ilm hsz4
  have hnew : URow (w5.alloc (.cells #[Value.int IntKind.u64 0, Value.int IntKind.u64 0, Value.int IntKind.u64 0, Value.int IntKind.u64 0, Value.int IntKind.u64 0, Value.int IntKind.u64 0, Value.int IntKind.u64 0, Value.int IntKind.u64 0, Value.int IntKind.u64 0, Value.int IntKind.u64 0, Value.int IntKind.u64 0, Value.int IntKind.u64 0, Value.int IntKind.u64 0, Value.int IntKind.u64 0, Value.int IntKind.u64 0, Value.int IntKind.u64 0] 24)) 24 w5.heap.size (List.replicate 16 0) := URow.new w5 24 (List.replicate 16 0)
  have HTH : Hid ((w5.alloc (.cells #[Value.int IntKind.u64 0, Value.int IntKind.u64 0, Value.int IntKind.u64 0, Value.int IntKind.u64 0, Value.int IntKind.u64 0, Value.int IntKind.u64 0, Value.int IntKind.u64 0, Value.int IntKind.u64 0, Value.int IntKind.u64 0, Value.int IntKind.u64 0, Value.int IntKind.u64 0, Value.int IntKind.u64 0, Value.int IntKind.u64 0, Value.int IntKind.u64 0, Value.int IntKind.u64 0, Value.int IntKind.u64 0] 24)).there w5.heap.size 0 16) := hnew.there
  have RLM6 : Hid (((w5.alloc (.cells #[Value.int IntKind.u64 0, Value.int IntKind.u64 0, Value.int IntKind.u64 0, Value.int IntKind.u64 0, Value.int IntKind.u64 0, Value.int IntKind.u64 0, Value.int IntKind.u64 0, Value.int IntKind.u64 0, Value.int IntKind.u64 0, Value.int IntKind.u64 0, Value.int IntKind.u64 0, Value.int IntKind.u64 0, Value.int IntKind.u64 0, Value.int IntKind.u64 0, Value.int IntKind.u64 0, Value.int IntKind.u64 0] 24)).setCells w5.heap.size 0 (uC lm).toList).heap[w5.heap.size]? = some (.cells (uC lm) 24 (0, 0))) := hnew.store lm (by rw [ILM.out.1]; rfl)
  have lt5 := sz5.out
  have RL6 : Hid (((w5.alloc (.cells #[Value.int IntKind.u64 0, Value.int IntKind.u64 0, Value.int IntKind.u64 0, Value.int IntKind.u64 0, Value.int IntKind.u64 0, Value.int IntKind.u64 0, Value.int IntKind.u64 0, Value.int IntKind.u64 0, Value.int IntKind.u64 0, Value.int IntKind.u64 0, Value.int IntKind.u64 0, Value.int IntKind.u64 0, Value.int IntKind.u64 0, Value.int IntKind.u64 0, Value.int IntKind.u64 0, Value.int IntKind.u64 0] 24)).setCells w5.heap.size 0 (uC lm).toList).heap[w.heap.size]? = some (.cells (uC l) 24 (0, 0))) := (heap_setCells_other _ _ (by omega) _ _ _).trans ((Below.heap_alloc w5 _ _ (by omega)).trans RL5.out)
  have RM6 : Hid (((w5.alloc (.cells #[Value.int IntKind.u64 0, Value.int IntKind.u64 0, Value.int IntKind.u64 0, Value.int IntKind.u64 0, Value.int IntKind.u64 0, Value.int IntKind.u64 0, Value.int IntKind.u64 0, Value.int IntKind.u64 0, Value.int IntKind.u64 0, Value.int IntKind.u64 0, Value.int IntKind.u64 0, Value.int IntKind.u64 0, Value.int IntKind.u64 0, Value.int IntKind.u64 0, Value.int IntKind.u64 0, Value.int IntKind.u64 0] 24)).setCells w5.heap.size 0 (uC lm).toList).heap[w.heap.size + 1]? = some (.cells (uC m) 24 (0, 0))) := (heap_setCells_other _ _ (by omega) _ _ _).trans ((Below.heap_alloc w5 _ _ (by omega)).trans RM5.out)
  have RK6 : Hid (((w5.alloc (.cells #[Value.int IntKind.u64 0, Value.int IntKind.u64 0, Value.int IntKind.u64 0, Value.int IntKind.u64 0, Value.int IntKind.u64 0, Value.int IntKind.u64 0, Value.int IntKind.u64 0, Value.int IntKind.u64 0, Value.int IntKind.u64 0, Value.int IntKind.u64 0, Value.int IntKind.u64 0, Value.int IntKind.u64 0, Value.int IntKind.u64 0, Value.int IntKind.u64 0, Value.int IntKind.u64 0, Value.int IntKind.u64 0] 24)).setCells w5.heap.size 0 (uC lm).toList).heap[w.heap.size + 1 + 1]? = some (.cells (uC k) 24 (0, 0))) := (heap_setCells_other _ _ (by omega) _ _ _).trans ((Below.heap_alloc w5 _ _ (by omega)).trans RK5.out)
  have RA6 : Hid (((w5.alloc (.cells #[Value.int IntKind.u64 0, Value.int IntKind.u64 0, Value.int IntKind.u64 0, Value.int IntKind.u64 0, Value.int IntKind.u64 0, Value.int IntKind.u64 0, Value.int IntKind.u64 0, Value.int IntKind.u64 0, Value.int IntKind.u64 0, Value.int IntKind.u64 0, Value.int IntKind.u64 0, Value.int IntKind.u64 0, Value.int IntKind.u64 0, Value.int IntKind.u64 0, Value.int IntKind.u64 0, Value.int IntKind.u64 0] 24)).setCells w5.heap.size 0 (uC lm).toList).heap[w.heap.size + 1 + 1 + 1]? = some (.cells (idC a) 27 (0, 0))) := (heap_setCells_other _ _ (by omega) _ _ _).trans ((Below.heap_alloc w5 _ _ (by omega)).trans RA5.out)
  have B6 : Hid (Below w.heap.size w ((w5.alloc (.cells #[Value.int IntKind.u64 0, Value.int IntKind.u64 0, Value.int IntKind.u64 0, Value.int IntKind.u64 0, Value.int IntKind.u64 0, Value.int IntKind.u64 0, Value.int IntKind.u64 0, Value.int IntKind.u64 0, Value.int IntKind.u64 0, Value.int IntKind.u64 0, Value.int IntKind.u64 0, Value.int IntKind.u64 0, Value.int IntKind.u64 0, Value.int IntKind.u64 0, Value.int IntKind.u64 0, Value.int IntKind.u64 0] 24)).setCells w5.heap.size 0 (uC lm).toList)) := below_setCells (by omega) _ _ (B5.out.alloc (by omega) _)
  clear lt5 hnew RL5 RM5 RK5 RA5 B5
  go_wp2_with (first
    | (with_reducible refine wpList_store_mid rfl 24 (.tmp 9) (.tmp 15) rfl w5.heap.size 0 (uC lm) rfl rfl ?_ ?_ ONE.out ?_; (rw [slm.out]; exact HTH.out); (rw [slm.out]; exact i24.out))
    | (with_reducible refine wpList_load_row rfl 27 (.tmp 7) rfl (w.heap.size + 1 + 1 + 1) rfl 27 (idC a) (0, 0) _ RA6.out Try.underlying27 rfl ?_ ?_; (rw [sa.out]; exact i27.out)))
  have sz5' := sz5.out
  have s6 : Hid (w5.heap.size < ((w5.alloc (.cells #[Value.int IntKind.u64 0, Value.int IntKind.u64 0, Value.int IntKind.u64 0, Value.int IntKind.u64 0, Value.int IntKind.u64 0, Value.int IntKind.u64 0, Value.int IntKind.u64 0, Value.int IntKind.u64 0, Value.int IntKind.u64 0, Value.int IntKind.u64 0, Value.int IntKind.u64 0, Value.int IntKind.u64 0, Value.int IntKind.u64 0, Value.int IntKind.u64 0, Value.int IntKind.u64 0, Value.int IntKind.u64 0] 24)).setCells w5.heap.size 0 (uC lm).toList).heap.size) := lt_of_block RLM6.out
  generalize World.setCells (w5.alloc (Obj.cells #[Value.int IntKind.u64 0, Value.int IntKind.u64 0, Value.int IntKind.u64 0, Value.int IntKind.u64 0, Value.int IntKind.u64 0, Value.int IntKind.u64 0, Value.int IntKind.u64 0, Value.int IntKind.u64 0, Value.int IntKind.u64 0, Value.int IntKind.u64 0, Value.int IntKind.u64 0, Value.int IntKind.u64 0, Value.int IntKind.u64 0, Value.int IntKind.u64 0, Value.int IntKind.u64 0, Value.int IntKind.u64 0] 24)) w5.heap.size 0 (uC lm).toList = w6 at *
  clear HTH
  generalize w5.heap.size = n5 at *
  have hz : IsB (List.replicate 16 0) := zeros_ok
  refine (add_any (List.replicate 16 0) a w6 hz HA.out HAB.out).mono ?_
  rintro e w7 ⟨rfl, hb⟩
  obtain ⟨ad, had⟩ : ∃ x, x = badd (List.replicate 16 0) (bpos a 0) (bpos a 1) (bpos a 2) (bpos a 3) := ⟨_, rfl⟩
  have iad : IsB ad := had ▸ badd_ok hz _ _ _ _
  rw [← had]
  have EAD := Lib.hid had
  have IAD := Lib.hid iad
  have sad : Hid ((uC ad).size = 16) := by rw [uC_size]; exact iad.1
  have ONE2 := Lib.hid (uC_one ad)
  have lt7 : n5 < w7.heap.size := Nat.lt_of_lt_of_le s6.out hb.size
  have hnew : URow (w7.alloc (.cells #[Value.int IntKind.u64 0, Value.int IntKind.u64 0, Value.int IntKind.u64 0, Value.int IntKind.u64 0, Value.int IntKind.u64 0, Value.int IntKind.u64 0, Value.int IntKind.u64 0, Value.int IntKind.u64 0, Value.int IntKind.u64 0, Value.int IntKind.u64 0, Value.int IntKind.u64 0, Value.int IntKind.u64 0, Value.int IntKind.u64 0, Value.int IntKind.u64 0, Value.int IntKind.u64 0, Value.int IntKind.u64 0] 24)) 24 w7.heap.size (List.replicate 16 0) := URow.new w7 24 (List.replicate 16 0)
  have HTH2 : Hid ((w7.alloc (.cells #[Value.int IntKind.u64 0, Value.int IntKind.u64 0, Value.int IntKind.u64 0, Value.int IntKind.u64 0, Value.int IntKind.u64 0, Value.int IntKind.u64 0, Value.int IntKind.u64 0, Value.int IntKind.u64 0, Value.int IntKind.u64 0, Value.int IntKind.u64 0, Value.int IntKind.u64 0, Value.int IntKind.u64 0, Value.int IntKind.u64 0, Value.int IntKind.u64 0, Value.int IntKind.u64 0, Value.int IntKind.u64 0] 24)).there w7.heap.size 0 16) := hnew.there
  have RAD8 : Hid (((w7.alloc (.cells #[Value.int IntKind.u64 0, Value.int IntKind.u64 0, Value.int IntKind.u64 0, Value.int IntKind.u64 0, Value.int IntKind.u64 0, Value.int IntKind.u64 0, Value.int IntKind.u64 0, Value.int IntKind.u64 0, Value.int IntKind.u64 0, Value.int IntKind.u64 0, Value.int IntKind.u64 0, Value.int IntKind.u64 0, Value.int IntKind.u64 0, Value.int IntKind.u64 0, Value.int IntKind.u64 0, Value.int IntKind.u64 0] 24)).setCells w7.heap.size 0 (uC ad).toList).heap[w7.heap.size]? = some (.cells (uC ad) 24 (0, 0))) := hnew.store ad (by rw [IAD.out.1]; rfl)
  have RL8 : Hid (((w7.alloc (.cells #[Value.int IntKind.u64 0, Value.int IntKind.u64 0, Value.int IntKind.u64 0, Value.int IntKind.u64 0, Value.int IntKind.u64 0, Value.int IntKind.u64 0, Value.int IntKind.u64 0, Value.int IntKind.u64 0, Value.int IntKind.u64 0, Value.int IntKind.u64 0, Value.int IntKind.u64 0, Value.int IntKind.u64 0, Value.int IntKind.u64 0, Value.int IntKind.u64 0, Value.int IntKind.u64 0, Value.int IntKind.u64 0] 24)).setCells w7.heap.size 0 (uC ad).toList).heap[w.heap.size]? = some (.cells (uC l) 24 (0, 0))) := (heap_setCells_other _ _ (by omega) _ _ _).trans ((Below.heap_alloc w7 _ _ (by omega)).trans ((hb.block _ (lt_of_block RL6.out)).trans RL6.out))
  have RM8 : Hid (((w7.alloc (.cells #[Value.int IntKind.u64 0, Value.int IntKind.u64 0, Value.int IntKind.u64 0, Value.int IntKind.u64 0, Value.int IntKind.u64 0, Value.int IntKind.u64 0, Value.int IntKind.u64 0, Value.int IntKind.u64 0, Value.int IntKind.u64 0, Value.int IntKind.u64 0, Value.int IntKind.u64 0, Value.int IntKind.u64 0, Value.int IntKind.u64 0, Value.int IntKind.u64 0, Value.int IntKind.u64 0, Value.int IntKind.u64 0] 24)).setCells w7.heap.size 0 (uC ad).toList).heap[w.heap.size + 1]? = some (.cells (uC m) 24 (0, 0))) := (heap_setCells_other _ _ (by omega) _ _ _).trans ((Below.heap_alloc w7 _ _ (by omega)).trans ((hb.block _ (lt_of_block RM6.out)).trans RM6.out))
  have RK8 : Hid (((w7.alloc (.cells #[Value.int IntKind.u64 0, Value.int IntKind.u64 0, Value.int IntKind.u64 0, Value.int IntKind.u64 0, Value.int IntKind.u64 0, Value.int IntKind.u64 0, Value.int IntKind.u64 0, Value.int IntKind.u64 0, Value.int IntKind.u64 0, Value.int IntKind.u64 0, Value.int IntKind.u64 0, Value.int IntKind.u64 0, Value.int IntKind.u64 0, Value.int IntKind.u64 0, Value.int IntKind.u64 0, Value.int IntKind.u64 0] 24)).setCells w7.heap.size 0 (uC ad).toList).heap[w.heap.size + 1 + 1]? = some (.cells (uC k) 24 (0, 0))) := (heap_setCells_other _ _ (by omega) _ _ _).trans ((Below.heap_alloc w7 _ _ (by omega)).trans ((hb.block _ (lt_of_block RK6.out)).trans RK6.out))
  have RLM8 : Hid (((w7.alloc (.cells #[Value.int IntKind.u64 0, Value.int IntKind.u64 0, Value.int IntKind.u64 0, Value.int IntKind.u64 0, Value.int IntKind.u64 0, Value.int IntKind.u64 0, Value.int IntKind.u64 0, Value.int IntKind.u64 0, Value.int IntKind.u64 0, Value.int IntKind.u64 0, Value.int IntKind.u64 0, Value.int IntKind.u64 0, Value.int IntKind.u64 0, Value.int IntKind.u64 0, Value.int IntKind.u64 0, Value.int IntKind.u64 0] 24)).setCells w7.heap.size 0 (uC ad).toList).heap[n5]? = some (.cells (uC lm) 24 (0, 0))) := (heap_setCells_other _ _ (by omega) _ _ _).trans ((Below.heap_alloc w7 _ _ (by omega)).trans ((hb.block _ (lt_of_block RLM6.out)).trans RLM6.out))
  have RA8 : Hid (((w7.alloc (.cells #[Value.int IntKind.u64 0, Value.int IntKind.u64 0, Value.int IntKind.u64 0, Value.int IntKind.u64 0, Value.int IntKind.u64 0, Value.int IntKind.u64 0, Value.int IntKind.u64 0, Value.int IntKind.u64 0, Value.int IntKind.u64 0, Value.int IntKind.u64 0, Value.int IntKind.u64 0, Value.int IntKind.u64 0, Value.int IntKind.u64 0, Value.int IntKind.u64 0, Value.int IntKind.u64 0, Value.int IntKind.u64 0] 24)).setCells w7.heap.size 0 (uC ad).toList).heap[w.heap.size + 1 + 1 + 1]? = some (.cells (idC a) 27 (0, 0))) := (heap_setCells_other _ _ (by omega) _ _ _).trans ((Below.heap_alloc w7 _ _ (by omega)).trans ((hb.block _ (lt_of_block RA6.out)).trans RA6.out))
  have B8 : Hid (Below w.heap.size w ((w7.alloc (.cells #[Value.int IntKind.u64 0, Value.int IntKind.u64 0, Value.int IntKind.u64 0, Value.int IntKind.u64 0, Value.int IntKind.u64 0, Value.int IntKind.u64 0, Value.int IntKind.u64 0, Value.int IntKind.u64 0, Value.int IntKind.u64 0, Value.int IntKind.u64 0, Value.int IntKind.u64 0, Value.int IntKind.u64 0, Value.int IntKind.u64 0, Value.int IntKind.u64 0, Value.int IntKind.u64 0, Value.int IntKind.u64 0] 24)).setCells w7.heap.size 0 (uC ad).toList)) := below_setCells (by omega) _ _ ((Below.step B6.out hb).alloc (by omega) _)
  clear lt7 hnew RL6 RM6 RK6 RA6 RLM6 B6 hb had iad hz s6 sz5' ONE
  go_wp2_with (first
    | (with_reducible refine wpList_store_mid rfl 24 (.tmp 10) (.tmp 18) rfl w7.heap.size 0 (uC ad) rfl rfl ?_ ?_ ONE2.out ?_; (rw [sad.out]; exact HTH2.out); (rw [sad.out]; exact i24.out)))
  clear HTH2
  generalize World.setCells (w7.alloc (Obj.cells #[Value.int IntKind.u64 0, Value.int IntKind.u64 0, Value.int IntKind.u64 0, Value.int IntKind.u64 0, Value.int IntKind.u64 0, Value.int IntKind.u64 0, Value.int IntKind.u64 0, Value.int IntKind.u64 0, Value.int IntKind.u64 0, Value.int IntKind.u64 0, Value.int IntKind.u64 0, Value.int IntKind.u64 0, Value.int IntKind.u64 0, Value.int IntKind.u64 0, Value.int IntKind.u64 0, Value.int IntKind.u64 0] 24)) w7.heap.size 0 (uC ad).toList = w8 at *
  generalize w7.heap.size = n7 at *
  have hSall : ∀ w', Below w8.heap.size w8 w' → (w'.rangeAt w.heap.size 0 (uC l).toList ∧ w'.rangeAt (w.heap.size + 1) 0 (uC m).toList ∧ w'.rangeAt (w.heap.size + 1 + 1) 0 (uC k).toList ∧ w'.rangeAt n5 0 (uC lm).toList ∧ w'.rangeAt n7 0 (uC ad).toList ∧ w'.rangeAt (w.heap.size + 1 + 1 + 1) 0 (idC a).toList ∧ Below w8.heap.size w8 w') := by
    intro w' hb
    have go : ∀ (B : Nat) (t : TypeId) (cs : Array Value), w8.heap[B]? = some (.cells cs t (0, 0)) → w'.rangeAt B 0 cs.toList := by
      intro B t cs hB j v hv
      rw [cell_of_row _ _ _ _ _ _ ((hb.block B (lt_of_block hB)).trans hB)]
      simpa using hv
    exact ⟨go _ _ _ RL8.out, go _ _ _ RM8.out, go _ _ _ RK8.out, go _ _ _ RLM8.out, go _ _ _ RAD8.out, go _ _ _ RA8.out, hb⟩
  have HS := Lib.hid hSall
  clear hSall
  have hu := Try.underlying24
  have hu27 := Try.underlying27
  have hlen : ∀ p : List Nat, p.length = 16 → (Try.prog.info? 24).map (·.size) = some (uC p).toList.length := fun p hp => by rw [Array.length_toList, uC_size, hp]; exact i24.out
  have hil := hlen l HL.out.1
  have him := hlen m HM.out.1
  have hik := hlen k HK.out.1
  have hilm := hlen lm ILM.out.1
  have hiad := hlen ad IAD.out.1
  have hia : (Try.prog.info? 27).map (·.size) = some (idC a).toList.length := by rw [Array.length_toList, sa.out]; exact i27.out
  clear RL8 RM8 RK8 RLM8 RAD8 RA8 hlen
  rename_i KK HKK
  refine wp_region_noPanic ?_
  refine wp_region_held_drew (S := (fun w' => w'.rangeAt w.heap.size 0 (uC l).toList ∧ w'.rangeAt (w.heap.size + 1) 0 (uC m).toList ∧ w'.rangeAt (w.heap.size + 1 + 1) 0 (uC k).toList ∧ w'.rangeAt n5 0 (uC lm).toList ∧ w'.rangeAt n7 0 (uC ad).toList ∧ w'.rangeAt (w.heap.size + 1 + 1 + 1) 0 (idC a).toList ∧ Below w8.heap.size w8 w')) (by kernel_rfl) (HS.out _ (Below.drew (Below.refl _ _))) (fun _ => ?_)
  have HH0 := Lib.hid (Below.drew (Below.refl w8.heap.size w8))
  generalize w8.drew = v0 at *
  refine take_row 0 rfl (by kernel_rfl) (by kernel_rfl) (by kernel_rfl) (fun _ _ _ _ h => h) (by rfl) rfl rfl rfl (fun _ hSw => hSw.2.2.2.1) hu rfl hilm (HS.out _ HH0.out) ?_
  try simp only [List.set_cons_zero, List.set_cons_succ]
  refine take_row 1 rfl (by kernel_rfl) (by kernel_rfl) (by kernel_rfl) (fun _ _ _ _ h => h) (by rfl) rfl rfl rfl (fun _ hSw => hSw.2.1) hu rfl him (HS.out _ HH0.out) ?_
  try simp only [List.set_cons_zero, List.set_cons_succ]
  refine take_row 2 rfl (by kernel_rfl) (by kernel_rfl) (by kernel_rfl) (fun _ _ _ _ h => h) (by rfl) rfl rfl rfl (fun _ hSw => hSw.1) hu rfl hil (HS.out _ HH0.out) ?_
  try simp only [List.set_cons_zero, List.set_cons_succ]
  refine one_ready 3 (by kernel_rfl) rfl (by rfl) (fun K hK => ?_)
  refine wp_bs2 _ _  rfl m l (by rfl) (by rfl)  HM.out HL.out ?_
  rw [put_eq rfl]
  try simp only [List.set_cons_zero, List.set_cons_succ]
  refine hK.out _ _ (HS.out _ (Below.alloc HH0.out (Below.size HH0.out) _)) ?_
  clear hK K
  have HH2 := Lib.hid (Below.alloc HH0.out (Below.size HH0.out) (Obj.cells (uC (m ++ l)) 24))
  have HB4 := Lib.hid (heap_alloc_new v0 (Obj.cells (uC (m ++ l)) 24))
  clear HH0
  generalize v0.alloc (Obj.cells (uC (m ++ l)) 24) = v1 at *
  generalize v0.heap.size = b3 at *
  refine one_ready 4 (by kernel_rfl) rfl (by rfl) (fun K hK => ?_)
  go_simp
  refine (join2 m l _ _ v1 HM.out HL.out HB4.out).mono ?_
  rintro e v5 ⟨rfl, hb⟩
  go_wp2_with fail
  refine hK.out _ _ (HS.out _ (Below.step HH2.out hb)) ?_
  clear hK K
  try simp only [Act.put, List.setIfInBounds_toArray, List.set_cons_zero, List.set_cons_succ]
  have HH6 := Lib.hid (Below.step HH2.out hb)
  clear hb HH2 HB4
  refine take_val 5 (.bool true) rfl (by kernel_rfl) (by kernel_rfl) (by kernel_rfl) (fun _ _ _ _ h => h) (by rfl) rfl (fun w _ => val_eqB _ _ _ rfl lm (bjoin m l) rfl rfl ILM.out (bjoin_ok HM.out HL.out) (ELM.out.trans (bjoin_comm l m)) _) (HS.out _ HH6.out) ?_
  try simp only [List.set_cons_zero, List.set_cons_succ]
  refine take_val 6 (.bool true) rfl (by kernel_rfl) (by kernel_rfl) (by kernel_rfl) (fun _ _ _ _ h => h) (by rfl) rfl (fun w _ => by go_simp) (HS.out _ HH6.out) ?_
  try simp only [List.set_cons_zero, List.set_cons_succ]
  refine take_row 7 rfl (by kernel_rfl) (by kernel_rfl) (by kernel_rfl) (fun _ _ _ _ h => h) (by rfl) rfl rfl rfl (fun _ hSw => hSw.2.2.2.1) hu rfl hilm (HS.out _ HH6.out) ?_
  try simp only [List.set_cons_zero, List.set_cons_succ]
  refine take_row 8 rfl (by kernel_rfl) (by kernel_rfl) (by kernel_rfl) (fun _ _ _ _ h => h) (by rfl) rfl rfl rfl (fun _ hSw => hSw.2.2.1) hu rfl hik (HS.out _ HH6.out) ?_
  try simp only [List.set_cons_zero, List.set_cons_succ]
  refine take_row 11 rfl (by kernel_rfl) (by kernel_rfl) (by kernel_rfl) (fun _ _ _ _ h => h) (by rfl) rfl rfl rfl (fun _ hSw => hSw.1) hu rfl hil (HS.out _ HH6.out) ?_
  try simp only [List.set_cons_zero, List.set_cons_succ]
  refine take_row 12 rfl (by kernel_rfl) (by kernel_rfl) (by kernel_rfl) (fun _ _ _ _ h => h) (by rfl) rfl rfl rfl (fun _ hSw => hSw.2.1) hu rfl him (HS.out _ HH6.out) ?_
  try simp only [List.set_cons_zero, List.set_cons_succ]
  refine take_row 13 rfl (by kernel_rfl) (by kernel_rfl) (by kernel_rfl) (fun _ _ _ _ h => h) (by rfl) rfl rfl rfl (fun _ hSw => hSw.2.2.1) hu rfl hik (HS.out _ HH6.out) ?_
  try simp only [List.set_cons_zero, List.set_cons_succ]
  refine two_ready 9 14 (by kernel_rfl) rfl rfl (by rfl) (by rfl) (fun K hK => ?_) (fun K hK => ?_)
  · refine wp_bs2 _ _  rfl lm k (by rfl) (by rfl)  ILM.out HK.out ?_
    rw [put_eq rfl]
    try simp only [List.set_cons_zero, List.set_cons_succ]
    refine hK.out _ _ (HS.out _ (Below.alloc HH6.out (Below.size HH6.out) _)) ?_
    clear hK K
    have HH8 := Lib.hid (Below.alloc HH6.out (Below.size HH6.out) (Obj.cells (uC (lm ++ k)) 24))
    have HB10 := Lib.hid (heap_alloc_new v5 (Obj.cells (uC (lm ++ k)) 24))
    clear HH6
    generalize v5.alloc (Obj.cells (uC (lm ++ k)) 24) = v7 at *
    generalize v5.heap.size = b9 at *
    refine two_ready 10 14 (by kernel_rfl) rfl rfl (by rfl) (by rfl) (fun K hK => ?_) (fun K hK => ?_)
    · go_simp
      refine (join2 lm k _ _ v7 ILM.out HK.out HB10.out).mono ?_
      rintro e v11 ⟨rfl, hb⟩
      go_wp2_with fail
      refine hK.out _ _ (HS.out _ (Below.step HH8.out hb)) ?_
      clear hK K
      try simp only [Act.put, List.setIfInBounds_toArray, List.set_cons_zero, List.set_cons_succ]
      have HH12 := Lib.hid (Below.step HH8.out hb)
      clear hb HH8 HB10
      refine one_ready 14 (by kernel_rfl) rfl (by rfl) (fun K hK => ?_)
      refine wp_bs2 _ _  rfl m k (by rfl) (by rfl)  HM.out HK.out ?_
      rw [put_eq rfl]
      try simp only [List.set_cons_zero, List.set_cons_succ]
      refine hK.out _ _ (HS.out _ (Below.alloc HH12.out (Below.size HH12.out) _)) ?_
      clear hK K
      have HH14 := Lib.hid (Below.alloc HH12.out (Below.size HH12.out) (Obj.cells (uC (m ++ k)) 24))
      have HB16 := Lib.hid (heap_alloc_new v11 (Obj.cells (uC (m ++ k)) 24))
      clear HH12
      generalize v11.alloc (Obj.cells (uC (m ++ k)) 24) = v13 at *
      generalize v11.heap.size = b15 at *
      refine one_ready 15 (by kernel_rfl) rfl (by rfl) (fun K hK => ?_)
      go_simp
      refine (join2 m k _ _ v13 HM.out HK.out HB16.out).mono ?_
      rintro e v17 ⟨rfl, hb⟩
      go_wp2_with fail
      refine hK.out _ _ (HS.out _ (Below.step HH14.out hb)) ?_
      clear hK K
      try simp only [Act.put, List.setIfInBounds_toArray, List.set_cons_zero, List.set_cons_succ]
      have HH18 := Lib.hid (Below.step HH14.out hb)
      clear hb HH14 HB16
      refine one_ready 16 (by kernel_rfl) rfl (by rfl) (fun K hK => ?_)
      refine wp_bs2 _ _  rfl l (bjoin m k) (by rfl) (by rfl)  HL.out (bjoin_ok HM.out HK.out) ?_
      rw [put_eq rfl]
      try simp only [List.set_cons_zero, List.set_cons_succ]
      refine hK.out _ _ (HS.out _ (Below.alloc HH18.out (Below.size HH18.out) _)) ?_
      clear hK K
      have HH20 := Lib.hid (Below.alloc HH18.out (Below.size HH18.out) (Obj.cells (uC (l ++ (bjoin m k))) 24))
      have HB22 := Lib.hid (heap_alloc_new v17 (Obj.cells (uC (l ++ (bjoin m k))) 24))
      clear HH18
      generalize v17.alloc (Obj.cells (uC (l ++ (bjoin m k))) 24) = v19 at *
      generalize v17.heap.size = b21 at *
      refine one_ready 17 (by kernel_rfl) rfl (by rfl) (fun K hK => ?_)
      go_simp
      refine (join2 l (bjoin m k) _ _ v19 HL.out (bjoin_ok HM.out HK.out) HB22.out).mono ?_
      rintro e v23 ⟨rfl, hb⟩
      go_wp2_with fail
      refine hK.out _ _ (HS.out _ (Below.step HH20.out hb)) ?_
      clear hK K
      try simp only [Act.put, List.setIfInBounds_toArray, List.set_cons_zero, List.set_cons_succ]
      have HH24 := Lib.hid (Below.step HH20.out hb)
      clear hb HH20 HB22
      refine take_val 18 (.bool true) rfl (by kernel_rfl) (by kernel_rfl) (by kernel_rfl) (fun _ _ _ _ h => h) (by rfl) rfl (fun w _ => val_eqB _ _ _ rfl (bjoin lm k) (bjoin l (bjoin m k)) rfl rfl (bjoin_ok ILM.out HK.out) (bjoin_ok HL.out (bjoin_ok HM.out HK.out)) ((congrArg (bjoin · k) ELM.out).trans (bjoin_assoc HL.out HM.out HK.out)) _) (HS.out _ HH24.out) ?_
      try simp only [List.set_cons_zero, List.set_cons_succ]
      refine take_val 19 (.bool true) rfl (by kernel_rfl) (by kernel_rfl) (by kernel_rfl) (fun _ _ _ _ h => h) (by rfl) rfl (fun w _ => by go_simp) (HS.out _ HH24.out) ?_
      try simp only [List.set_cons_zero, List.set_cons_succ]
      refine take_val 20 (.bool true) rfl (by kernel_rfl) (by kernel_rfl) (by kernel_rfl) (fun _ _ _ _ h => h) (by rfl) rfl (fun w _ => by go_simp) (HS.out _ HH24.out) ?_
      try simp only [List.set_cons_zero, List.set_cons_succ]
      refine take_row 21 rfl (by kernel_rfl) (by kernel_rfl) (by kernel_rfl) (fun _ _ _ _ h => h) (by rfl) rfl rfl rfl (fun _ hSw => hSw.1) hu rfl hil (HS.out _ HH24.out) ?_
      try simp only [List.set_cons_zero, List.set_cons_succ]
      refine take_row 22 rfl (by kernel_rfl) (by kernel_rfl) (by kernel_rfl) (fun _ _ _ _ h => h) (by rfl) rfl rfl rfl (fun _ hSw => hSw.1) hu rfl hil (HS.out _ HH24.out) ?_
      try simp only [List.set_cons_zero, List.set_cons_succ]
      refine take_row 25 rfl (by kernel_rfl) (by kernel_rfl) (by kernel_rfl) (fun _ _ _ _ h => h) (by rfl) rfl rfl rfl (fun _ hSw => hSw.1) hu rfl hil (HS.out _ HH24.out) ?_
      try simp only [List.set_cons_zero, List.set_cons_succ]
      refine one_ready 23 (by kernel_rfl) rfl (by rfl) (fun K hK => ?_)
      refine wp_bs2 _ _  rfl l l (by rfl) (by rfl)  HL.out HL.out ?_
      rw [put_eq rfl]
      try simp only [List.set_cons_zero, List.set_cons_succ]
      refine hK.out _ _ (HS.out _ (Below.alloc HH24.out (Below.size HH24.out) _)) ?_
      clear hK K
      have HH26 := Lib.hid (Below.alloc HH24.out (Below.size HH24.out) (Obj.cells (uC (l ++ l)) 24))
      have HB28 := Lib.hid (heap_alloc_new v23 (Obj.cells (uC (l ++ l)) 24))
      clear HH24
      generalize v23.alloc (Obj.cells (uC (l ++ l)) 24) = v25 at *
      generalize v23.heap.size = b27 at *
      refine one_ready 24 (by kernel_rfl) rfl (by rfl) (fun K hK => ?_)
      go_simp
      refine (join2 l l _ _ v25 HL.out HL.out HB28.out).mono ?_
      rintro e v29 ⟨rfl, hb⟩
      go_wp2_with fail
      refine hK.out _ _ (HS.out _ (Below.step HH26.out hb)) ?_
      clear hK K
      try simp only [Act.put, List.setIfInBounds_toArray, List.set_cons_zero, List.set_cons_succ]
      have HH30 := Lib.hid (Below.step HH26.out hb)
      clear hb HH26 HB28
      refine take_val 26 (.bool true) rfl (by kernel_rfl) (by kernel_rfl) (by kernel_rfl) (fun _ _ _ _ h => h) (by rfl) rfl (fun w _ => val_eqB _ _ _ rfl (bjoin l l) l rfl rfl (bjoin_ok HL.out HL.out) HL.out (bjoin_self HL.out) _) (HS.out _ HH30.out) ?_
      try simp only [List.set_cons_zero, List.set_cons_succ]
      refine take_val 27 (.bool true) rfl (by kernel_rfl) (by kernel_rfl) (by kernel_rfl) (fun _ _ _ _ h => h) (by rfl) rfl (fun w _ => by go_simp) (HS.out _ HH30.out) ?_
      try simp only [List.set_cons_zero, List.set_cons_succ]
      refine take_val 28 (.bool true) rfl (by kernel_rfl) (by kernel_rfl) (by kernel_rfl) (fun _ _ _ _ h => h) (by rfl) rfl (fun w _ => by go_simp) (HS.out _ HH30.out) ?_
      try simp only [List.set_cons_zero, List.set_cons_succ]
      refine take_row 29 rfl (by kernel_rfl) (by kernel_rfl) (by kernel_rfl) (fun _ _ _ _ h => h) (by rfl) rfl rfl rfl (fun _ hSw => hSw.1) hu rfl hil (HS.out _ HH30.out) ?_
      try simp only [List.set_cons_zero, List.set_cons_succ]
      refine take_row 30 rfl (by kernel_rfl) (by kernel_rfl) (by kernel_rfl) (fun _ _ _ _ h => h) (by rfl) rfl rfl rfl (fun _ hSw => hSw.2.1) hu rfl him (HS.out _ HH30.out) ?_
      try simp only [List.set_cons_zero, List.set_cons_succ]
      refine take_row 31 rfl (by kernel_rfl) (by kernel_rfl) (by kernel_rfl) (fun _ _ _ _ h => h) (by rfl) rfl rfl rfl (fun _ hSw => hSw.2.2.1) hu rfl hik (HS.out _ HH30.out) ?_
      try simp only [List.set_cons_zero, List.set_cons_succ]
      refine take_row 34 rfl (by kernel_rfl) (by kernel_rfl) (by kernel_rfl) (fun _ _ _ _ h => h) (by rfl) rfl rfl rfl (fun _ hSw => hSw.2.2.2.1) hu rfl hilm (HS.out _ HH30.out) ?_
      try simp only [List.set_cons_zero, List.set_cons_succ]
      refine take_row 35 rfl (by kernel_rfl) (by kernel_rfl) (by kernel_rfl) (fun _ _ _ _ h => h) (by rfl) rfl rfl rfl (fun _ hSw => hSw.2.2.1) hu rfl hik (HS.out _ HH30.out) ?_
      try simp only [List.set_cons_zero, List.set_cons_succ]
      refine two_ready 32 36 (by kernel_rfl) rfl rfl (by rfl) (by rfl) (fun K hK => ?_) (fun K hK => ?_)
      · refine wp_bs3 _ _ _  rfl l m k (by rfl) (by rfl) (by rfl)  HL.out HM.out HK.out ?_
        rw [put_eq rfl]
        try simp only [List.set_cons_zero, List.set_cons_succ]
        refine hK.out _ _ (HS.out _ (Below.alloc HH30.out (Below.size HH30.out) _)) ?_
        clear hK K
        have HH32 := Lib.hid (Below.alloc HH30.out (Below.size HH30.out) (Obj.cells (uC (l ++ (m ++ k))) 24))
        have HB34 := Lib.hid (heap_alloc_new v29 (Obj.cells (uC (l ++ (m ++ k))) 24))
        clear HH30
        generalize v29.alloc (Obj.cells (uC (l ++ (m ++ k))) 24) = v31 at *
        generalize v29.heap.size = b33 at *
        refine two_ready 33 36 (by kernel_rfl) rfl rfl (by rfl) (by rfl) (fun K hK => ?_) (fun K hK => ?_)
        · go_simp
          refine (join3 l m k _ _ v31 HL.out HM.out HK.out HB34.out).mono ?_
          rintro e v35 ⟨rfl, hb⟩
          go_wp2_with fail
          refine hK.out _ _ (HS.out _ (Below.step HH32.out hb)) ?_
          clear hK K
          try simp only [Act.put, List.setIfInBounds_toArray, List.set_cons_zero, List.set_cons_succ]
          have HH36 := Lib.hid (Below.step HH32.out hb)
          clear hb HH32 HB34
          refine one_ready 36 (by kernel_rfl) rfl (by rfl) (fun K hK => ?_)
          refine wp_bs2 _ _  rfl lm k (by rfl) (by rfl)  ILM.out HK.out ?_
          rw [put_eq rfl]
          try simp only [List.set_cons_zero, List.set_cons_succ]
          refine hK.out _ _ (HS.out _ (Below.alloc HH36.out (Below.size HH36.out) _)) ?_
          clear hK K
          have HH38 := Lib.hid (Below.alloc HH36.out (Below.size HH36.out) (Obj.cells (uC (lm ++ k)) 24))
          have HB40 := Lib.hid (heap_alloc_new v35 (Obj.cells (uC (lm ++ k)) 24))
          clear HH36
          generalize v35.alloc (Obj.cells (uC (lm ++ k)) 24) = v37 at *
          generalize v35.heap.size = b39 at *
          refine one_ready 37 (by kernel_rfl) rfl (by rfl) (fun K hK => ?_)
          go_simp
          refine (join2 lm k _ _ v37 ILM.out HK.out HB40.out).mono ?_
          rintro e v41 ⟨rfl, hb⟩
          go_wp2_with fail
          refine hK.out _ _ (HS.out _ (Below.step HH38.out hb)) ?_
          clear hK K
          try simp only [Act.put, List.setIfInBounds_toArray, List.set_cons_zero, List.set_cons_succ]
          have HH42 := Lib.hid (Below.step HH38.out hb)
          clear hb HH38 HB40
          refine take_val 38 (.bool true) rfl (by kernel_rfl) (by kernel_rfl) (by kernel_rfl) (fun _ _ _ _ h => h) (by rfl) rfl (fun w _ => val_eqB _ _ _ rfl (bjoin (bjoin l m) k) (bjoin lm k) rfl rfl (bjoin_ok (bjoin_ok HL.out HM.out) HK.out) (bjoin_ok ILM.out HK.out) (congrArg (bjoin · k) ELM.out.symm) _) (HS.out _ HH42.out) ?_
          try simp only [List.set_cons_zero, List.set_cons_succ]
          refine take_val 39 (.bool true) rfl (by kernel_rfl) (by kernel_rfl) (by kernel_rfl) (fun _ _ _ _ h => h) (by rfl) rfl (fun w _ => by go_simp) (HS.out _ HH42.out) ?_
          try simp only [List.set_cons_zero, List.set_cons_succ]
          refine take_val 40 (.bool true) rfl (by kernel_rfl) (by kernel_rfl) (by kernel_rfl) (fun _ _ _ _ h => h) (by rfl) rfl (fun w _ => by go_simp) (HS.out _ HH42.out) ?_
          try simp only [List.set_cons_zero, List.set_cons_succ]
          refine wpAnyH_done (by kernel_rfl) ?_ _
          refine NoPanic.normal ?_
          exact HKK _ _ (joins_tail l m k a lm ad w w8 n5 n7 HL HM HA HAB ELM ILM EAD IAD B8 HS hil hilm hiad hia _ _ _ _ _ _ _ _ _ _ _ _ _ _ _ _ _ _ _ _ _ _ _ _ _ _ _ _ _ _ _ _ _ _ _ _ _ _ _ _ _ _ _ _ _ _ _ _ _ _ _ _ _ _ _ _ _ _ _ _ _ _ _ _ _ _ _ _ _ _ _ _ _ _ _ _ _ _ _  _ HH42)
        · refine wp_bs2 _ _  rfl lm k (by rfl) (by rfl)  ILM.out HK.out ?_
          rw [put_eq rfl]
          try simp only [List.set_cons_zero, List.set_cons_succ]
          refine hK.out _ _ (HS.out _ (Below.alloc HH32.out (Below.size HH32.out) _)) ?_
          clear hK K
          have HH44 := Lib.hid (Below.alloc HH32.out (Below.size HH32.out) (Obj.cells (uC (lm ++ k)) 24))
          have HB46 := Lib.hid (heap_alloc_new v31 (Obj.cells (uC (lm ++ k)) 24))
          have HB47 := Lib.hid ((Below.heap_alloc v31 (Obj.cells (uC (lm ++ k)) 24) _ (lt_of_block HB34.out)).trans HB34.out)
          clear HH32 HB34
          generalize v31.alloc (Obj.cells (uC (lm ++ k)) 24) = v43 at *
          generalize v31.heap.size = b45 at *
          refine one_ready 33 (by kernel_rfl) rfl (by rfl) (fun K hK => ?_)
          go_simp
          refine (join3 l m k _ _ v43 HL.out HM.out HK.out HB47.out).mono ?_
          rintro e v48 ⟨rfl, hb⟩
          go_wp2_with fail
          refine hK.out _ _ (HS.out _ (Below.step HH44.out hb)) ?_
          clear hK K
          try simp only [Act.put, List.setIfInBounds_toArray, List.set_cons_zero, List.set_cons_succ]
          have HH49 := Lib.hid (Below.step HH44.out hb)
          have HB50 := Lib.hid ((hb.block _ (lt_of_block HB46.out)).trans HB46.out)
          clear hb HH44 HB47 HB46
          refine one_ready 37 (by kernel_rfl) rfl (by rfl) (fun K hK => ?_)
          go_simp
          refine (join2 lm k _ _ v48 ILM.out HK.out HB50.out).mono ?_
          rintro e v51 ⟨rfl, hb⟩
          go_wp2_with fail
          refine hK.out _ _ (HS.out _ (Below.step HH49.out hb)) ?_
          clear hK K
          try simp only [Act.put, List.setIfInBounds_toArray, List.set_cons_zero, List.set_cons_succ]
          have HH52 := Lib.hid (Below.step HH49.out hb)
          clear hb HH49 HB50
          refine take_val 38 (.bool true) rfl (by kernel_rfl) (by kernel_rfl) (by kernel_rfl) (fun _ _ _ _ h => h) (by rfl) rfl (fun w _ => val_eqB _ _ _ rfl (bjoin (bjoin l m) k) (bjoin lm k) rfl rfl (bjoin_ok (bjoin_ok HL.out HM.out) HK.out) (bjoin_ok ILM.out HK.out) (congrArg (bjoin · k) ELM.out.symm) _) (HS.out _ HH52.out) ?_
          try simp only [List.set_cons_zero, List.set_cons_succ]
          refine take_val 39 (.bool true) rfl (by kernel_rfl) (by kernel_rfl) (by kernel_rfl) (fun _ _ _ _ h => h) (by rfl) rfl (fun w _ => by go_simp) (HS.out _ HH52.out) ?_
          try simp only [List.set_cons_zero, List.set_cons_succ]
          refine take_val 40 (.bool true) rfl (by kernel_rfl) (by kernel_rfl) (by kernel_rfl) (fun _ _ _ _ h => h) (by rfl) rfl (fun w _ => by go_simp) (HS.out _ HH52.out) ?_
          try simp only [List.set_cons_zero, List.set_cons_succ]
          refine wpAnyH_done (by kernel_rfl) ?_ _
          refine NoPanic.normal ?_
          exact HKK _ _ (joins_tail l m k a lm ad w w8 n5 n7 HL HM HA HAB ELM ILM EAD IAD B8 HS hil hilm hiad hia _ _ _ _ _ _ _ _ _ _ _ _ _ _ _ _ _ _ _ _ _ _ _ _ _ _ _ _ _ _ _ _ _ _ _ _ _ _ _ _ _ _ _ _ _ _ _ _ _ _ _ _ _ _ _ _ _ _ _ _ _ _ _ _ _ _ _ _ _ _ _ _ _ _ _ _ _ _ _  _ HH52)
      · refine wp_bs2 _ _  rfl lm k (by rfl) (by rfl)  ILM.out HK.out ?_
        rw [put_eq rfl]
        try simp only [List.set_cons_zero, List.set_cons_succ]
        refine hK.out _ _ (HS.out _ (Below.alloc HH30.out (Below.size HH30.out) _)) ?_
        clear hK K
        have HH54 := Lib.hid (Below.alloc HH30.out (Below.size HH30.out) (Obj.cells (uC (lm ++ k)) 24))
        have HB56 := Lib.hid (heap_alloc_new v29 (Obj.cells (uC (lm ++ k)) 24))
        clear HH30
        generalize v29.alloc (Obj.cells (uC (lm ++ k)) 24) = v53 at *
        generalize v29.heap.size = b55 at *
        refine one_ready 32 (by kernel_rfl) rfl (by rfl) (fun K hK => ?_)
        refine wp_bs3 _ _ _  rfl l m k (by rfl) (by rfl) (by rfl)  HL.out HM.out HK.out ?_
        rw [put_eq rfl]
        try simp only [List.set_cons_zero, List.set_cons_succ]
        refine hK.out _ _ (HS.out _ (Below.alloc HH54.out (Below.size HH54.out) _)) ?_
        clear hK K
        have HH58 := Lib.hid (Below.alloc HH54.out (Below.size HH54.out) (Obj.cells (uC (l ++ (m ++ k))) 24))
        have HB60 := Lib.hid (heap_alloc_new v53 (Obj.cells (uC (l ++ (m ++ k))) 24))
        have HB61 := Lib.hid ((Below.heap_alloc v53 (Obj.cells (uC (l ++ (m ++ k))) 24) _ (lt_of_block HB56.out)).trans HB56.out)
        clear HH54 HB56
        generalize v53.alloc (Obj.cells (uC (l ++ (m ++ k))) 24) = v57 at *
        generalize v53.heap.size = b59 at *
        refine one_ready 33 (by kernel_rfl) rfl (by rfl) (fun K hK => ?_)
        go_simp
        refine (join3 l m k _ _ v57 HL.out HM.out HK.out HB60.out).mono ?_
        rintro e v62 ⟨rfl, hb⟩
        go_wp2_with fail
        refine hK.out _ _ (HS.out _ (Below.step HH58.out hb)) ?_
        clear hK K
        try simp only [Act.put, List.setIfInBounds_toArray, List.set_cons_zero, List.set_cons_succ]
        have HH63 := Lib.hid (Below.step HH58.out hb)
        have HB64 := Lib.hid ((hb.block _ (lt_of_block HB61.out)).trans HB61.out)
        clear hb HH58 HB61 HB60
        refine one_ready 37 (by kernel_rfl) rfl (by rfl) (fun K hK => ?_)
        go_simp
        refine (join2 lm k _ _ v62 ILM.out HK.out HB64.out).mono ?_
        rintro e v65 ⟨rfl, hb⟩
        go_wp2_with fail
        refine hK.out _ _ (HS.out _ (Below.step HH63.out hb)) ?_
        clear hK K
        try simp only [Act.put, List.setIfInBounds_toArray, List.set_cons_zero, List.set_cons_succ]
        have HH66 := Lib.hid (Below.step HH63.out hb)
        clear hb HH63 HB64
        refine take_val 38 (.bool true) rfl (by kernel_rfl) (by kernel_rfl) (by kernel_rfl) (fun _ _ _ _ h => h) (by rfl) rfl (fun w _ => val_eqB _ _ _ rfl (bjoin (bjoin l m) k) (bjoin lm k) rfl rfl (bjoin_ok (bjoin_ok HL.out HM.out) HK.out) (bjoin_ok ILM.out HK.out) (congrArg (bjoin · k) ELM.out.symm) _) (HS.out _ HH66.out) ?_
        try simp only [List.set_cons_zero, List.set_cons_succ]
        refine take_val 39 (.bool true) rfl (by kernel_rfl) (by kernel_rfl) (by kernel_rfl) (fun _ _ _ _ h => h) (by rfl) rfl (fun w _ => by go_simp) (HS.out _ HH66.out) ?_
        try simp only [List.set_cons_zero, List.set_cons_succ]
        refine take_val 40 (.bool true) rfl (by kernel_rfl) (by kernel_rfl) (by kernel_rfl) (fun _ _ _ _ h => h) (by rfl) rfl (fun w _ => by go_simp) (HS.out _ HH66.out) ?_
        try simp only [List.set_cons_zero, List.set_cons_succ]
        refine wpAnyH_done (by kernel_rfl) ?_ _
        refine NoPanic.normal ?_
        exact HKK _ _ (joins_tail l m k a lm ad w w8 n5 n7 HL HM HA HAB ELM ILM EAD IAD B8 HS hil hilm hiad hia _ _ _ _ _ _ _ _ _ _ _ _ _ _ _ _ _ _ _ _ _ _ _ _ _ _ _ _ _ _ _ _ _ _ _ _ _ _ _ _ _ _ _ _ _ _ _ _ _ _ _ _ _ _ _ _ _ _ _ _ _ _ _ _ _ _ _ _ _ _ _ _ _ _ _ _ _ _ _  _ HH66)
    · refine wp_bs2 _ _  rfl m k (by rfl) (by rfl)  HM.out HK.out ?_
      rw [put_eq rfl]
      try simp only [List.set_cons_zero, List.set_cons_succ]
      refine hK.out _ _ (HS.out _ (Below.alloc HH8.out (Below.size HH8.out) _)) ?_
      clear hK K
      have HH68 := Lib.hid (Below.alloc HH8.out (Below.size HH8.out) (Obj.cells (uC (m ++ k)) 24))
      have HB70 := Lib.hid (heap_alloc_new v7 (Obj.cells (uC (m ++ k)) 24))
      have HB71 := Lib.hid ((Below.heap_alloc v7 (Obj.cells (uC (m ++ k)) 24) _ (lt_of_block HB10.out)).trans HB10.out)
      clear HH8 HB10
      generalize v7.alloc (Obj.cells (uC (m ++ k)) 24) = v67 at *
      generalize v7.heap.size = b69 at *
      refine one_ready 10 (by kernel_rfl) rfl (by rfl) (fun K hK => ?_)
      go_simp
      refine (join2 lm k _ _ v67 ILM.out HK.out HB71.out).mono ?_
      rintro e v72 ⟨rfl, hb⟩
      go_wp2_with fail
      refine hK.out _ _ (HS.out _ (Below.step HH68.out hb)) ?_
      clear hK K
      try simp only [Act.put, List.setIfInBounds_toArray, List.set_cons_zero, List.set_cons_succ]
      have HH73 := Lib.hid (Below.step HH68.out hb)
      have HB74 := Lib.hid ((hb.block _ (lt_of_block HB70.out)).trans HB70.out)
      clear hb HH68 HB71 HB70
      refine one_ready 15 (by kernel_rfl) rfl (by rfl) (fun K hK => ?_)
      go_simp
      refine (join2 m k _ _ v72 HM.out HK.out HB74.out).mono ?_
      rintro e v75 ⟨rfl, hb⟩
      go_wp2_with fail
      refine hK.out _ _ (HS.out _ (Below.step HH73.out hb)) ?_
      clear hK K
      try simp only [Act.put, List.setIfInBounds_toArray, List.set_cons_zero, List.set_cons_succ]
      have HH76 := Lib.hid (Below.step HH73.out hb)
      clear hb HH73 HB74
      refine one_ready 16 (by kernel_rfl) rfl (by rfl) (fun K hK => ?_)
      refine wp_bs2 _ _  rfl l (bjoin m k) (by rfl) (by rfl)  HL.out (bjoin_ok HM.out HK.out) ?_
      rw [put_eq rfl]
      try simp only [List.set_cons_zero, List.set_cons_succ]
      refine hK.out _ _ (HS.out _ (Below.alloc HH76.out (Below.size HH76.out) _)) ?_
      clear hK K
      have HH78 := Lib.hid (Below.alloc HH76.out (Below.size HH76.out) (Obj.cells (uC (l ++ (bjoin m k))) 24))
      have HB80 := Lib.hid (heap_alloc_new v75 (Obj.cells (uC (l ++ (bjoin m k))) 24))
      clear HH76
      generalize v75.alloc (Obj.cells (uC (l ++ (bjoin m k))) 24) = v77 at *
      generalize v75.heap.size = b79 at *
      refine one_ready 17 (by kernel_rfl) rfl (by rfl) (fun K hK => ?_)
      go_simp
      refine (join2 l (bjoin m k) _ _ v77 HL.out (bjoin_ok HM.out HK.out) HB80.out).mono ?_
      rintro e v81 ⟨rfl, hb⟩
      go_wp2_with fail
      refine hK.out _ _ (HS.out _ (Below.step HH78.out hb)) ?_
      clear hK K
      try simp only [Act.put, List.setIfInBounds_toArray, List.set_cons_zero, List.set_cons_succ]
      have HH82 := Lib.hid (Below.step HH78.out hb)
      clear hb HH78 HB80
      refine take_val 18 (.bool true) rfl (by kernel_rfl) (by kernel_rfl) (by kernel_rfl) (fun _ _ _ _ h => h) (by rfl) rfl (fun w _ => val_eqB _ _ _ rfl (bjoin lm k) (bjoin l (bjoin m k)) rfl rfl (bjoin_ok ILM.out HK.out) (bjoin_ok HL.out (bjoin_ok HM.out HK.out)) ((congrArg (bjoin · k) ELM.out).trans (bjoin_assoc HL.out HM.out HK.out)) _) (HS.out _ HH82.out) ?_
      try simp only [List.set_cons_zero, List.set_cons_succ]
      refine take_val 19 (.bool true) rfl (by kernel_rfl) (by kernel_rfl) (by kernel_rfl) (fun _ _ _ _ h => h) (by rfl) rfl (fun w _ => by go_simp) (HS.out _ HH82.out) ?_
      try simp only [List.set_cons_zero, List.set_cons_succ]
      refine take_val 20 (.bool true) rfl (by kernel_rfl) (by kernel_rfl) (by kernel_rfl) (fun _ _ _ _ h => h) (by rfl) rfl (fun w _ => by go_simp) (HS.out _ HH82.out) ?_
      try simp only [List.set_cons_zero, List.set_cons_succ]
      refine take_row 21 rfl (by kernel_rfl) (by kernel_rfl) (by kernel_rfl) (fun _ _ _ _ h => h) (by rfl) rfl rfl rfl (fun _ hSw => hSw.1) hu rfl hil (HS.out _ HH82.out) ?_
      try simp only [List.set_cons_zero, List.set_cons_succ]
      refine take_row 22 rfl (by kernel_rfl) (by kernel_rfl) (by kernel_rfl) (fun _ _ _ _ h => h) (by rfl) rfl rfl rfl (fun _ hSw => hSw.1) hu rfl hil (HS.out _ HH82.out) ?_
      try simp only [List.set_cons_zero, List.set_cons_succ]
      refine take_row 25 rfl (by kernel_rfl) (by kernel_rfl) (by kernel_rfl) (fun _ _ _ _ h => h) (by rfl) rfl rfl rfl (fun _ hSw => hSw.1) hu rfl hil (HS.out _ HH82.out) ?_
      try simp only [List.set_cons_zero, List.set_cons_succ]
      refine one_ready 23 (by kernel_rfl) rfl (by rfl) (fun K hK => ?_)
      refine wp_bs2 _ _  rfl l l (by rfl) (by rfl)  HL.out HL.out ?_
      rw [put_eq rfl]
      try simp only [List.set_cons_zero, List.set_cons_succ]
      refine hK.out _ _ (HS.out _ (Below.alloc HH82.out (Below.size HH82.out) _)) ?_
      clear hK K
      have HH84 := Lib.hid (Below.alloc HH82.out (Below.size HH82.out) (Obj.cells (uC (l ++ l)) 24))
      have HB86 := Lib.hid (heap_alloc_new v81 (Obj.cells (uC (l ++ l)) 24))
      clear HH82
      generalize v81.alloc (Obj.cells (uC (l ++ l)) 24) = v83 at *
      generalize v81.heap.size = b85 at *
      refine one_ready 24 (by kernel_rfl) rfl (by rfl) (fun K hK => ?_)
      go_simp
      refine (join2 l l _ _ v83 HL.out HL.out HB86.out).mono ?_
      rintro e v87 ⟨rfl, hb⟩
      go_wp2_with fail
      refine hK.out _ _ (HS.out _ (Below.step HH84.out hb)) ?_
      clear hK K
      try simp only [Act.put, List.setIfInBounds_toArray, List.set_cons_zero, List.set_cons_succ]
      have HH88 := Lib.hid (Below.step HH84.out hb)
      clear hb HH84 HB86
      refine take_val 26 (.bool true) rfl (by kernel_rfl) (by kernel_rfl) (by kernel_rfl) (fun _ _ _ _ h => h) (by rfl) rfl (fun w _ => val_eqB _ _ _ rfl (bjoin l l) l rfl rfl (bjoin_ok HL.out HL.out) HL.out (bjoin_self HL.out) _) (HS.out _ HH88.out) ?_
      try simp only [List.set_cons_zero, List.set_cons_succ]
      refine take_val 27 (.bool true) rfl (by kernel_rfl) (by kernel_rfl) (by kernel_rfl) (fun _ _ _ _ h => h) (by rfl) rfl (fun w _ => by go_simp) (HS.out _ HH88.out) ?_
      try simp only [List.set_cons_zero, List.set_cons_succ]
      refine take_val 28 (.bool true) rfl (by kernel_rfl) (by kernel_rfl) (by kernel_rfl) (fun _ _ _ _ h => h) (by rfl) rfl (fun w _ => by go_simp) (HS.out _ HH88.out) ?_
      try simp only [List.set_cons_zero, List.set_cons_succ]
      refine take_row 29 rfl (by kernel_rfl) (by kernel_rfl) (by kernel_rfl) (fun _ _ _ _ h => h) (by rfl) rfl rfl rfl (fun _ hSw => hSw.1) hu rfl hil (HS.out _ HH88.out) ?_
      try simp only [List.set_cons_zero, List.set_cons_succ]
      refine take_row 30 rfl (by kernel_rfl) (by kernel_rfl) (by kernel_rfl) (fun _ _ _ _ h => h) (by rfl) rfl rfl rfl (fun _ hSw => hSw.2.1) hu rfl him (HS.out _ HH88.out) ?_
      try simp only [List.set_cons_zero, List.set_cons_succ]
      refine take_row 31 rfl (by kernel_rfl) (by kernel_rfl) (by kernel_rfl) (fun _ _ _ _ h => h) (by rfl) rfl rfl rfl (fun _ hSw => hSw.2.2.1) hu rfl hik (HS.out _ HH88.out) ?_
      try simp only [List.set_cons_zero, List.set_cons_succ]
      refine take_row 34 rfl (by kernel_rfl) (by kernel_rfl) (by kernel_rfl) (fun _ _ _ _ h => h) (by rfl) rfl rfl rfl (fun _ hSw => hSw.2.2.2.1) hu rfl hilm (HS.out _ HH88.out) ?_
      try simp only [List.set_cons_zero, List.set_cons_succ]
      refine take_row 35 rfl (by kernel_rfl) (by kernel_rfl) (by kernel_rfl) (fun _ _ _ _ h => h) (by rfl) rfl rfl rfl (fun _ hSw => hSw.2.2.1) hu rfl hik (HS.out _ HH88.out) ?_
      try simp only [List.set_cons_zero, List.set_cons_succ]
      refine two_ready 32 36 (by kernel_rfl) rfl rfl (by rfl) (by rfl) (fun K hK => ?_) (fun K hK => ?_)
      · refine wp_bs3 _ _ _  rfl l m k (by rfl) (by rfl) (by rfl)  HL.out HM.out HK.out ?_
        rw [put_eq rfl]
        try simp only [List.set_cons_zero, List.set_cons_succ]
        refine hK.out _ _ (HS.out _ (Below.alloc HH88.out (Below.size HH88.out) _)) ?_
        clear hK K
        have HH90 := Lib.hid (Below.alloc HH88.out (Below.size HH88.out) (Obj.cells (uC (l ++ (m ++ k))) 24))
        have HB92 := Lib.hid (heap_alloc_new v87 (Obj.cells (uC (l ++ (m ++ k))) 24))
        clear HH88
        generalize v87.alloc (Obj.cells (uC (l ++ (m ++ k))) 24) = v89 at *
        generalize v87.heap.size = b91 at *
        refine two_ready 33 36 (by kernel_rfl) rfl rfl (by rfl) (by rfl) (fun K hK => ?_) (fun K hK => ?_)
        · go_simp
          refine (join3 l m k _ _ v89 HL.out HM.out HK.out HB92.out).mono ?_
          rintro e v93 ⟨rfl, hb⟩
          go_wp2_with fail
          refine hK.out _ _ (HS.out _ (Below.step HH90.out hb)) ?_
          clear hK K
          try simp only [Act.put, List.setIfInBounds_toArray, List.set_cons_zero, List.set_cons_succ]
          have HH94 := Lib.hid (Below.step HH90.out hb)
          clear hb HH90 HB92
          refine one_ready 36 (by kernel_rfl) rfl (by rfl) (fun K hK => ?_)
          refine wp_bs2 _ _  rfl lm k (by rfl) (by rfl)  ILM.out HK.out ?_
          rw [put_eq rfl]
          try simp only [List.set_cons_zero, List.set_cons_succ]
          refine hK.out _ _ (HS.out _ (Below.alloc HH94.out (Below.size HH94.out) _)) ?_
          clear hK K
          have HH96 := Lib.hid (Below.alloc HH94.out (Below.size HH94.out) (Obj.cells (uC (lm ++ k)) 24))
          have HB98 := Lib.hid (heap_alloc_new v93 (Obj.cells (uC (lm ++ k)) 24))
          clear HH94
          generalize v93.alloc (Obj.cells (uC (lm ++ k)) 24) = v95 at *
          generalize v93.heap.size = b97 at *
          refine one_ready 37 (by kernel_rfl) rfl (by rfl) (fun K hK => ?_)
          go_simp
          refine (join2 lm k _ _ v95 ILM.out HK.out HB98.out).mono ?_
          rintro e v99 ⟨rfl, hb⟩
          go_wp2_with fail
          refine hK.out _ _ (HS.out _ (Below.step HH96.out hb)) ?_
          clear hK K
          try simp only [Act.put, List.setIfInBounds_toArray, List.set_cons_zero, List.set_cons_succ]
          have HH100 := Lib.hid (Below.step HH96.out hb)
          clear hb HH96 HB98
          refine take_val 38 (.bool true) rfl (by kernel_rfl) (by kernel_rfl) (by kernel_rfl) (fun _ _ _ _ h => h) (by rfl) rfl (fun w _ => val_eqB _ _ _ rfl (bjoin (bjoin l m) k) (bjoin lm k) rfl rfl (bjoin_ok (bjoin_ok HL.out HM.out) HK.out) (bjoin_ok ILM.out HK.out) (congrArg (bjoin · k) ELM.out.symm) _) (HS.out _ HH100.out) ?_
          try simp only [List.set_cons_zero, List.set_cons_succ]
          refine take_val 39 (.bool true) rfl (by kernel_rfl) (by kernel_rfl) (by kernel_rfl) (fun _ _ _ _ h => h) (by rfl) rfl (fun w _ => by go_simp) (HS.out _ HH100.out) ?_
          try simp only [List.set_cons_zero, List.set_cons_succ]
          refine take_val 40 (.bool true) rfl (by kernel_rfl) (by kernel_rfl) (by kernel_rfl) (fun _ _ _ _ h => h) (by rfl) rfl (fun w _ => by go_simp) (HS.out _ HH100.out) ?_
          try simp only [List.set_cons_zero, List.set_cons_succ]
          refine wpAnyH_done (by kernel_rfl) ?_ _
          refine NoPanic.normal ?_
          exact HKK _ _ (joins_tail l m k a lm ad w w8 n5 n7 HL HM HA HAB ELM ILM EAD IAD B8 HS hil hilm hiad hia _ _ _ _ _ _ _ _ _ _ _ _ _ _ _ _ _ _ _ _ _ _ _ _ _ _ _ _ _ _ _ _ _ _ _ _ _ _ _ _ _ _ _ _ _ _ _ _ _ _ _ _ _ _ _ _ _ _ _ _ _ _ _ _ _ _ _ _ _ _ _ _ _ _ _ _ _ _ _  _ HH100)
        · refine wp_bs2 _ _  rfl lm k (by rfl) (by rfl)  ILM.out HK.out ?_
          rw [put_eq rfl]
          try simp only [List.set_cons_zero, List.set_cons_succ]
          refine hK.out _ _ (HS.out _ (Below.alloc HH90.out (Below.size HH90.out) _)) ?_
          clear hK K
          have HH102 := Lib.hid (Below.alloc HH90.out (Below.size HH90.out) (Obj.cells (uC (lm ++ k)) 24))
          have HB104 := Lib.hid (heap_alloc_new v89 (Obj.cells (uC (lm ++ k)) 24))
          have HB105 := Lib.hid ((Below.heap_alloc v89 (Obj.cells (uC (lm ++ k)) 24) _ (lt_of_block HB92.out)).trans HB92.out)
          clear HH90 HB92
          generalize v89.alloc (Obj.cells (uC (lm ++ k)) 24) = v101 at *
          generalize v89.heap.size = b103 at *
          refine one_ready 33 (by kernel_rfl) rfl (by rfl) (fun K hK => ?_)
          go_simp
          refine (join3 l m k _ _ v101 HL.out HM.out HK.out HB105.out).mono ?_
          rintro e v106 ⟨rfl, hb⟩
          go_wp2_with fail
          refine hK.out _ _ (HS.out _ (Below.step HH102.out hb)) ?_
          clear hK K
          try simp only [Act.put, List.setIfInBounds_toArray, List.set_cons_zero, List.set_cons_succ]
          have HH107 := Lib.hid (Below.step HH102.out hb)
          have HB108 := Lib.hid ((hb.block _ (lt_of_block HB104.out)).trans HB104.out)
          clear hb HH102 HB105 HB104
          refine one_ready 37 (by kernel_rfl) rfl (by rfl) (fun K hK => ?_)
          go_simp
          refine (join2 lm k _ _ v106 ILM.out HK.out HB108.out).mono ?_
          rintro e v109 ⟨rfl, hb⟩
          go_wp2_with fail
          refine hK.out _ _ (HS.out _ (Below.step HH107.out hb)) ?_
          clear hK K
          try simp only [Act.put, List.setIfInBounds_toArray, List.set_cons_zero, List.set_cons_succ]
          have HH110 := Lib.hid (Below.step HH107.out hb)
          clear hb HH107 HB108
          refine take_val 38 (.bool true) rfl (by kernel_rfl) (by kernel_rfl) (by kernel_rfl) (fun _ _ _ _ h => h) (by rfl) rfl (fun w _ => val_eqB _ _ _ rfl (bjoin (bjoin l m) k) (bjoin lm k) rfl rfl (bjoin_ok (bjoin_ok HL.out HM.out) HK.out) (bjoin_ok ILM.out HK.out) (congrArg (bjoin · k) ELM.out.symm) _) (HS.out _ HH110.out) ?_
          try simp only [List.set_cons_zero, List.set_cons_succ]
          refine take_val 39 (.bool true) rfl (by kernel_rfl) (by kernel_rfl) (by kernel_rfl) (fun _ _ _ _ h => h) (by rfl) rfl (fun w _ => by go_simp) (HS.out _ HH110.out) ?_
          try simp only [List.set_cons_zero, List.set_cons_succ]
          refine take_val 40 (.bool true) rfl (by kernel_rfl) (by kernel_rfl) (by kernel_rfl) (fun _ _ _ _ h => h) (by rfl) rfl (fun w _ => by go_simp) (HS.out _ HH110.out) ?_
          try simp only [List.set_cons_zero, List.set_cons_succ]
          refine wpAnyH_done (by kernel_rfl) ?_ _
          refine NoPanic.normal ?_
          exact HKK _ _ (joins_tail l m k a lm ad w w8 n5 n7 HL HM HA HAB ELM ILM EAD IAD B8 HS hil hilm hiad hia _ _ _ _ _ _ _ _ _ _ _ _ _ _ _ _ _ _ _ _ _ _ _ _ _ _ _ _ _ _ _ _ _ _ _ _ _ _ _ _ _ _ _ _ _ _ _ _ _ _ _ _ _ _ _ _ _ _ _ _ _ _ _ _ _ _ _ _ _ _ _ _ _ _ _ _ _ _ _  _ HH110)
      · refine wp_bs2 _ _  rfl lm k (by rfl) (by rfl)  ILM.out HK.out ?_
        rw [put_eq rfl]
        try simp only [List.set_cons_zero, List.set_cons_succ]
        refine hK.out _ _ (HS.out _ (Below.alloc HH88.out (Below.size HH88.out) _)) ?_
        clear hK K
        have HH112 := Lib.hid (Below.alloc HH88.out (Below.size HH88.out) (Obj.cells (uC (lm ++ k)) 24))
        have HB114 := Lib.hid (heap_alloc_new v87 (Obj.cells (uC (lm ++ k)) 24))
        clear HH88
        generalize v87.alloc (Obj.cells (uC (lm ++ k)) 24) = v111 at *
        generalize v87.heap.size = b113 at *
        refine one_ready 32 (by kernel_rfl) rfl (by rfl) (fun K hK => ?_)
        refine wp_bs3 _ _ _  rfl l m k (by rfl) (by rfl) (by rfl)  HL.out HM.out HK.out ?_
        rw [put_eq rfl]
        try simp only [List.set_cons_zero, List.set_cons_succ]
        refine hK.out _ _ (HS.out _ (Below.alloc HH112.out (Below.size HH112.out) _)) ?_
        clear hK K
        have HH116 := Lib.hid (Below.alloc HH112.out (Below.size HH112.out) (Obj.cells (uC (l ++ (m ++ k))) 24))
        have HB118 := Lib.hid (heap_alloc_new v111 (Obj.cells (uC (l ++ (m ++ k))) 24))
        have HB119 := Lib.hid ((Below.heap_alloc v111 (Obj.cells (uC (l ++ (m ++ k))) 24) _ (lt_of_block HB114.out)).trans HB114.out)
        clear HH112 HB114
        generalize v111.alloc (Obj.cells (uC (l ++ (m ++ k))) 24) = v115 at *
        generalize v111.heap.size = b117 at *
        refine one_ready 33 (by kernel_rfl) rfl (by rfl) (fun K hK => ?_)
        go_simp
        refine (join3 l m k _ _ v115 HL.out HM.out HK.out HB118.out).mono ?_
        rintro e v120 ⟨rfl, hb⟩
        go_wp2_with fail
        refine hK.out _ _ (HS.out _ (Below.step HH116.out hb)) ?_
        clear hK K
        try simp only [Act.put, List.setIfInBounds_toArray, List.set_cons_zero, List.set_cons_succ]
        have HH121 := Lib.hid (Below.step HH116.out hb)
        have HB122 := Lib.hid ((hb.block _ (lt_of_block HB119.out)).trans HB119.out)
        clear hb HH116 HB119 HB118
        refine one_ready 37 (by kernel_rfl) rfl (by rfl) (fun K hK => ?_)
        go_simp
        refine (join2 lm k _ _ v120 ILM.out HK.out HB122.out).mono ?_
        rintro e v123 ⟨rfl, hb⟩
        go_wp2_with fail
        refine hK.out _ _ (HS.out _ (Below.step HH121.out hb)) ?_
        clear hK K
        try simp only [Act.put, List.setIfInBounds_toArray, List.set_cons_zero, List.set_cons_succ]
        have HH124 := Lib.hid (Below.step HH121.out hb)
        clear hb HH121 HB122
        refine take_val 38 (.bool true) rfl (by kernel_rfl) (by kernel_rfl) (by kernel_rfl) (fun _ _ _ _ h => h) (by rfl) rfl (fun w _ => val_eqB _ _ _ rfl (bjoin (bjoin l m) k) (bjoin lm k) rfl rfl (bjoin_ok (bjoin_ok HL.out HM.out) HK.out) (bjoin_ok ILM.out HK.out) (congrArg (bjoin · k) ELM.out.symm) _) (HS.out _ HH124.out) ?_
        try simp only [List.set_cons_zero, List.set_cons_succ]
        refine take_val 39 (.bool true) rfl (by kernel_rfl) (by kernel_rfl) (by kernel_rfl) (fun _ _ _ _ h => h) (by rfl) rfl (fun w _ => by go_simp) (HS.out _ HH124.out) ?_
        try simp only [List.set_cons_zero, List.set_cons_succ]
        refine take_val 40 (.bool true) rfl (by kernel_rfl) (by kernel_rfl) (by kernel_rfl) (fun _ _ _ _ h => h) (by rfl) rfl (fun w _ => by go_simp) (HS.out _ HH124.out) ?_
        try simp only [List.set_cons_zero, List.set_cons_succ]
        refine wpAnyH_done (by kernel_rfl) ?_ _
        refine NoPanic.normal ?_
        exact HKK _ _ (joins_tail l m k a lm ad w w8 n5 n7 HL HM HA HAB ELM ILM EAD IAD B8 HS hil hilm hiad hia _ _ _ _ _ _ _ _ _ _ _ _ _ _ _ _ _ _ _ _ _ _ _ _ _ _ _ _ _ _ _ _ _ _ _ _ _ _ _ _ _ _ _ _ _ _ _ _ _ _ _ _ _ _ _ _ _ _ _ _ _ _ _ _ _ _ _ _ _ _ _ _ _ _ _ _ _ _ _  _ HH124)
  · refine wp_bs2 _ _  rfl m k (by rfl) (by rfl)  HM.out HK.out ?_
    rw [put_eq rfl]
    try simp only [List.set_cons_zero, List.set_cons_succ]
    refine hK.out _ _ (HS.out _ (Below.alloc HH6.out (Below.size HH6.out) _)) ?_
    clear hK K
    have HH126 := Lib.hid (Below.alloc HH6.out (Below.size HH6.out) (Obj.cells (uC (m ++ k)) 24))
    have HB128 := Lib.hid (heap_alloc_new v5 (Obj.cells (uC (m ++ k)) 24))
    clear HH6
    generalize v5.alloc (Obj.cells (uC (m ++ k)) 24) = v125 at *
    generalize v5.heap.size = b127 at *
    refine one_ready 9 (by kernel_rfl) rfl (by rfl) (fun K hK => ?_)
    refine wp_bs2 _ _  rfl lm k (by rfl) (by rfl)  ILM.out HK.out ?_
    rw [put_eq rfl]
    try simp only [List.set_cons_zero, List.set_cons_succ]
    refine hK.out _ _ (HS.out _ (Below.alloc HH126.out (Below.size HH126.out) _)) ?_
    clear hK K
    have HH130 := Lib.hid (Below.alloc HH126.out (Below.size HH126.out) (Obj.cells (uC (lm ++ k)) 24))
    have HB132 := Lib.hid (heap_alloc_new v125 (Obj.cells (uC (lm ++ k)) 24))
    have HB133 := Lib.hid ((Below.heap_alloc v125 (Obj.cells (uC (lm ++ k)) 24) _ (lt_of_block HB128.out)).trans HB128.out)
    clear HH126 HB128
    generalize v125.alloc (Obj.cells (uC (lm ++ k)) 24) = v129 at *
    generalize v125.heap.size = b131 at *
    refine one_ready 10 (by kernel_rfl) rfl (by rfl) (fun K hK => ?_)
    go_simp
    refine (join2 lm k _ _ v129 ILM.out HK.out HB132.out).mono ?_
    rintro e v134 ⟨rfl, hb⟩
    go_wp2_with fail
    refine hK.out _ _ (HS.out _ (Below.step HH130.out hb)) ?_
    clear hK K
    try simp only [Act.put, List.setIfInBounds_toArray, List.set_cons_zero, List.set_cons_succ]
    have HH135 := Lib.hid (Below.step HH130.out hb)
    have HB136 := Lib.hid ((hb.block _ (lt_of_block HB133.out)).trans HB133.out)
    clear hb HH130 HB133 HB132
    refine one_ready 15 (by kernel_rfl) rfl (by rfl) (fun K hK => ?_)
    go_simp
    refine (join2 m k _ _ v134 HM.out HK.out HB136.out).mono ?_
    rintro e v137 ⟨rfl, hb⟩
    go_wp2_with fail
    refine hK.out _ _ (HS.out _ (Below.step HH135.out hb)) ?_
    clear hK K
    try simp only [Act.put, List.setIfInBounds_toArray, List.set_cons_zero, List.set_cons_succ]
    have HH138 := Lib.hid (Below.step HH135.out hb)
    clear hb HH135 HB136
    refine one_ready 16 (by kernel_rfl) rfl (by rfl) (fun K hK => ?_)
    refine wp_bs2 _ _  rfl l (bjoin m k) (by rfl) (by rfl)  HL.out (bjoin_ok HM.out HK.out) ?_
    rw [put_eq rfl]
    try simp only [List.set_cons_zero, List.set_cons_succ]
    refine hK.out _ _ (HS.out _ (Below.alloc HH138.out (Below.size HH138.out) _)) ?_
    clear hK K
    have HH140 := Lib.hid (Below.alloc HH138.out (Below.size HH138.out) (Obj.cells (uC (l ++ (bjoin m k))) 24))
    have HB142 := Lib.hid (heap_alloc_new v137 (Obj.cells (uC (l ++ (bjoin m k))) 24))
    clear HH138
    generalize v137.alloc (Obj.cells (uC (l ++ (bjoin m k))) 24) = v139 at *
    generalize v137.heap.size = b141 at *
    refine one_ready 17 (by kernel_rfl) rfl (by rfl) (fun K hK => ?_)
    go_simp
    refine (join2 l (bjoin m k) _ _ v139 HL.out (bjoin_ok HM.out HK.out) HB142.out).mono ?_
    rintro e v143 ⟨rfl, hb⟩
    go_wp2_with fail
    refine hK.out _ _ (HS.out _ (Below.step HH140.out hb)) ?_
    clear hK K
    try simp only [Act.put, List.setIfInBounds_toArray, List.set_cons_zero, List.set_cons_succ]
    have HH144 := Lib.hid (Below.step HH140.out hb)
    clear hb HH140 HB142
    refine take_val 18 (.bool true) rfl (by kernel_rfl) (by kernel_rfl) (by kernel_rfl) (fun _ _ _ _ h => h) (by rfl) rfl (fun w _ => val_eqB _ _ _ rfl (bjoin lm k) (bjoin l (bjoin m k)) rfl rfl (bjoin_ok ILM.out HK.out) (bjoin_ok HL.out (bjoin_ok HM.out HK.out)) ((congrArg (bjoin · k) ELM.out).trans (bjoin_assoc HL.out HM.out HK.out)) _) (HS.out _ HH144.out) ?_
    try simp only [List.set_cons_zero, List.set_cons_succ]
    refine take_val 19 (.bool true) rfl (by kernel_rfl) (by kernel_rfl) (by kernel_rfl) (fun _ _ _ _ h => h) (by rfl) rfl (fun w _ => by go_simp) (HS.out _ HH144.out) ?_
    try simp only [List.set_cons_zero, List.set_cons_succ]
    refine take_val 20 (.bool true) rfl (by kernel_rfl) (by kernel_rfl) (by kernel_rfl) (fun _ _ _ _ h => h) (by rfl) rfl (fun w _ => by go_simp) (HS.out _ HH144.out) ?_
    try simp only [List.set_cons_zero, List.set_cons_succ]
    refine take_row 21 rfl (by kernel_rfl) (by kernel_rfl) (by kernel_rfl) (fun _ _ _ _ h => h) (by rfl) rfl rfl rfl (fun _ hSw => hSw.1) hu rfl hil (HS.out _ HH144.out) ?_
    try simp only [List.set_cons_zero, List.set_cons_succ]
    refine take_row 22 rfl (by kernel_rfl) (by kernel_rfl) (by kernel_rfl) (fun _ _ _ _ h => h) (by rfl) rfl rfl rfl (fun _ hSw => hSw.1) hu rfl hil (HS.out _ HH144.out) ?_
    try simp only [List.set_cons_zero, List.set_cons_succ]
    refine take_row 25 rfl (by kernel_rfl) (by kernel_rfl) (by kernel_rfl) (fun _ _ _ _ h => h) (by rfl) rfl rfl rfl (fun _ hSw => hSw.1) hu rfl hil (HS.out _ HH144.out) ?_
    try simp only [List.set_cons_zero, List.set_cons_succ]
    refine one_ready 23 (by kernel_rfl) rfl (by rfl) (fun K hK => ?_)
    refine wp_bs2 _ _  rfl l l (by rfl) (by rfl)  HL.out HL.out ?_
    rw [put_eq rfl]
    try simp only [List.set_cons_zero, List.set_cons_succ]
    refine hK.out _ _ (HS.out _ (Below.alloc HH144.out (Below.size HH144.out) _)) ?_
    clear hK K
    have HH146 := Lib.hid (Below.alloc HH144.out (Below.size HH144.out) (Obj.cells (uC (l ++ l)) 24))
    have HB148 := Lib.hid (heap_alloc_new v143 (Obj.cells (uC (l ++ l)) 24))
    clear HH144
    generalize v143.alloc (Obj.cells (uC (l ++ l)) 24) = v145 at *
    generalize v143.heap.size = b147 at *
    refine one_ready 24 (by kernel_rfl) rfl (by rfl) (fun K hK => ?_)
    go_simp
    refine (join2 l l _ _ v145 HL.out HL.out HB148.out).mono ?_
    rintro e v149 ⟨rfl, hb⟩
    go_wp2_with fail
    refine hK.out _ _ (HS.out _ (Below.step HH146.out hb)) ?_
    clear hK K
    try simp only [Act.put, List.setIfInBounds_toArray, List.set_cons_zero, List.set_cons_succ]
    have HH150 := Lib.hid (Below.step HH146.out hb)
    clear hb HH146 HB148
    refine take_val 26 (.bool true) rfl (by kernel_rfl) (by kernel_rfl) (by kernel_rfl) (fun _ _ _ _ h => h) (by rfl) rfl (fun w _ => val_eqB _ _ _ rfl (bjoin l l) l rfl rfl (bjoin_ok HL.out HL.out) HL.out (bjoin_self HL.out) _) (HS.out _ HH150.out) ?_
    try simp only [List.set_cons_zero, List.set_cons_succ]
    refine take_val 27 (.bool true) rfl (by kernel_rfl) (by kernel_rfl) (by kernel_rfl) (fun _ _ _ _ h => h) (by rfl) rfl (fun w _ => by go_simp) (HS.out _ HH150.out) ?_
    try simp only [List.set_cons_zero, List.set_cons_succ]
    refine take_val 28 (.bool true) rfl (by kernel_rfl) (by kernel_rfl) (by kernel_rfl) (fun _ _ _ _ h => h) (by rfl) rfl (fun w _ => by go_simp) (HS.out _ HH150.out) ?_
    try simp only [List.set_cons_zero, List.set_cons_succ]
    refine take_row 29 rfl (by kernel_rfl) (by kernel_rfl) (by kernel_rfl) (fun _ _ _ _ h => h) (by rfl) rfl rfl rfl (fun _ hSw => hSw.1) hu rfl hil (HS.out _ HH150.out) ?_
    try simp only [List.set_cons_zero, List.set_cons_succ]
    refine take_row 30 rfl (by kernel_rfl) (by kernel_rfl) (by kernel_rfl) (fun _ _ _ _ h => h) (by rfl) rfl rfl rfl (fun _ hSw => hSw.2.1) hu rfl him (HS.out _ HH150.out) ?_
    try simp only [List.set_cons_zero, List.set_cons_succ]
    refine take_row 31 rfl (by kernel_rfl) (by kernel_rfl) (by kernel_rfl) (fun _ _ _ _ h => h) (by rfl) rfl rfl rfl (fun _ hSw => hSw.2.2.1) hu rfl hik (HS.out _ HH150.out) ?_
    try simp only [List.set_cons_zero, List.set_cons_succ]
    refine take_row 34 rfl (by kernel_rfl) (by kernel_rfl) (by kernel_rfl) (fun _ _ _ _ h => h) (by rfl) rfl rfl rfl (fun _ hSw => hSw.2.2.2.1) hu rfl hilm (HS.out _ HH150.out) ?_
    try simp only [List.set_cons_zero, List.set_cons_succ]
    refine take_row 35 rfl (by kernel_rfl) (by kernel_rfl) (by kernel_rfl) (fun _ _ _ _ h => h) (by rfl) rfl rfl rfl (fun _ hSw => hSw.2.2.1) hu rfl hik (HS.out _ HH150.out) ?_
    try simp only [List.set_cons_zero, List.set_cons_succ]
    refine two_ready 32 36 (by kernel_rfl) rfl rfl (by rfl) (by rfl) (fun K hK => ?_) (fun K hK => ?_)
    · refine wp_bs3 _ _ _  rfl l m k (by rfl) (by rfl) (by rfl)  HL.out HM.out HK.out ?_
      rw [put_eq rfl]
      try simp only [List.set_cons_zero, List.set_cons_succ]
      refine hK.out _ _ (HS.out _ (Below.alloc HH150.out (Below.size HH150.out) _)) ?_
      clear hK K
      have HH152 := Lib.hid (Below.alloc HH150.out (Below.size HH150.out) (Obj.cells (uC (l ++ (m ++ k))) 24))
      have HB154 := Lib.hid (heap_alloc_new v149 (Obj.cells (uC (l ++ (m ++ k))) 24))
      clear HH150
      generalize v149.alloc (Obj.cells (uC (l ++ (m ++ k))) 24) = v151 at *
      generalize v149.heap.size = b153 at *
      refine two_ready 33 36 (by kernel_rfl) rfl rfl (by rfl) (by rfl) (fun K hK => ?_) (fun K hK => ?_)
      · go_simp
        refine (join3 l m k _ _ v151 HL.out HM.out HK.out HB154.out).mono ?_
        rintro e v155 ⟨rfl, hb⟩
        go_wp2_with fail
        refine hK.out _ _ (HS.out _ (Below.step HH152.out hb)) ?_
        clear hK K
        try simp only [Act.put, List.setIfInBounds_toArray, List.set_cons_zero, List.set_cons_succ]
        have HH156 := Lib.hid (Below.step HH152.out hb)
        clear hb HH152 HB154
        refine one_ready 36 (by kernel_rfl) rfl (by rfl) (fun K hK => ?_)
        refine wp_bs2 _ _  rfl lm k (by rfl) (by rfl)  ILM.out HK.out ?_
        rw [put_eq rfl]
        try simp only [List.set_cons_zero, List.set_cons_succ]
        refine hK.out _ _ (HS.out _ (Below.alloc HH156.out (Below.size HH156.out) _)) ?_
        clear hK K
        have HH158 := Lib.hid (Below.alloc HH156.out (Below.size HH156.out) (Obj.cells (uC (lm ++ k)) 24))
        have HB160 := Lib.hid (heap_alloc_new v155 (Obj.cells (uC (lm ++ k)) 24))
        clear HH156
        generalize v155.alloc (Obj.cells (uC (lm ++ k)) 24) = v157 at *
        generalize v155.heap.size = b159 at *
        refine one_ready 37 (by kernel_rfl) rfl (by rfl) (fun K hK => ?_)
        go_simp
        refine (join2 lm k _ _ v157 ILM.out HK.out HB160.out).mono ?_
        rintro e v161 ⟨rfl, hb⟩
        go_wp2_with fail
        refine hK.out _ _ (HS.out _ (Below.step HH158.out hb)) ?_
        clear hK K
        try simp only [Act.put, List.setIfInBounds_toArray, List.set_cons_zero, List.set_cons_succ]
        have HH162 := Lib.hid (Below.step HH158.out hb)
        clear hb HH158 HB160
        refine take_val 38 (.bool true) rfl (by kernel_rfl) (by kernel_rfl) (by kernel_rfl) (fun _ _ _ _ h => h) (by rfl) rfl (fun w _ => val_eqB _ _ _ rfl (bjoin (bjoin l m) k) (bjoin lm k) rfl rfl (bjoin_ok (bjoin_ok HL.out HM.out) HK.out) (bjoin_ok ILM.out HK.out) (congrArg (bjoin · k) ELM.out.symm) _) (HS.out _ HH162.out) ?_
        try simp only [List.set_cons_zero, List.set_cons_succ]
        refine take_val 39 (.bool true) rfl (by kernel_rfl) (by kernel_rfl) (by kernel_rfl) (fun _ _ _ _ h => h) (by rfl) rfl (fun w _ => by go_simp) (HS.out _ HH162.out) ?_
        try simp only [List.set_cons_zero, List.set_cons_succ]
        refine take_val 40 (.bool true) rfl (by kernel_rfl) (by kernel_rfl) (by kernel_rfl) (fun _ _ _ _ h => h) (by rfl) rfl (fun w _ => by go_simp) (HS.out _ HH162.out) ?_
        try simp only [List.set_cons_zero, List.set_cons_succ]
        refine wpAnyH_done (by kernel_rfl) ?_ _
        refine NoPanic.normal ?_
        exact HKK _ _ (joins_tail l m k a lm ad w w8 n5 n7 HL HM HA HAB ELM ILM EAD IAD B8 HS hil hilm hiad hia _ _ _ _ _ _ _ _ _ _ _ _ _ _ _ _ _ _ _ _ _ _ _ _ _ _ _ _ _ _ _ _ _ _ _ _ _ _ _ _ _ _ _ _ _ _ _ _ _ _ _ _ _ _ _ _ _ _ _ _ _ _ _ _ _ _ _ _ _ _ _ _ _ _ _ _ _ _ _  _ HH162)
      · refine wp_bs2 _ _  rfl lm k (by rfl) (by rfl)  ILM.out HK.out ?_
        rw [put_eq rfl]
        try simp only [List.set_cons_zero, List.set_cons_succ]
        refine hK.out _ _ (HS.out _ (Below.alloc HH152.out (Below.size HH152.out) _)) ?_
        clear hK K
        have HH164 := Lib.hid (Below.alloc HH152.out (Below.size HH152.out) (Obj.cells (uC (lm ++ k)) 24))
        have HB166 := Lib.hid (heap_alloc_new v151 (Obj.cells (uC (lm ++ k)) 24))
        have HB167 := Lib.hid ((Below.heap_alloc v151 (Obj.cells (uC (lm ++ k)) 24) _ (lt_of_block HB154.out)).trans HB154.out)
        clear HH152 HB154
        generalize v151.alloc (Obj.cells (uC (lm ++ k)) 24) = v163 at *
        generalize v151.heap.size = b165 at *
        refine one_ready 33 (by kernel_rfl) rfl (by rfl) (fun K hK => ?_)
        go_simp
        refine (join3 l m k _ _ v163 HL.out HM.out HK.out HB167.out).mono ?_
        rintro e v168 ⟨rfl, hb⟩
        go_wp2_with fail
        refine hK.out _ _ (HS.out _ (Below.step HH164.out hb)) ?_
        clear hK K
        try simp only [Act.put, List.setIfInBounds_toArray, List.set_cons_zero, List.set_cons_succ]
        have HH169 := Lib.hid (Below.step HH164.out hb)
        have HB170 := Lib.hid ((hb.block _ (lt_of_block HB166.out)).trans HB166.out)
        clear hb HH164 HB167 HB166
        refine one_ready 37 (by kernel_rfl) rfl (by rfl) (fun K hK => ?_)
        go_simp
        refine (join2 lm k _ _ v168 ILM.out HK.out HB170.out).mono ?_
        rintro e v171 ⟨rfl, hb⟩
        go_wp2_with fail
        refine hK.out _ _ (HS.out _ (Below.step HH169.out hb)) ?_
        clear hK K
        try simp only [Act.put, List.setIfInBounds_toArray, List.set_cons_zero, List.set_cons_succ]
        have HH172 := Lib.hid (Below.step HH169.out hb)
        clear hb HH169 HB170
        refine take_val 38 (.bool true) rfl (by kernel_rfl) (by kernel_rfl) (by kernel_rfl) (fun _ _ _ _ h => h) (by rfl) rfl (fun w _ => val_eqB _ _ _ rfl (bjoin (bjoin l m) k) (bjoin lm k) rfl rfl (bjoin_ok (bjoin_ok HL.out HM.out) HK.out) (bjoin_ok ILM.out HK.out) (congrArg (bjoin · k) ELM.out.symm) _) (HS.out _ HH172.out) ?_
        try simp only [List.set_cons_zero, List.set_cons_succ]
        refine take_val 39 (.bool true) rfl (by kernel_rfl) (by kernel_rfl) (by kernel_rfl) (fun _ _ _ _ h => h) (by rfl) rfl (fun w _ => by go_simp) (HS.out _ HH172.out) ?_
        try simp only [List.set_cons_zero, List.set_cons_succ]
        refine take_val 40 (.bool true) rfl (by kernel_rfl) (by kernel_rfl) (by kernel_rfl) (fun _ _ _ _ h => h) (by rfl) rfl (fun w _ => by go_simp) (HS.out _ HH172.out) ?_
        try simp only [List.set_cons_zero, List.set_cons_succ]
        refine wpAnyH_done (by kernel_rfl) ?_ _
        refine NoPanic.normal ?_
        exact HKK _ _ (joins_tail l m k a lm ad w w8 n5 n7 HL HM HA HAB ELM ILM EAD IAD B8 HS hil hilm hiad hia _ _ _ _ _ _ _ _ _ _ _ _ _ _ _ _ _ _ _ _ _ _ _ _ _ _ _ _ _ _ _ _ _ _ _ _ _ _ _ _ _ _ _ _ _ _ _ _ _ _ _ _ _ _ _ _ _ _ _ _ _ _ _ _ _ _ _ _ _ _ _ _ _ _ _ _ _ _ _  _ HH172)
    · refine wp_bs2 _ _  rfl lm k (by rfl) (by rfl)  ILM.out HK.out ?_
      rw [put_eq rfl]
      try simp only [List.set_cons_zero, List.set_cons_succ]
      refine hK.out _ _ (HS.out _ (Below.alloc HH150.out (Below.size HH150.out) _)) ?_
      clear hK K
      have HH174 := Lib.hid (Below.alloc HH150.out (Below.size HH150.out) (Obj.cells (uC (lm ++ k)) 24))
      have HB176 := Lib.hid (heap_alloc_new v149 (Obj.cells (uC (lm ++ k)) 24))
      clear HH150
      generalize v149.alloc (Obj.cells (uC (lm ++ k)) 24) = v173 at *
      generalize v149.heap.size = b175 at *
      refine one_ready 32 (by kernel_rfl) rfl (by rfl) (fun K hK => ?_)
      refine wp_bs3 _ _ _  rfl l m k (by rfl) (by rfl) (by rfl)  HL.out HM.out HK.out ?_
      rw [put_eq rfl]
      try simp only [List.set_cons_zero, List.set_cons_succ]
      refine hK.out _ _ (HS.out _ (Below.alloc HH174.out (Below.size HH174.out) _)) ?_
      clear hK K
      have HH178 := Lib.hid (Below.alloc HH174.out (Below.size HH174.out) (Obj.cells (uC (l ++ (m ++ k))) 24))
      have HB180 := Lib.hid (heap_alloc_new v173 (Obj.cells (uC (l ++ (m ++ k))) 24))
      have HB181 := Lib.hid ((Below.heap_alloc v173 (Obj.cells (uC (l ++ (m ++ k))) 24) _ (lt_of_block HB176.out)).trans HB176.out)
      clear HH174 HB176
      generalize v173.alloc (Obj.cells (uC (l ++ (m ++ k))) 24) = v177 at *
      generalize v173.heap.size = b179 at *
      refine one_ready 33 (by kernel_rfl) rfl (by rfl) (fun K hK => ?_)
      go_simp
      refine (join3 l m k _ _ v177 HL.out HM.out HK.out HB180.out).mono ?_
      rintro e v182 ⟨rfl, hb⟩
      go_wp2_with fail
      refine hK.out _ _ (HS.out _ (Below.step HH178.out hb)) ?_
      clear hK K
      try simp only [Act.put, List.setIfInBounds_toArray, List.set_cons_zero, List.set_cons_succ]
      have HH183 := Lib.hid (Below.step HH178.out hb)
      have HB184 := Lib.hid ((hb.block _ (lt_of_block HB181.out)).trans HB181.out)
      clear hb HH178 HB181 HB180
      refine one_ready 37 (by kernel_rfl) rfl (by rfl) (fun K hK => ?_)
      go_simp
      refine (join2 lm k _ _ v182 ILM.out HK.out HB184.out).mono ?_
      rintro e v185 ⟨rfl, hb⟩
      go_wp2_with fail
      refine hK.out _ _ (HS.out _ (Below.step HH183.out hb)) ?_
      clear hK K
      try simp only [Act.put, List.setIfInBounds_toArray, List.set_cons_zero, List.set_cons_succ]
      have HH186 := Lib.hid (Below.step HH183.out hb)
      clear hb HH183 HB184
      refine take_val 38 (.bool true) rfl (by kernel_rfl) (by kernel_rfl) (by kernel_rfl) (fun _ _ _ _ h => h) (by rfl) rfl (fun w _ => val_eqB _ _ _ rfl (bjoin (bjoin l m) k) (bjoin lm k) rfl rfl (bjoin_ok (bjoin_ok HL.out HM.out) HK.out) (bjoin_ok ILM.out HK.out) (congrArg (bjoin · k) ELM.out.symm) _) (HS.out _ HH186.out) ?_
      try simp only [List.set_cons_zero, List.set_cons_succ]
      refine take_val 39 (.bool true) rfl (by kernel_rfl) (by kernel_rfl) (by kernel_rfl) (fun _ _ _ _ h => h) (by rfl) rfl (fun w _ => by go_simp) (HS.out _ HH186.out) ?_
      try simp only [List.set_cons_zero, List.set_cons_succ]
      refine take_val 40 (.bool true) rfl (by kernel_rfl) (by kernel_rfl) (by kernel_rfl) (fun _ _ _ _ h => h) (by rfl) rfl (fun w _ => by go_simp) (HS.out _ HH186.out) ?_
      try simp only [List.set_cons_zero, List.set_cons_succ]
      refine wpAnyH_done (by kernel_rfl) ?_ _
      refine NoPanic.normal ?_
      exact HKK _ _ (joins_tail l m k a lm ad w w8 n5 n7 HL HM HA HAB ELM ILM EAD IAD B8 HS hil hilm hiad hia _ _ _ _ _ _ _ _ _ _ _ _ _ _ _ _ _ _ _ _ _ _ _ _ _ _ _ _ _ _ _ _ _ _ _ _ _ _ _ _ _ _ _ _ _ _ _ _ _ _ _ _ _ _ _ _ _ _ _ _ _ _ _ _ _ _ _ _ _ _ _ _ _ _ _ _ _ _ _  _ HH186)
end Go.Proofs.Ythfjonicolhjnaa
