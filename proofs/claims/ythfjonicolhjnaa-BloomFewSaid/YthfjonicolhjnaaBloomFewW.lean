/- bloom.Count and BloomFew: their walks. -/
import Derived.Test.YthfjonicolhjnaaCountW
import Derived.Test.YthfjonicolhjnaaIds2
namespace Go.Proofs.Ythfjonicolhjnaa
open Go.RowKit Plain
theorem sum_take_succ (f : Nat → Nat) (l : List Nat) (k : Nat) (h : k < l.length) : ((l.take (k + 1)).map f).sum = ((l.take k).map f).sum + f (l.getD k 0) := by
  rw [List.take_succ_eq_append_getElem h, List.map_append, List.sum_append]
  simp [List.getD_eq_getElem?_getD, List.getElem?_eq_getElem h]
theorem ones_le : ∀ k x, ones k x ≤ 8 * k
  | 0, _ => by simp [ones]
  | k + 1, x => by
    have h1 := (g_facts (x % 256) (Nat.mod_lt _ (by omega))).2.2.2
    have h2 := ones_le k (x / 256)
    rw [ones]
    omega
theorem sum_le (l : List Nat) : (l.map (ones 8)).sum ≤ 64 * l.length := by
  induction l with
  | nil => simp
  | cons x l ih =>
    have := ones_le 8 x
    simp
    omega
set_option maxRecDepth 100000 in
theorem count_any (l : List Nat) (w : World) (hl : IsB l) : Calls Try.prog 21 #[.agg (uC l)] w fun e w' => e = .returned (.int .i64 ((cnt l : Nat) : Int)) ∧ Below w.heap.size w w' := by
  have i24' : (Try.prog.info? 24).map (·.size) = some 16 := by kernel_rfl
  have i22' : (Try.prog.info? 22).map (·.size) = some 1 := by kernel_rfl
  have i24 := Lib.hid i24'
  have i22 := Lib.hid i22'
  have HL := Lib.hid hl
  have sl : Hid ((uC l).size = 16) := by rw [uC_size]; exact hl.1
  have r0 := Lib.hid (heap_alloc_new w (.cells (uC l) 24))
  have b0 := Lib.hid ((Below.refl w.heap.size w).alloc (Nat.le_refl _) (.cells (uC l) 24))
  have HIX := Lib.hid fun (wx : World) (j : Nat) (hj : j < 16) => run_index_word (P := Try.prog) wx 24 22 16 l j Try.underlying24 Try.underlying22 i22' hj hl.1
  clear hl i24' i22'
  go_enter Try.func21, Try.ntmps21
  go_wp2_with (first
    | (with_reducible refine wpList_load_row rfl 24 (.tmp 1) rfl w.heap.size rfl 24 (uC l) (0, 0) _ r0.out Try.underlying24 rfl ?_ ?_; (rw [sl.out]; exact i24.out)))
  generalize w.alloc (.cells (uC l) 24) = w1 at *
  go_loopw [7, 3] (fun i n wr => ∃ k : Nat, k ≤ 16 ∧ i = .int .i64 k ∧ n = .int .i64 ((((l.take k).map (ones 8)).sum : Nat) : Int) ∧ wr = w1) (fun i _ _ => 16 - (intOf i).toNat)
  case atStart => exact ⟨0, Nat.zero_le _, rfl, rfl, rfl⟩
  case round =>
    obtain ⟨k, hk, rfl, rfl, rfl⟩ := hrel
    by_cases hlt : k < 16
    · have hx := HIX.out
      have hxj := fun wx => hx wx k hlt
      have hst := Lib.hid (sum_take_succ (ones 8) l k (by rw [HL.out.1]; exact hlt))
      have hle := sum_le (l.take k)
      rw [List.length_take, HL.out.1] at hle
      have hle2 : ((l.take k).map (ones 8)).sum ≤ 1024 := by omega
      have hw := getD_lt64 l HL.out.2 k
      clear hx hle
      have hlw := ones_le 8 (l.getD k 0)
      have hst2 : Hid (((l.take (k + 1)).map (ones 8)).sum = ((l.take k).map (ones 8)).sum + ones 8 (l.getD k 0)) := hst.out
      clear hst
      generalize ((l.take k).map (ones 8)).sum = acc at *
      generalize l.getD k 0 = x at *
      have HW := Lib.hid hw
      clear hw
      have HO := Lib.hid fun wx => ones64_any x wx HW.out
      generalize ones 8 x = o at *
      have wsum : IntKind.i64.wrap ((acc : Int) + (o : Int)) = (acc : Int) + (o : Int) := wraps_i64 _ (by omega) (by omega)
      go_wp2_with (go_at_call 32; refine (HO.out _).mono ?_; rintro e w2 ⟨rfl, rfl⟩)
      go_roundw
      case rel => exact ⟨k + 1, by omega, by go_num, by rw [hst2.out]; go_num, by first | rfl | trivial⟩
      case measure => simp [intOf]; omega
    · obtain rfl : k = 16 := by omega
      have e : (((l.take 16).map (ones 8)).sum) = cnt l := by unfold cnt; rw [List.take_of_length_le (by rw [HL.out.1]; exact Nat.le_refl _)]
      rw [e]
      go_wp2
      try go_ret
      exact ⟨rfl, b0.out⟩
theorem val_neqB {o : Oper} {a : Act} (x y : Operand) (t : TypeId) (ho : o.op = .binOp .neq 24 x y t) (l m : List Nat) (hx : a.eval x = .agg (uC l)) (hy : a.eval y = .agg (uC m)) (hl : IsB l) (hm : IsB m) (he : l = m) (w : World) :
    (execOp a.eval o).run Try.prog w = .ok (.value (.bool false)) w := by
  have hg : (eqGuard .neq 24 x y (.agg (uC l)) (.agg (uC m))).run Try.prog w = .ok () w := by
    have h : Try.prog.eqGuardType Try.prog.depth 24 = false := by kernel_rfl
    simp [eqGuard, h, go_sem, Sem.run_bind, Result.andThen]
  have hn : (binOp .neq 24 (.agg (uC l)) (.agg (uC m))).run Try.prog w = .ok (.bool false) w := by
    have hsome : (Try.prog.info? 22).isSome = true := by kernel_rfl
    obtain ⟨inf, hi⟩ := Option.isSome_iff_exists.1 hsome
    unfold binOp
    simp only [Sem.run_bind, run_equal_words w Try.underlying24 Try.underlying22 hi (by kernel_rfl) l m hl.1 hm.1, Result.andThen_ok, Sem.run_pure, decide_eq_true he]
    rfl
  unfold execOp
  simp only [ho, hx, hy, Sem.run_bind, hn, hg, Sem.run_pure, Result.andThen_ok]
set_option maxRecDepth 100000 in
set_option maxHeartbeats 4000000 in
theorem bloomFew_any (a : Option Addr) (ids : List (List Nat)) (cap : Nat) (w : World) (hn : ids.length ≤ 140737488351232) (hids : ∀ x ∈ ids, x.length = 8 ∧ ∀ c ∈ x, c < 256)
    (hrow : ids = [] ∨ ∃ b off, a = some ⟨b, off, none⟩ ∧ b < w.heap.size ∧ ∀ k (h : k < ids.length), w.rangeAt b (off + k * 8) (ids[k].map bV)) :
    Calls Try.prog 7 #[.slice a ids.length cap] w fun e w' => e = .returned (.bool true) ∧ Below w.heap.size w w' := by
  have i24' : (Try.prog.info? 24).map (·.size) = some 16 := by kernel_rfl
  have i24 := Lib.hid i24'
  have i27' : (Try.prog.info? 27).map (·.size) = some 8 := by kernel_rfl
  have i27 := Lib.hid i27'
  have HN := Lib.hid hn
  have HIDS := Lib.hid hids
  have HROW := Lib.hid hrow
  obtain ⟨l, hle⟩ : ∃ l, l = List.replicate 16 0 := ⟨_, rfl⟩
  have hl : IsB l := hle ▸ zeros_ok
  have HL := Lib.hid hl
  have HZ := Lib.hid hle
  clear hl hn hids hrow i24' i27' hle
  have r0 : Hid ((w.alloc (.cells #[Value.int IntKind.u64 0, Value.int IntKind.u64 0, Value.int IntKind.u64 0, Value.int IntKind.u64 0, Value.int IntKind.u64 0, Value.int IntKind.u64 0, Value.int IntKind.u64 0, Value.int IntKind.u64 0, Value.int IntKind.u64 0, Value.int IntKind.u64 0, Value.int IntKind.u64 0, Value.int IntKind.u64 0, Value.int IntKind.u64 0, Value.int IntKind.u64 0, Value.int IntKind.u64 0, Value.int IntKind.u64 0] 24)).heap[w.heap.size]? = some (.cells (uC l) 24 (0, 0))) := by rw [HZ.out]; exact heap_alloc_new w (.cells (uC (List.replicate 16 0)) 24)
  have b0 := Lib.hid ((Below.refl w.heap.size w).alloc (Nat.le_refl _) (.cells #[Value.int IntKind.u64 0, Value.int IntKind.u64 0, Value.int IntKind.u64 0, Value.int IntKind.u64 0, Value.int IntKind.u64 0, Value.int IntKind.u64 0, Value.int IntKind.u64 0, Value.int IntKind.u64 0, Value.int IntKind.u64 0, Value.int IntKind.u64 0, Value.int IntKind.u64 0, Value.int IntKind.u64 0, Value.int IntKind.u64 0, Value.int IntKind.u64 0, Value.int IntKind.u64 0, Value.int IntKind.u64 0] 24))
  go_enter Try.func7, Try.ntmps7
  go_wp2_with fail
  generalize w.alloc (.cells #[Value.int IntKind.u64 0, Value.int IntKind.u64 0, Value.int IntKind.u64 0, Value.int IntKind.u64 0, Value.int IntKind.u64 0, Value.int IntKind.u64 0, Value.int IntKind.u64 0, Value.int IntKind.u64 0, Value.int IntKind.u64 0, Value.int IntKind.u64 0, Value.int IntKind.u64 0, Value.int IntKind.u64 0, Value.int IntKind.u64 0, Value.int IntKind.u64 0, Value.int IntKind.u64 0, Value.int IntKind.u64 0] 24) = w1 at *
  have N64 : (ids.length : Int) ≤ 140737488351232 := by have := HN.out; omega
  go_loopw [9] (fun i wr => ∃ k : Nat, k ≤ ids.length ∧ wr.heap[w.heap.size]? = some (.cells (uC ((ids.take k).foldl addl l)) 24 (0, 0)) ∧ Below w.heap.size w wr ∧ i = .int .i64 k) (fun i _ => ids.length - (intOf i).toNat)
  case atStart => exact ⟨0, Nat.zero_le _, r0.out, b0.out, rfl⟩
  case round =>
    obtain ⟨k, hk, h1, hbl, rfl⟩ := hrel
    have R1 := Lib.hid h1
    have BLW := Lib.hid hbl
    clear h1 hbl r0 b0
    by_cases hlt : k < ids.length
    · obtain ⟨hx8, hx256⟩ := HIDS.out _ (List.getElem_mem hlt)
      have hstep : (ids.take (k + 1)).foldl addl l = addl ((ids.take k).foldl addl l) ids[k] := by
        rw [List.take_succ_eq_append_getElem hlt, List.foldl_append]; rfl
      have hacc : IsB ((ids.take k).foldl addl l) := fold_ok HL.out _
      have hcnt : cnt ((ids.take k).foldl addl l) ≤ 4 * k := by
        have := cnt_fold (ids.take k) HL.out
        rw [HZ.out, cnt_zeros, List.length_take] at this
        rw [HZ.out]
        omega
      have hr0 := HROW.out
      rcases hr0 with rfl | ⟨b, off, rfl, hb, hr⟩
      · simp at hlt
      have hrng : Hid (wr.rangeAt b (off + k * 8) (idC ids[k]).toList) := fun j v hv => by
        rw [BLW.out.cell (p := ⟨b, _, none⟩) hb]
        exact hr k hlt j v hv
      clear hr
      generalize ids[k] = x at *
      have HX8 := Lib.hid hx8
      have HX := Lib.hid hx256
      have HST := Lib.hid hstep
      generalize hac : (ids.take k).foldl addl l = acc at *
      have HACC := Lib.hid hacc
      have sx : Hid ((idC x).size = 8) := by simp [idC, hx8, Hid]
      have sxl : Hid ((idC x).toList.length = 8) := by simp [idC, hx8, Hid]
      have sa : Hid ((uC acc).size = 16) := by rw [uC_size]; exact hacc.1
      have ONEX : Hid ((idC x).all (·.oneCell') = true) := bC_one x
      have z8 : Hid ((idC x).size = (#[Value.int IntKind.u8 0, Value.int IntKind.u8 0, Value.int IntKind.u8 0, Value.int IntKind.u8 0, Value.int IntKind.u8 0, Value.int IntKind.u8 0, Value.int IntKind.u8 0, Value.int IntKind.u8 0] : Array Value).size) := sx
      have RX := Lib.hid (heap_alloc_new wr (.cells (idC x) 27))
      have RC := Lib.hid ((Below.heap_alloc wr (.cells (idC x) 27) _ (lt_of_block R1.out)).trans R1.out)
      have BN := Lib.hid (BLW.out.alloc (Nat.le_of_lt (lt_of_block R1.out)) (.cells (idC x) 27))
      have NE : Hid (wr.heap.size ≠ w.heap.size) := by have := lt_of_block R1.out; show _ ≠ _; omega
      have kk : (k : Int) < (ids.length : Int) := by omega
      have k0 : (0 : Int) ≤ (k : Int) := Int.natCast_nonneg _
      have c1 := cnt_addl acc x hacc
      have c2 := cnt_addl_pos acc x hacc
      have tw := addl_twice acc x hacc
      have iac := addl_ok hacc x
      have C1 : Hid (cnt (addl acc x) ≤ 4 * (k + 1)) := by show _ ≤ _; omega
      have C2 := Lib.hid c2
      have TW := Lib.hid tw
      clear hx8 hx256 hstep hacc hac R1 BLW hb hcnt c1 c2 tw
      go_wp2_with (first
        | (with_reducible refine wpList_load_mid rfl 27 (.tmp 12) rfl b (off + k * 8) rfl (idC x).toList _ hrng.out Try.underlying27 rfl ?_ ?_; (rw [sxl.out]; exact i27.out))
        | (with_reducible refine wpList_store_new rfl 27 (.tmp 5) (.tmp 13) rfl wr.heap.size (idC x) rfl rfl ?_ ?_ ONEX.out rfl ?_; (exact z8.out); (rw [sx.out]; exact i27.out))
        | (with_reducible refine wpList_load_row rfl 24 (.tmp 3) rfl w.heap.size rfl 24 (uC acc) (0, 0) _ RC.out Try.underlying24 rfl ?_ ?_; (rw [sa.out]; exact i24.out))
        | (with_reducible refine wpList_load_row rfl 27 (.tmp 5) rfl wr.heap.size rfl 27 (idC x) (0, 0) _ RX.out Try.underlying27 rfl ?_ ?_; (rw [sx.out]; exact i27.out)))
      generalize wr.alloc (.cells (idC x) 27) = w2 at *
      refine (addl_any acc x w2 HACC.out HX8.out HX.out).mono ?_
      rintro e w3 ⟨rfl, hb3⟩
      have R1n := (hb3.block _ (lt_of_block RC.out)).trans RC.out
      have RXn := (hb3.block _ (lt_of_block RX.out)).trans RX.out
      have BL3 := Below.step BN.out hb3
      obtain ⟨nb, hnb⟩ : ∃ nb, nb = addl acc x := ⟨_, rfl⟩
      rw [← hnb] at HST C1 C2 TW iac
      rw [← hnb]
      have HNB := Lib.hid hnb
      have IAC := Lib.hid iac
      have sn : Hid ((uC nb).size = 16) := by rw [uC_size]; exact iac.1
      have ONEN := Lib.hid (uC_one nb)
      have u1 : URow w3 24 w.heap.size acc := R1n
      have HTH : Hid (w3.there w.heap.size 0 16) := by have := u1.there; rw [HACC.out.1] at this; exact this
      have R1m : Hid ((w3.setCells w.heap.size 0 (uC nb).toList).heap[w.heap.size]? = some (.cells (uC nb) 24 (0, 0))) := setCells_full R1n _ (by rw [sn.out, sa.out])
      have RXm : Hid ((w3.setCells w.heap.size 0 (uC nb).toList).heap[wr.heap.size]? = some (.cells (idC x) 27 (0, 0))) := (heap_setCells_other _ _ NE.out _ _ _).trans RXn
      have BLm : Hid (Below w.heap.size w (w3.setCells w.heap.size 0 (uC nb).toList)) := below_setCells (Nat.le_refl _) _ _ BL3
      clear R1n RXn BL3 u1 iac hb3 RX RC BN hnb
      go_wp2_with (first
        | (with_reducible refine wpList_store_mid rfl 24 (.tmp 3) (.tmp 16) rfl w.heap.size 0 (uC nb) rfl rfl ?_ ?_ ONEN.out ?_; (rw [sn.out]; exact HTH.out); (rw [sn.out]; exact i24.out))
        | (with_reducible refine wpList_load_row rfl 24 (.tmp 3) rfl w.heap.size rfl 24 (uC nb) (0, 0) _ R1m.out Try.underlying24 rfl ?_ ?_; (rw [sn.out]; exact i24.out)))
      generalize w3.setCells w.heap.size 0 (uC nb).toList = w4 at *
      refine (count_any nb w4 IAC.out).mono ?_
      rintro e w5 ⟨rfl, hb5⟩
      have R1p := Lib.hid ((hb5.block _ (lt_of_block R1m.out)).trans R1m.out)
      have RXp := Lib.hid ((hb5.block _ (lt_of_block RXm.out)).trans RXm.out)
      have BLp := Lib.hid (Below.step BLm.out hb5)
      have q1 := C1.out
      have q2 := C2.out
      clear R1m RXm BLm hb5 HTH
      generalize hq : cnt nb = q at *
      clear hq
      have m0 : IntKind.i64.wrap ((k : Int) + 1) = (k : Int) + 1 := wraps_i64 _ (by omega) (by omega)
      have m1 : IntKind.i64.wrap (4 * ((k : Int) + 1)) = 4 * ((k : Int) + 1) := wraps_i64 _ (by omega) (by omega)
      have m2 : (4 * ((k : Int) + 1) < (q : Int)) ↔ False := ⟨fun h => by omega, fun h => h.elim⟩
      have m3 : ((q : Int) < 1) ↔ False := ⟨fun h => by omega, fun h => h.elim⟩
      clear q1 q2
      go_wp2_with fail
      have hSall : ∀ w', Below w5.heap.size w5 w' → (w'.rangeAt w.heap.size 0 (uC nb).toList ∧ w'.rangeAt wr.heap.size 0 (idC x).toList ∧ Below w5.heap.size w5 w') := by
        intro w' hb
        have go : ∀ (B : Nat) (t : TypeId) (cs : Array Value), w5.heap[B]? = some (.cells cs t (0, 0)) → w'.rangeAt B 0 cs.toList := by
          intro B t cs hB j v hv
          rw [cell_of_row _ _ _ _ _ _ ((hb.block B (lt_of_block hB)).trans hB)]
          simpa using hv
        exact ⟨go _ _ _ R1p.out, go _ _ _ RXp.out, hb⟩
      have HS := Lib.hid hSall
      clear hSall RXp
      have hu := Try.underlying24
      have hu27 := Try.underlying27
      have hib : (Try.prog.info? 24).map (·.size) = some (uC nb).toList.length := by rw [Array.length_toList, sn.out]; exact i24.out
      have hix : (Try.prog.info? 27).map (·.size) = some (idC x).toList.length := by rw [sxl.out]; exact i27.out
      have IAC2 := Lib.hid (addl_ok IAC.out x)
      have TW2 : Hid (addl nb x = nb) := by rw [HNB.out]; exact addl_twice acc x HACC.out
      refine wp_region_noPanic ?_
      refine wp_region_held_drew (S := fun w' => (w'.rangeAt w.heap.size 0 (uC nb).toList ∧ w'.rangeAt wr.heap.size 0 (idC x).toList ∧ Below w5.heap.size w5 w')) (by kernel_rfl) (HS.out _ (Below.drew (Below.refl _ _))) (fun _ => ?_)
      have HH0 := Lib.hid (Below.drew (Below.refl w5.heap.size w5))
      generalize w5.drew = v0 at *
      refine take_val 0 (.int .i64 (q : Int)) rfl (by kernel_rfl) (by kernel_rfl) (by kernel_rfl) (fun _ _ _ _ h => h) (by rfl) rfl (fun w _ => by go_simp) (HS.out _ HH0.out) ?_
      try simp only [List.set_cons_zero, List.set_cons_succ]
      refine take_val 1 (.int .i64 (k : Int)) rfl (by kernel_rfl) (by kernel_rfl) (by kernel_rfl) (fun _ _ _ _ h => h) (by rfl) rfl (fun w _ => by go_simp) (HS.out _ HH0.out) ?_
      try simp only [List.set_cons_zero, List.set_cons_succ]
      refine take_val 2 (.int .i64 ((k : Int) + 1)) rfl (by kernel_rfl) (by kernel_rfl) (by kernel_rfl) (fun _ _ _ _ h => h) (by rfl) rfl (fun w _ => by go_simp) (HS.out _ HH0.out) ?_
      try simp only [List.set_cons_zero, List.set_cons_succ]
      refine take_val 3 (.int .i64 (4 * ((k : Int) + 1))) rfl (by kernel_rfl) (by kernel_rfl) (by kernel_rfl) (fun _ _ _ _ h => h) (by rfl) rfl (fun w _ => by go_simp) (HS.out _ HH0.out) ?_
      try simp only [List.set_cons_zero, List.set_cons_succ]
      refine take_val 4 (.bool false) rfl (by kernel_rfl) (by kernel_rfl) (by kernel_rfl) (fun _ _ _ _ h => h) (by rfl) rfl (fun w _ => by go_simp) (HS.out _ HH0.out) ?_
      try simp only [List.set_cons_zero, List.set_cons_succ]
      refine take_val 5 (.bool false) rfl (by kernel_rfl) (by kernel_rfl) (by kernel_rfl) (fun _ _ _ _ h => h) (by rfl) rfl (fun w _ => by go_simp) (HS.out _ HH0.out) ?_
      try simp only [List.set_cons_zero, List.set_cons_succ]
      refine take_val 6 (.int .i64 (q : Int)) rfl (by kernel_rfl) (by kernel_rfl) (by kernel_rfl) (fun _ _ _ _ h => h) (by rfl) rfl (fun w _ => by go_simp) (HS.out _ HH0.out) ?_
      try simp only [List.set_cons_zero, List.set_cons_succ]
      refine take_val 7 (.bool false) rfl (by kernel_rfl) (by kernel_rfl) (by kernel_rfl) (fun _ _ _ _ h => h) (by rfl) rfl (fun w _ => by go_simp) (HS.out _ HH0.out) ?_
      try simp only [List.set_cons_zero, List.set_cons_succ]
      refine take_val 8 (.bool false) rfl (by kernel_rfl) (by kernel_rfl) (by kernel_rfl) (fun _ _ _ _ h => h) (by rfl) rfl (fun w _ => by go_simp) (HS.out _ HH0.out) ?_
      try simp only [List.set_cons_zero, List.set_cons_succ]
      refine take_val 9 (.bool false) rfl (by kernel_rfl) (by kernel_rfl) (by kernel_rfl) (fun _ _ _ _ h => h) (by rfl) rfl (fun w _ => by go_simp) (HS.out _ HH0.out) ?_
      try simp only [List.set_cons_zero, List.set_cons_succ]
      refine take_row 10 rfl (by kernel_rfl) (by kernel_rfl) (by kernel_rfl) (fun _ _ _ _ h => h) (by rfl) rfl rfl rfl (fun _ hSw => hSw.1) hu rfl hib (HS.out _ HH0.out) ?_
      try simp only [List.set_cons_zero, List.set_cons_succ]
      refine take_row 11 rfl (by kernel_rfl) (by kernel_rfl) (by kernel_rfl) (fun _ _ _ _ h => h) (by rfl) rfl rfl rfl (fun _ hSw => hSw.2.1) hu27 rfl hix (HS.out _ HH0.out) ?_
      try simp only [List.set_cons_zero, List.set_cons_succ]
      refine take_row 13 rfl (by kernel_rfl) (by kernel_rfl) (by kernel_rfl) (fun _ _ _ _ h => h) (by rfl) rfl rfl rfl (fun _ hSw => hSw.1) hu rfl hib (HS.out _ HH0.out) ?_
      try simp only [List.set_cons_zero, List.set_cons_succ]
      refine one_ready 12 (by kernel_rfl) rfl (by rfl) (fun K hK => ?_)
      go_simp
      refine (addl_any nb x v0 IAC.out HX8.out HX.out).mono ?_
      rintro e v1 ⟨rfl, hb⟩
      go_wp2_with fail
      refine hK.out _ _ (HS.out _ (Below.step HH0.out hb)) ?_
      clear hK K
      try simp only [Act.put, List.setIfInBounds_toArray, List.set_cons_zero, List.set_cons_succ]
      have HH2 := Lib.hid (Below.step HH0.out hb)
      clear hb HH0
      refine take_val 14 (.bool false) rfl (by kernel_rfl) (by kernel_rfl) (by kernel_rfl) (fun _ _ _ _ h => h) (by rfl) rfl (fun w _ => val_neqB _ _ _ rfl (addl nb x) nb rfl rfl IAC2.out IAC.out TW2.out _) (HS.out _ HH2.out) ?_
      try simp only [List.set_cons_zero, List.set_cons_succ]
      refine take_val 15 (.bool false) rfl (by kernel_rfl) (by kernel_rfl) (by kernel_rfl) (fun _ _ _ _ h => h) (by rfl) rfl (fun w _ => by go_simp) (HS.out _ HH2.out) ?_
      try simp only [List.set_cons_zero, List.set_cons_succ]
      refine wpAnyH_done (by kernel_rfl) ?_ _
      refine NoPanic.normal ?_
      have R1q := Lib.hid ((HH2.out.block _ (lt_of_block R1p.out)).trans R1p.out)
      have BLq := Lib.hid (Below.step BLp.out HH2.out)
      go_wp2_with fail
      go_roundw
      case rel => exact ⟨k + 1, by omega, by rw [HST.out]; exact R1q.out, BLq.out, by go_num⟩
      case measure => simp [intOf]; omega
    · obtain rfl : k = ids.length := by omega
      clear hlt hk R1
      have HAB : Hid (∀ y ∈ [0, 0, 0, 7, 0, 0, 0, 1], y < 256) := by intro y hy; simp at hy; omega
      go_wp2_with fail
      refine (addl_any (List.replicate 16 0) [0, 0, 0, 7, 0, 0, 0, 1] wr zeros_ok rfl HAB.out).mono ?_
      rintro e w3 ⟨rfl, hb3⟩
      have B3 := Lib.hid (Below.step BLW.out hb3)
      have iac := addl_ok zeros_ok [0, 0, 0, 7, 0, 0, 0, 1]
      have hcs := cnt_seven
      generalize addl (List.replicate 16 0) [0, 0, 0, 7, 0, 0, 0, 1] = sv at *
      have HC7 := Lib.hid hcs
      clear hcs hb3
      go_wp2_with fail
      refine (count_any sv w3 iac).mono ?_
      rintro e w4 ⟨rfl, hb4⟩
      rw [HC7.out]
      have B4 := Lib.hid (Below.step B3.out hb4)
      clear hb4 B3
      go_wp2_with fail
      try go_ret
      exact ⟨rfl, B4.out⟩
end Go.Proofs.Ythfjonicolhjnaa

