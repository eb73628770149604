/- The walk of bloom.Join: the union of filters. -/
import Derived.Test.YthfjonicolhjnaaBloomHas
namespace Go.Proofs.Ythfjonicolhjnaa
open Go.RowKit Plain
namespace Plain
def bjoin (l m : List Nat) : List Nat := List.zipWith (· ||| ·) l m
theorem bjoin_length (l m : List Nat) (hl : l.length = 16) (hm : m.length = 16) : (bjoin l m).length = 16 := by simp [bjoin, hl, hm]
theorem bjoin_getD (l m : List Nat) (hl : l.length = 16) (hm : m.length = 16) (i : Nat) (hi : i < 16) : (bjoin l m).getD i 0 = l.getD i 0 ||| m.getD i 0 := by
  simp [bjoin, List.getD_eq_getElem?_getD, List.getElem?_zipWith, List.getElem?_eq_getElem (show i < l.length by omega), List.getElem?_eq_getElem (show i < m.length by omega)]
theorem bjoin_lt (l m : List Nat) (hl : ∀ c ∈ l, c < 18446744073709551616) (hm : ∀ c ∈ m, c < 18446744073709551616) : ∀ c ∈ bjoin l m, c < 18446744073709551616 := by
  intro c hc
  obtain ⟨i, hi, rfl⟩ := List.mem_iff_getElem.1 hc
  simp only [bjoin, List.getElem_zipWith]
  exact or_lt64 (hl _ (List.getElem_mem _)) (hm _ (List.getElem_mem _))
theorem ext_getD {a b : List Nat} (h : a.length = b.length) (h2 : ∀ i, i < a.length → a.getD i 0 = b.getD i 0) : a = b := by
  apply List.ext_getElem h
  intro i h1 h3
  have := h2 i h1
  simpa [List.getD_eq_getElem?_getD, List.getElem?_eq_getElem h1, List.getElem?_eq_getElem h3] using this
theorem flatten_get (ls : List (List Nat)) (h : ∀ l ∈ ls, l.length = 16) (k j : Nat) (hk : k < ls.length) (hj : j < 16) : ls.flatten[k * 16 + j]? = (ls[k])[j]? := by
  induction ls generalizing k with
  | nil => simp at hk
  | cons l ls ih =>
    have hl := h l (by simp)
    cases k with
    | zero =>
      simp only [List.flatten_cons, Nat.zero_mul, Nat.zero_add, List.getElem_cons_zero]
      rw [List.getElem?_append_left (by omega)]
    | succ k =>
      simp only [List.flatten_cons, List.getElem_cons_succ]
      rw [List.getElem?_append_right (by omega), show (k + 1) * 16 + j - l.length = k * 16 + j by omega]
      exact ih (fun m hm => h m (by simp [hm])) k (by simpa using hk)
/-- the first j words of l are joined with m's -/
def Part (l m A : List Nat) (j : Nat) : Prop := A.length = 16 ∧ ∀ i, i < 16 → A.getD i 0 = if i < j then l.getD i 0 ||| m.getD i 0 else l.getD i 0
theorem Part.zero {l m : List Nat} (hl : l.length = 16) : Part l m l 0 := ⟨hl, fun i _ => by rw [if_neg (by omega)]⟩
theorem Part.done {l m A : List Nat} (hl : l.length = 16) (hm : m.length = 16) (h : Part l m A 16) : A = bjoin l m := by
  apply ext_getD
  · rw [h.1, bjoin_length l m hl hm]
  · intro i hi
    rw [h.1] at hi
    rw [h.2 i hi, if_pos hi, bjoin_getD l m hl hm i hi]
theorem set_getD' (l : List Nat) (k v i : Nat) (hk : k < l.length) : (l.set k v).getD i 0 = if i = k then v else l.getD i 0 := by
  simp only [List.getD_eq_getElem?_getD, List.getElem?_set]
  by_cases h : i = k
  · subst h; simp [hk]
  · simp [h, Ne.symm h]
theorem Part.next {l m A : List Nat} {j : Nat} (h : Part l m A j) (hj : j < 16) : A.getD j 0 = l.getD j 0 ∧ Part l m (A.set j (l.getD j 0 ||| m.getD j 0)) (j + 1) := by
  refine ⟨by rw [h.2 j hj, if_neg (by omega)], by rw [List.length_set]; exact h.1, fun i hi => ?_⟩
  rw [set_getD' _ _ _ _ (by rw [h.1]; exact hj)]
  by_cases e : i = j
  · subst e; rw [if_pos rfl, if_pos (by omega)]
  · rw [if_neg e, h.2 i hi]
    by_cases c : i < j
    · rw [if_pos c, if_pos (by omega)]
    · rw [if_neg c, if_neg (by omega)]
end Plain
theorem run_index_word {P : Program} (w : World) (t e : TypeId) (n : Nat) (m : List Nat) (j : Nat) (ht : P.underlying t = some (.array n e)) (he : P.underlying e = some (.int .u64)) (hi : (P.info? e).map (·.size) = some 1)
    (hj : j < n) (hm : m.length = n) : (Instr.index t (.agg (uC m)) (.int .i64 (j : Int))).run P w = .ok (.int .u64 ((m.getD j 0 : Nat) : Int)) w := by
  have := run_index_ints (P := P) w t e n .i64 .u64 (uC m) (j : Int) ht he hi (by omega) (by omega) (by rw [uC_size]; exact hm)
  rw [this]
  congr 1
  have h2 : (uC m)[j]? = some (.int .u64 ((m.getD j 0 : Nat) : Int)) := by
    simp [uC, List.getElem?_map, List.getD_eq_getElem?_getD, List.getElem?_eq_getElem (show j < m.length by omega), uV]
  have h3 : (uC m)[j]? = some ((uC m)[j]'(by rw [uC_size]; omega)) := Array.getElem?_eq_getElem (by rw [uC_size]; omega)
  exact Option.some.inj (h3.symm.trans h2)
set_option maxRecDepth 100000 in
set_option maxHeartbeats 1000000 in
theorem join_any (ls : List (List Nat)) (B cap : Nat) (w : World) (hls : ∀ l ∈ ls, l.length = 16 ∧ ∀ c ∈ l, c < 18446744073709551616) (hn : ls.length ≤ 1000) (hB : w.heap[B]? = some (.cells (uC ls.flatten) 24 (0, 0))) :
    Calls Try.prog 16 #[.slice (some ⟨B, 0, none⟩) ls.length cap] w fun e w' => e = .returned (.agg (uC (ls.foldl bjoin (List.replicate 16 0)))) ∧ Below w.heap.size w w' := by
  have HLS := Lib.hid hls
  have HB := Lib.hid hB
  have HBlt := Lib.hid (lt_of_block hB)
  clear hls hB
  have i24' : (Try.prog.info? 24).map (·.size) = some 16 := by kernel_rfl
  have i22' : (Try.prog.info? 22).map (·.size) = some 1 := by kernel_rfl
  have i24 := Lib.hid i24'
  have i22 := Lib.hid i22'
  clear i24' i22'
  go_enter Try.func16, Try.ntmps16
  go_wp2
  rw [zeros16]
  have r0 := Lib.hid ((URow.new w 24 (List.replicate 16 0)).alloc (.cells (uC (List.replicate 16 0)) 24))
  have r1 : Hid (URow ((w.alloc (.cells (uC (List.replicate 16 0)) 24)).alloc (.cells (uC (List.replicate 16 0)) 24)) 24 (w.heap.size + 1) (List.replicate 16 0)) := by
    have := URow.new (w.alloc (.cells (uC (List.replicate 16 0)) 24)) 24 (List.replicate 16 0)
    rw [World.size_alloc] at this
    exact this
  have b0 : Hid (Below w.heap.size w ((w.alloc (.cells (uC (List.replicate 16 0)) 24)).alloc (.cells (uC (List.replicate 16 0)) 24))) := ((Below.refl _ _).alloc (Nat.le_refl _) _).alloc (by simp) _
  generalize (w.alloc (.cells (uC (List.replicate 16 0)) 24)).alloc (.cells (uC (List.replicate 16 0)) 24) = w1 at *
  go_loopw [10] (fun i wr => ∃ k : Nat, k ≤ ls.length ∧ (((ls.take k).foldl bjoin (List.replicate 16 0)).length = 16 ∧ ∀ c ∈ (ls.take k).foldl bjoin (List.replicate 16 0), c < 18446744073709551616) ∧ URow wr 24 w.heap.size (List.replicate 16 0) ∧ URow wr 24 (w.heap.size + 1) ((ls.take k).foldl bjoin (List.replicate 16 0)) ∧ Below w.heap.size w wr ∧ i = .int .i64 k) (fun i _ => ls.length - (intOf i).toNat)
  case atStart => exact ⟨0, Nat.zero_le _, ⟨by simp, by simp⟩, r0.out, r1.out, b0.out, rfl⟩
  case round =>
    obtain ⟨k, hk, hacc, hr0, hr1, hbl, rfl⟩ := hrel
    have HA := Lib.hid hacc
    have R0 := Lib.hid hr0
    have R1 := Lib.hid hr1
    have BL := Lib.hid hbl
    clear hacc hr0 hr1 hbl r0 r1 b0
    by_cases hlt : k < ls.length
    · have hm := HLS.out (ls[k]) (List.getElem_mem _)
      have hstep : (ls.take (k + 1)).foldl bjoin (List.replicate 16 0) = bjoin ((ls.take k).foldl bjoin (List.replicate 16 0)) ls[k] := by
        rw [List.take_succ_eq_append_getElem hlt, List.foldl_append]; rfl
      have hrng : wr.rangeAt B (k * 16) (uC ls[k]).toList := by
        intro j v hv
        have hwr : wr.heap[B]? = some (.cells (uC ls.flatten) 24 (0, 0)) := (BL.out.block B HBlt.out).trans HB.out
        rw [cell_of_row _ _ _ _ _ _ hwr]
        have hj : j < 16 := by
          rcases Nat.lt_or_ge j 16 with h | h
          · exact h
          · rw [List.getElem?_eq_none (by rw [Array.length_toList, uC_size, hm.1]; exact h)] at hv; cases hv
        have := flatten_get ls (fun l hl => (HLS.out l hl).1) k j hlt hj
        simp only [uC, List.toList_toArray, List.getElem?_map, List.getElem?_toArray] at hv ⊢
        rw [this]; exact hv
      generalize ls[k] = m at *
      have HM := Lib.hid hm
      have HST := Lib.hid hstep
      generalize (ls.take k).foldl bjoin (List.replicate 16 0) = acc at *
      have HRG := Lib.hid hrng
      have s16 : Hid ((uC m).toList.length = 16) := by rw [Array.length_toList, uC_size]; exact hm.1
      have kk : (k : Int) < (ls.length : Int) := by omega
      have k0 : (0 : Int) ≤ (k : Int) := Int.natCast_nonneg _
      clear hm hstep hrng
      have hnew : URow (wr.alloc (.cells #[Value.int IntKind.u64 0, Value.int IntKind.u64 0, Value.int IntKind.u64 0, Value.int IntKind.u64 0, Value.int IntKind.u64 0, Value.int IntKind.u64 0, Value.int IntKind.u64 0, Value.int IntKind.u64 0, Value.int IntKind.u64 0, Value.int IntKind.u64 0, Value.int IntKind.u64 0, Value.int IntKind.u64 0, Value.int IntKind.u64 0, Value.int IntKind.u64 0, Value.int IntKind.u64 0, Value.int IntKind.u64 0] 24)) 24 wr.heap.size (List.replicate 16 0) := URow.new wr 24 (List.replicate 16 0)
      have HTH : Hid ((wr.alloc (.cells #[Value.int IntKind.u64 0, Value.int IntKind.u64 0, Value.int IntKind.u64 0, Value.int IntKind.u64 0, Value.int IntKind.u64 0, Value.int IntKind.u64 0, Value.int IntKind.u64 0, Value.int IntKind.u64 0, Value.int IntKind.u64 0, Value.int IntKind.u64 0, Value.int IntKind.u64 0, Value.int IntKind.u64 0, Value.int IntKind.u64 0, Value.int IntKind.u64 0, Value.int IntKind.u64 0, Value.int IntKind.u64 0] 24)).there wr.heap.size 0 16) := hnew.there
      have RM := Lib.hid (hnew.store m (by rw [HM.out.1]; rfl))
      have lt0 := R0.out.lt
      have lt1 := R1.out.lt
      have R0' : Hid (URow ((wr.alloc (.cells #[Value.int IntKind.u64 0, Value.int IntKind.u64 0, Value.int IntKind.u64 0, Value.int IntKind.u64 0, Value.int IntKind.u64 0, Value.int IntKind.u64 0, Value.int IntKind.u64 0, Value.int IntKind.u64 0, Value.int IntKind.u64 0, Value.int IntKind.u64 0, Value.int IntKind.u64 0, Value.int IntKind.u64 0, Value.int IntKind.u64 0, Value.int IntKind.u64 0, Value.int IntKind.u64 0, Value.int IntKind.u64 0] 24)).setCells wr.heap.size 0 (uC m).toList) 24 w.heap.size (List.replicate 16 0)) := (heap_setCells_other _ _ (by omega) _ _ _).trans (R0.out.alloc _)
      have R1' : Hid (URow ((wr.alloc (.cells #[Value.int IntKind.u64 0, Value.int IntKind.u64 0, Value.int IntKind.u64 0, Value.int IntKind.u64 0, Value.int IntKind.u64 0, Value.int IntKind.u64 0, Value.int IntKind.u64 0, Value.int IntKind.u64 0, Value.int IntKind.u64 0, Value.int IntKind.u64 0, Value.int IntKind.u64 0, Value.int IntKind.u64 0, Value.int IntKind.u64 0, Value.int IntKind.u64 0, Value.int IntKind.u64 0, Value.int IntKind.u64 0] 24)).setCells wr.heap.size 0 (uC m).toList) 24 (w.heap.size + 1) acc) := (heap_setCells_other _ _ (by omega) _ _ _).trans (R1.out.alloc _)
      have BL' : Hid (Below w.heap.size w ((wr.alloc (.cells #[Value.int IntKind.u64 0, Value.int IntKind.u64 0, Value.int IntKind.u64 0, Value.int IntKind.u64 0, Value.int IntKind.u64 0, Value.int IntKind.u64 0, Value.int IntKind.u64 0, Value.int IntKind.u64 0, Value.int IntKind.u64 0, Value.int IntKind.u64 0, Value.int IntKind.u64 0, Value.int IntKind.u64 0, Value.int IntKind.u64 0, Value.int IntKind.u64 0, Value.int IntKind.u64 0, Value.int IntKind.u64 0] 24)).setCells wr.heap.size 0 (uC m).toList)) := below_setCells (by omega) _ _ (BL.out.alloc (by omega) _)
      have HONE := Lib.hid (uC_one m)
      have RM' : Hid (((wr.alloc (.cells #[Value.int IntKind.u64 0, Value.int IntKind.u64 0, Value.int IntKind.u64 0, Value.int IntKind.u64 0, Value.int IntKind.u64 0, Value.int IntKind.u64 0, Value.int IntKind.u64 0, Value.int IntKind.u64 0, Value.int IntKind.u64 0, Value.int IntKind.u64 0, Value.int IntKind.u64 0, Value.int IntKind.u64 0, Value.int IntKind.u64 0, Value.int IntKind.u64 0, Value.int IntKind.u64 0, Value.int IntKind.u64 0] 24)).setCells wr.heap.size 0 (uC m).toList).heap[wr.heap.size]? = some (.cells (uC m) 24 (0, 0))) := RM.out
      have s16' : Hid ((uC m).size = 16) := by rw [uC_size]; exact HM.out.1
      clear hnew lt0 lt1 RM
      go_wp2_with (first | (with_reducible refine wpList_load_mid rfl 24 (.tmp 12) rfl B (k * 16) rfl (uC m).toList _ HRG.out Try.underlying24 rfl ?_ ?_; (rw [s16.out]; exact i24.out)) | (with_reducible refine wpList_store_mid rfl 24 (.tmp 5) (.tmp 13) rfl wr.heap.size 0 (uC m) rfl rfl ?_ ?_ HONE.out ?_; (rw [s16'.out]; exact HTH.out); (rw [s16'.out]; exact i24.out)) | (with_reducible refine wpList_load_row rfl 24 (.tmp 5) rfl wr.heap.size rfl 24 (uC m) (0, 0) _ RM'.out Try.underlying24 rfl ?_ ?_; (rw [s16'.out]; exact i24.out)))
      generalize World.setCells (wr.alloc (Obj.cells #[Value.int IntKind.u64 0, Value.int IntKind.u64 0, Value.int IntKind.u64 0, Value.int IntKind.u64 0, Value.int IntKind.u64 0, Value.int IntKind.u64 0, Value.int IntKind.u64 0, Value.int IntKind.u64 0, Value.int IntKind.u64 0, Value.int IntKind.u64 0, Value.int IntKind.u64 0, Value.int IntKind.u64 0, Value.int IntKind.u64 0, Value.int IntKind.u64 0, Value.int IntKind.u64 0, Value.int IntKind.u64 0] 24)) wr.heap.size 0 (uC m).toList = w2 at *
      clear RM' HTH HRG HONE R0 R1 BL
      have hix := fun (wx : World) (j : Nat) (hj : j < 16) => run_index_word (P := Try.prog) wx 24 22 16 m j Try.underlying24 Try.underlying22 i22.out hj HM.out.1
      have HIX := Lib.hid hix
      clear hix
      obtain ⟨wo, hwo⟩ : ∃ wo : World, wo = wr := ⟨_, rfl⟩
      rw [← hwo]
      clear hwo
      go_loopw [15] (fun i wr => ∃ (j : Nat) (A : List Nat), j ≤ 16 ∧ (Part acc m A j ∧ ∀ c ∈ A, c < 18446744073709551616) ∧ URow wr 24 w.heap.size (List.replicate 16 0) ∧ URow wr 24 (w.heap.size + 1) A ∧ Below w.heap.size w wr ∧ i = .int .i64 j) (fun i _ => 16 - (intOf i).toNat)
      case atStart => exact ⟨0, acc, by omega, ⟨Part.zero HA.out.1, HA.out.2⟩, R0'.out, R1'.out, BL'.out, rfl⟩
      case round =>
        obtain ⟨j, A, hj, ⟨hp, hlt64⟩, hr0, hr1, hbl, rfl⟩ := hrel
        have r0 := Lib.hid hr0
        have r1 := Lib.hid hr1
        have bl := Lib.hid hbl
        have HP := Lib.hid hp
        have HT := Lib.hid hlt64
        clear hr0 hr1 hbl hp hlt64
        by_cases hj16 : j < 16
        · have ⟨hg, hnext⟩ := HP.out.next hj16
          have c := r1.out.cell (k := j) (by rw [HP.out.1]; exact hj16)
          have f := r1.out.frozen j
          rw [hg] at c
          have la := getD_lt64 acc HA.out.2 j
          have lm := getD_lt64 m HM.out.2 j
          have o := bits_or_u64_nat _ _ la lm
          have hx := HIX.out
          have hxj := fun wx => hx wx j hj16
          have r0n := Lib.hid (r0.out.other (a := ⟨w.heap.size + 1, j, none⟩) (by show w.heap.size ≠ w.heap.size + 1; omega) (.int .u64 ((acc.getD j 0 ||| m.getD j 0 : Nat) : Int)))
          have r1n := Lib.hid (r1.out.set j (acc.getD j 0 ||| m.getD j 0))
          have bln := Lib.hid (bl.out.setCell (p := ⟨w.heap.size + 1, j, none⟩) (Nat.le_succ _) (.int .u64 ((acc.getD j 0 ||| m.getD j 0 : Nat) : Int)))
          have HN := Lib.hid hnext
          have htn : Hid (∀ c ∈ A.set j (acc.getD j 0 ||| m.getD j 0), c < 18446744073709551616) := by
            intro c hc
            rcases List.mem_or_eq_of_mem_set hc with h1 | rfl
            · exact HT.out c h1
            · exact or_lt64 la lm
          clear hg hnext hx
          generalize acc.getD j 0 = x at *
          generalize m.getD j 0 = y at *
          generalize hz : x ||| y = z at *
          clear hz
          have j0 : (0 : Int) ≤ (j : Int) := Int.natCast_nonneg _
          have j1 : (j : Int) < 16 := by omega
          go_wp2
          go_roundw
          case rel => exact ⟨j + 1, _, by omega, ⟨HN.out, htn.out⟩, r0n.out, r1n.out, bln.out, by go_num⟩
          case measure => simp [intOf]; omega
        · obtain rfl : j = 16 := by omega
          have hA := HP.out.done HA.out.1 HM.out.1
          go_wp2
          go_roundw
          case rel => exact ⟨k + 1, by omega, ⟨by rw [HST.out]; exact bjoin_length _ _ HA.out.1 HM.out.1, by rw [HST.out]; exact bjoin_lt _ _ HA.out.2 HM.out.2⟩, r0.out, by rw [HST.out, ← hA]; exact r1.out, bl.out, by go_num⟩
          case measure => simp [intOf]; omega
    · obtain rfl : k = ls.length := by omega
      rw [List.take_length] at HA R1
      generalize hacc : ls.foldl bjoin (List.replicate 16 0) = acc at *
      have HACC := Lib.hid hacc
      clear hacc
      have hS := R0.out.store acc (by rw [HA.out.1]; rfl)
      have HS : Hid ((wr.setCells w.heap.size 0 (uC acc).toList).heap[w.heap.size]? = some (.cells (uC acc) 24 (0, 0))) := hS
      have HO := Lib.hid (uC_one acc)
      have HTh : Hid (wr.there w.heap.size 0 16) := R0.out.there
      have R1' : Hid (wr.heap[w.heap.size + 1]? = some (.cells (uC acc) 24 (0, 0))) := R1.out
      have S4 : Hid ((uC acc).size = 16) := by rw [uC_size]; exact HA.out.1
      clear hS
      go_wp2_with (first | (with_reducible refine wpList_load_row rfl 24 (.tmp 3) rfl (w.heap.size + 1) rfl 24 (uC acc) (0, 0) _ R1'.out Try.underlying24 rfl ?_ ?_; (rw [S4.out]; exact i24.out)) | (with_reducible refine wpList_store_mid rfl 24 (.tmp 2) (.tmp 27) rfl w.heap.size 0 (uC acc) rfl rfl ?_ ?_ HO.out ?_; (rw [S4.out]; exact HTh.out); (rw [S4.out]; exact i24.out)))
      exact bodyPost_ret (v := .agg (uC acc)) (results_cell_row (p := 2) (ty := 24) rfl _ _ w.heap.size 24 (uC acc) (0, 0) _ rfl HS.out Try.underlying24 rfl (by rw [S4.out]; exact i24.out)) rfl ⟨by rw [HACC.out], below_setCells (Nat.le_refl _) _ _ BL.out⟩
end Go.Proofs.Ythfjonicolhjnaa
