/- Joined: FetchV. -/
import Derived.Test.YtbfoonfbhebhfaaGreatDoorKGpD
namespace Go.Proofs.YtbfoonfbhebhfaaGreatDoor
open Go.RowKit Plain Go.Maps Go.ChangeMaps
set_option linter.unusedVariables false
set_option linter.unusedSimpArgs false
set_option maxRecDepth 100000 in
set_option maxHeartbeats 4000000 in
theorem visit_step {w0 : World} (hT : Tabs w0) {base P H S : Nat} (hb0 : w0.heap.size ≤ base) {es : List (List Nat × Bl)} (hes : ∀ e ∈ es, e.1.length = 8) {mz : List (List Nat × Bl)} (hmz : ∀ id b, ilk es id = some b → (id, b) ∈ mz) (f : List Nat → VSt → Option VSt) (hf : ∀ id st st', f id st = some st' → Grw mz (remV mz) st st') (i0 i1 i2 i3 i4 i5 i6 i7 : Nat) (seen : List (List Nat)) (out : List Bl) (ss : List (List Nat × Bool)) (oa : Option Addr) (oc : Nat) (w : World) (hx : VX base P H S es seen out ss oa oc w) (hbw : Below w0.heap.size w0 w) (hlen : out.length + remV mz seen ≤ 1000)
  (hsub : ∀ (j0 j1 j2 j3 j4 j5 j6 j7 : Nat) (seen' : List (List Nat)) (out' : List Bl) (ss' : List (List Nat × Bool)) (oa' : Option Addr) (oc' : Nat) (u : World), remV mz seen' + 1 ≤ remV mz seen → VX base P H S es seen' out' ss' oa' oc' u → Below w0.heap.size w0 u → out'.length + remV mz seen' ≤ 1000 → Calls Tryz.prog 74 #[.pointer (some ⟨P, 0, none⟩), .agg #[.int .u8 (j0 : Int), .int .u8 (j1 : Int), .int .u8 (j2 : Int), .int .u8 (j3 : Int), .int .u8 (j4 : Int), .int .u8 (j5 : Int), .int .u8 (j6 : Int), .int .u8 (j7 : Int)]] u (VEnd base P H S es (f [j0, j1, j2, j3, j4, j5, j6, j7] (seen', out')) (obk oa') u)) :
  Calls Tryz.prog 74 #[.pointer (some ⟨P, 0, none⟩), .agg #[.int .u8 (i0 : Int), .int .u8 (i1 : Int), .int .u8 (i2 : Int), .int .u8 (i3 : Int), .int .u8 (i4 : Int), .int .u8 (i5 : Int), .int .u8 (i6 : Int), .int .u8 (i7 : Int)]] w (VEnd base P H S es (stepF (ilk es) f [i0, i1, i2, i3, i4, i5, i6, i7] (seen, out)) (obk oa) w) := by
 obtain ⟨ib0, hib0, hbz0, hbz1, hbz2⟩ := info_parts info_blW
 have HSUB := Lib.hid hsub
 have HMZ := Lib.hid hmz
 have HF := Lib.hid hf
 have HES := Lib.hid hes
 have HT := Lib.hid hT
 have HBW := Lib.hid hbw
 have HLEN := Lib.hid hlen
 have HB0 := Lib.hid hb0
 have HX0 := Lib.hid hx
 have hba := (Below.refl w.heap.size w).alloc (Nat.le_refl _) (.cells #[.int .u8 (i0 : Int), .int .u8 (i1 : Int), .int .u8 (i2 : Int), .int .u8 (i3 : Int), .int .u8 (i4 : Int), .int .u8 (i5 : Int), .int .u8 (i6 : Int), .int .u8 (i7 : Int)] 30)
 have hna := heap_alloc_new w (.cells #[.int .u8 (i0 : Int), .int .u8 (i1 : Int), .int .u8 (i2 : Int), .int .u8 (i3 : Int), .int .u8 (i4 : Int), .int .u8 (i5 : Int), .int .u8 (i6 : Int), .int .u8 (i7 : Int)] 30)
 have HBA := Lib.hid hba
 have HR1 := Lib.hid hna
 have HX1 := Lib.hid (hx.below hba)
 have HPL : Hid (P < w.heap.size ∧ H < w.heap.size ∧ S < w.heap.size) := Lib.hid ⟨lt_of_block hx.1, lt_of_blockW hx.2.2.1, lt_of_blockW hx.2.2.2.1⟩
 have HOB : Hid (∀ g, obk oa = some g → g < w.heap.size) := Lib.hid fun g e => (hx.ob e).2.1
 clear hsub hmz hf hes hT hbw hlen hb0 hx hba hna
 go_enter Tryz.func74, Tryz.ntmps74
 go_wp2_with fail
 generalize hw1 : w.alloc (.cells #[.int .u8 (i0 : Int), .int .u8 (i1 : Int), .int .u8 (i2 : Int), .int .u8 (i3 : Int), .int .u8 (i4 : Int), .int .u8 (i5 : Int), .int .u8 (i6 : Int), .int .u8 (i7 : Int)] 30) = w1 at *
 clear hw1
 refine wp_region_noPanic ?_
 refine wp_region_held_drew (S := fun u => Below w1.heap.size w1 u) (by kernel_rfl) (Below.refl _ _).drew (fun hS0 => ?_)
 have HS0 := Lib.hid hS0
 clear hS0
 have HX2 := Lib.hid (HX1.out.below (Below.refl _ _).drew)
 have HB2 := Lib.hid (HBA.out.drew)
 have HR2 : Hid (w1.drew.heap[w.heap.size]? = some (.cells #[.int .u8 (i0 : Int), .int .u8 (i1 : Int), .int .u8 (i2 : Int), .int .u8 (i3 : Int), .int .u8 (i4 : Int), .int .u8 (i5 : Int), .int .u8 (i6 : Int), .int .u8 (i7 : Int)] 30 (0, 0))) := HR1
 refine take_val 0 (.pointer (some ⟨P, 0, none⟩)) rfl (by kernel_rfl) (by kernel_rfl) (by kernel_rfl) (fun _ _ _ _ h => h) (by rfl) rfl (fun wz hS => by go_simp) HS0.out ?_
 try simp only [List.set_cons_zero, List.set_cons_succ]
 refine take_val 1 (.pointer (some ⟨P, 0, none⟩)) rfl (by kernel_rfl) (by kernel_rfl) (by kernel_rfl) (fun _ _ _ _ h => h) (by rfl) rfl (fun wz hS => by go_simp) HS0.out ?_
 try simp only [List.set_cons_zero, List.set_cons_succ]
 refine take_val 2 (.pointer (some ⟨P, 1, none⟩)) rfl (by kernel_rfl) (by kernel_rfl) (by kernel_rfl) (fun _ _ _ _ h => h) (by rfl) rfl (fun wz hS => by go_simp) HS0.out ?_
 try simp only [List.set_cons_zero, List.set_cons_succ]
 refine take_val 3 (.map (some S)) rfl (by kernel_rfl) (by kernel_rfl) (by kernel_rfl) (fun _ _ _ _ h => h) (by rfl) rfl (fun wz hS => by have c1 := (HX1.out.below hS).1.c1; go_simp) HS0.out ?_
 try simp only [List.set_cons_zero, List.set_cons_succ]
 refine take_val 4 (.agg #[.int .u8 (i0 : Int), .int .u8 (i1 : Int), .int .u8 (i2 : Int), .int .u8 (i3 : Int), .int .u8 (i4 : Int), .int .u8 (i5 : Int), .int .u8 (i6 : Int), .int .u8 (i7 : Int)]) rfl (by kernel_rfl) (by kernel_rfl) (by kernel_rfl) (fun _ _ _ _ h => h) (by rfl) rfl (fun wz hS => by have r6 := (hS.block _ (lt_of_block HR1.out)).trans HR1.out; have d0 := cell_of_row _ _ 0 _ _ _ r6; have d1 := cell_of_row _ _ 1 _ _ _ r6; have d2 := cell_of_row _ _ 2 _ _ _ r6; have d3 := cell_of_row _ _ 3 _ _ _ r6; have d4 := cell_of_row _ _ 4 _ _ _ r6; have d5 := cell_of_row _ _ 5 _ _ _ r6; have d6 := cell_of_row _ _ 6 _ _ _ r6; have d7 := cell_of_row _ _ 7 _ _ _ r6; simp only [List.getElem?_toArray, List.getElem?_cons_zero, List.getElem?_cons_succ] at d0 d1 d2 d3 d4 d5 d6 d7; go_simp) HS0.out ?_
 try simp only [List.set_cons_zero, List.set_cons_succ]
 obtain ⟨t, ht⟩ : ∃ t, decide ([i0, i1, i2, i3, i4, i5, i6, i7] ∈ seen) = t := ⟨_, rfl⟩
 have HLK : Hid (∀ u, Below w1.heap.size w1 u → (Instr.lookup 136 (.map (some S)) (.agg #[.int .u8 (i0 : Int), .int .u8 (i1 : Int), .int .u8 (i2 : Int), .int .u8 (i3 : Int), .int .u8 (i4 : Int), .int .u8 (i5 : Int), .int .u8 (i6 : Int), .int .u8 (i7 : Int)]) false).run Tryz.prog u = .ok (.bool t) u) := Lib.hid fun u hu => by
  have hl := look_id1 vB (w := u) (b := S) (mt := 136) Tryz.underlying136 (zero_boolV u) (HX1.out.below hu).2.2.2.1 [i0, i1, i2, i3, i4, i5, i6, i7] rfl HX1.out.2.2.2.2.1.1
  rw [HX1.out.2.2.2.2.1.2] at hl
  rw [← ht]
  by_cases hm : [i0, i1, i2, i3, i4, i5, i6, i7] ∈ seen
  ·
   rw [if_pos hm] at hl; rw [decide_eq_true hm]; exact hl
  ·
   rw [if_neg hm] at hl; rw [decide_eq_false hm]; exact hl
 refine take_val 5 (.bool t) rfl (by kernel_rfl) (by kernel_rfl) (by kernel_rfl) (fun _ _ _ _ h => h) (by rfl) rfl (fun wz hS => by have hl := HLK.out wz hS; go_simp) HS0.out ?_
 try simp only [List.set_cons_zero, List.set_cons_succ]
 refine wpAnyH_done (by kernel_rfl) ?_ _
 refine NoPanic.normal ?_
 clear HS0 HLK HX1 HR1
 have HFR2 : Hid (FrV P S (obk oa) (obk oa) w w1.drew) := Lib.hid (FrV.of_below HB2.out)
 generalize w1.drew = w2 at *
 cases t with
 | true =>
  have hm : [i0, i1, i2, i3, i4, i5, i6, i7] ∈ seen := of_decide_eq_true ht
  have HST := Lib.hid (stepF_seen (B := ilk es) (f := f) (st := (seen, out)) hm)
  clear ht hm
  go_wp2_with fail
  go_ret
  exact ⟨seen, out, ss, oa, oc, 0, rfl, HX2.out, HFR2.out, .inl ⟨HST.out, rfl⟩⟩
 | false =>
  have hm : [i0, i1, i2, i3, i4, i5, i6, i7] ∉ seen := of_decide_eq_false ht
  have HNM := Lib.hid hm
  clear ht hm
  go_wp2_with fail
  refine wp_region_noPanic ?_
  refine wp_region_E (S := fun u => Below w2.heap.size w2 u) 5 (by kernel_rfl) (Below.refl _ _).drew (fun hS0 => ?_)
  have HS0 := Lib.hid hS0
  clear hS0
  have HX3 := Lib.hid (HX2.out.below (Below.refl _ _).drew)
  have HR3 : Hid (w2.drew.heap[w.heap.size]? = some (.cells #[.int .u8 (i0 : Int), .int .u8 (i1 : Int), .int .u8 (i2 : Int), .int .u8 (i3 : Int), .int .u8 (i4 : Int), .int .u8 (i5 : Int), .int .u8 (i6 : Int), .int .u8 (i7 : Int)] 30 (0, 0))) := HR2
  have HFR3 : Hid (FrV P S (obk oa) (obk oa) w w2.drew) := Lib.hid (HFR2.out.trans (FrV.of_below (Below.refl _ _).drew))
  have HB3 := Lib.hid HB2.out.drew
  refine takeE_val 0 (.pointer (some ⟨P, 0, none⟩)) rfl (by kernel_rfl) (by kernel_rfl) (by kernel_rfl) (by kernel_rfl) rfl (fun _ _ _ _ h => h) (by rfl) rfl (fun wz hS => by go_simp) HS0.out ?_
  try simp only [List.set_cons_zero, List.set_cons_succ]
  refine takeE_val 1 (.pointer (some ⟨P, 0, none⟩)) rfl (by kernel_rfl) (by kernel_rfl) (by kernel_rfl) (by kernel_rfl) rfl (fun _ _ _ _ h => h) (by rfl) rfl (fun wz hS => by go_simp) HS0.out ?_
  try simp only [List.set_cons_zero, List.set_cons_succ]
  refine takeE_val 2 (.pointer (some ⟨P, 1, none⟩)) rfl (by kernel_rfl) (by kernel_rfl) (by kernel_rfl) (by kernel_rfl) rfl (fun _ _ _ _ h => h) (by rfl) rfl (fun wz hS => by go_simp) HS0.out ?_
  try simp only [List.set_cons_zero, List.set_cons_succ]
  refine takeE_val 3 (.map (some S)) rfl (by kernel_rfl) (by kernel_rfl) (by kernel_rfl) (by kernel_rfl) rfl (fun _ _ _ _ h => h) (by rfl) rfl (fun wz hS => by have c1 := (HX2.out.below hS).1.c1; go_simp) HS0.out ?_
  try simp only [List.set_cons_zero, List.set_cons_succ]
  refine takeE_val 4 (.agg #[.int .u8 (i0 : Int), .int .u8 (i1 : Int), .int .u8 (i2 : Int), .int .u8 (i3 : Int), .int .u8 (i4 : Int), .int .u8 (i5 : Int), .int .u8 (i6 : Int), .int .u8 (i7 : Int)]) rfl (by kernel_rfl) (by kernel_rfl) (by kernel_rfl) (by kernel_rfl) rfl (fun _ _ _ _ h => h) (by rfl) rfl (fun wz hS => by have r6 := (hS.block _ (lt_of_block HR2.out)).trans HR2.out; have d0 := cell_of_row _ _ 0 _ _ _ r6; have d1 := cell_of_row _ _ 1 _ _ _ r6; have d2 := cell_of_row _ _ 2 _ _ _ r6; have d3 := cell_of_row _ _ 3 _ _ _ r6; have d4 := cell_of_row _ _ 4 _ _ _ r6; have d5 := cell_of_row _ _ 5 _ _ _ r6; have d6 := cell_of_row _ _ 6 _ _ _ r6; have d7 := cell_of_row _ _ 7 _ _ _ r6; simp only [List.getElem?_toArray, List.getElem?_cons_zero, List.getElem?_cons_succ] at d0 d1 d2 d3 d4 d5 d6 d7; go_simp) HS0.out ?_
  try simp only [List.set_cons_zero, List.set_cons_succ]
  obtain ⟨hx4, hfr4⟩ := HX3.out.put (id := [i0, i1, i2, i3, i4, i5, i6, i7]) rfl HNM.out
  have hq : ilk ss [i0, i1, i2, i3, i4, i5, i6, i7] = none := by rw [HX3.out.2.2.2.2.1.2, if_neg HNM.out]
  have hput := put_id8 vB (mt := 136) Tryz.underlying136 HX3.out.2.2.2.1 [i0, i1, i2, i3, i4, i5, i6, i7] true rfl HX3.out.2.2.2.2.1.1 hq
  replace hput : (Instr.mapUpdate 136 (.map (some S)) (.agg #[.int .u8 (i0 : Int), .int .u8 (i1 : Int), .int .u8 (i2 : Int), .int .u8 (i3 : Int), .int .u8 (i4 : Int), .int .u8 (i5 : Int), .int .u8 (i6 : Int), .int .u8 (i7 : Int)]) (.bool true)).run Tryz.prog w2.drew = .ok () (setBlock w2.drew S (imO vB (ss ++ [([i0, i1, i2, i3, i4, i5, i6, i7], true)]))) := hput
  have HR4 := Lib.hid ((setBlockI_other (w := w2.drew) (b := S) (imO vB (ss ++ [([i0, i1, i2, i3, i4, i5, i6, i7], true)])) (i := w.heap.size) (by have := HPL.out; omega)).trans HR3.out)
  have HX4 := Lib.hid hx4
  have HFR4 := Lib.hid (HFR3.out.trans hfr4)
  refine oneE_ready 5 (by kernel_rfl) rfl (by rfl) (fun KQ hK => ?_)
  go_simp
  refine hK.out _ _ (fun h => absurd rfl h) ?_
  clear hK KQ
  try simp only [Act.put, List.setIfInBounds_toArray, List.set_cons_zero, List.set_cons_succ]
  refine wpAnyE_done (by kernel_rfl) ?_ _
  refine NoPanic.normal ?_
  clear hx4 hfr4 hq hput HS0 HX2 HX3 HR2 HR3 HFR2 HFR3 HB2 HB3
  generalize setBlock w2.drew S (imO vB (ss ++ [([i0, i1, i2, i3, i4, i5, i6, i7], true)])) = w4 at *
  have HIBL : Hid (∀ a b : Value, (Tryz.prog.info? 37).map (·.size) = some (#[a, b] : Array Value).size) := Lib.hid (fun a b => by show _ = _; kernel_rfl)
  have HWL : Hid (w.heap.size < w4.heap.size) := Lib.hid (lt_of_block HR4.out)
  go_wp2_with fail
  cases hq : ilk es [i0, i1, i2, i3, i4, i5, i6, i7] with
  | none =>
   have HST := Lib.hid (stepF_none (B := ilk es) (f := f) (st := (seen, out)) HNM.out hq)
   have HLK : Hid (∀ u, Below w4.heap.size w4 u → (Instr.lookup 97 (.map (some H)) (.agg #[.int .u8 (i0 : Int), .int .u8 (i1 : Int), .int .u8 (i2 : Int), .int .u8 (i3 : Int), .int .u8 (i4 : Int), .int .u8 (i5 : Int), .int .u8 (i6 : Int), .int .u8 (i7 : Int)]) true).run Tryz.prog u = .ok (.tuple #[.agg #[.int .i64 0, .string ⟨#[]⟩], .bool false]) u) := Lib.hid fun u hu => by
    have hl := look_id2 blV (w := u) (b := H) (mt := 97) Tryz.underlying97 (zero_blW u) (HX4.out.below hu).2.2.1 [i0, i1, i2, i3, i4, i5, i6, i7] rfl HES.out
    rw [hq] at hl
    exact hl
   clear hq
   refine wp_region_noPanic ?_
   refine wp_region_held_drew (S := fun u => Below w4.heap.size w4 u) (by kernel_rfl) (Below.refl _ _).drew (fun hS0 => ?_)
   have HS0 := Lib.hid hS0
   clear hS0
   generalize w4.drew = wd at *
   refine take_val 0 (.pointer (some ⟨P, 0, none⟩)) rfl (by kernel_rfl) (by kernel_rfl) (by kernel_rfl) (fun _ _ _ _ h => h) (by rfl) rfl (fun wz hS => by go_simp) HS0.out ?_
   try simp only [List.set_cons_zero, List.set_cons_succ]
   refine take_val 1 (.pointer (some ⟨P, 0, none⟩)) rfl (by kernel_rfl) (by kernel_rfl) (by kernel_rfl) (fun _ _ _ _ h => h) (by rfl) rfl (fun wz hS => by go_simp) HS0.out ?_
   try simp only [List.set_cons_zero, List.set_cons_succ]
   refine take_val 2 (.pointer (some ⟨P, 0, none⟩)) rfl (by kernel_rfl) (by kernel_rfl) (by kernel_rfl) (fun _ _ _ _ h => h) (by rfl) rfl (fun wz hS => by go_simp) HS0.out ?_
   try simp only [List.set_cons_zero, List.set_cons_succ]
   refine take_val 3 (.map (some H)) rfl (by kernel_rfl) (by kernel_rfl) (by kernel_rfl) (fun _ _ _ _ h => h) (by rfl) rfl (fun wz hS => by have c0 := (HX4.out.below hS).1.c0; go_simp) HS0.out ?_
   try simp only [List.set_cons_zero, List.set_cons_succ]
   refine take_val 4 (.agg #[.int .u8 (i0 : Int), .int .u8 (i1 : Int), .int .u8 (i2 : Int), .int .u8 (i3 : Int), .int .u8 (i4 : Int), .int .u8 (i5 : Int), .int .u8 (i6 : Int), .int .u8 (i7 : Int)]) rfl (by kernel_rfl) (by kernel_rfl) (by kernel_rfl) (fun _ _ _ _ h => h) (by rfl) rfl (fun wz hS => by have r6 := (hS.block _ (lt_of_block HR4.out)).trans HR4.out; have d0 := cell_of_row _ _ 0 _ _ _ r6; have d1 := cell_of_row _ _ 1 _ _ _ r6; have d2 := cell_of_row _ _ 2 _ _ _ r6; have d3 := cell_of_row _ _ 3 _ _ _ r6; have d4 := cell_of_row _ _ 4 _ _ _ r6; have d5 := cell_of_row _ _ 5 _ _ _ r6; have d6 := cell_of_row _ _ 6 _ _ _ r6; have d7 := cell_of_row _ _ 7 _ _ _ r6; simp only [List.getElem?_toArray, List.getElem?_cons_zero, List.getElem?_cons_succ] at d0 d1 d2 d3 d4 d5 d6 d7; go_simp) HS0.out ?_
   try simp only [List.set_cons_zero, List.set_cons_succ]
   refine take_val 5 (.tuple #[.agg #[.int .i64 0, .string ⟨#[]⟩], .bool false]) rfl (by kernel_rfl) (by kernel_rfl) (by kernel_rfl) (fun _ _ _ _ h => h) (by rfl) rfl (fun wz hS => by have hl := HLK.out wz hS; go_simp) HS0.out ?_
   try simp only [List.set_cons_zero, List.set_cons_succ]
   refine take_val 6 (.tuple #[.agg #[.int .i64 0, .string ⟨#[]⟩], .bool false]) rfl (by kernel_rfl) (by kernel_rfl) (by kernel_rfl) (fun _ _ _ _ h => h) (by rfl) rfl (fun wz hS => by go_simp) HS0.out ?_
   try simp only [List.set_cons_zero, List.set_cons_succ]
   refine take_val 7 (.agg #[.int .i64 0, .string ⟨#[]⟩]) rfl (by kernel_rfl) (by kernel_rfl) (by kernel_rfl) (fun _ _ _ _ h => h) (by rfl) rfl (fun wz hS => by go_simp) HS0.out ?_
   try simp only [List.set_cons_zero, List.set_cons_succ]
   refine take_val 8 (.bool false) rfl (by kernel_rfl) (by kernel_rfl) (by kernel_rfl) (fun _ _ _ _ h => h) (by rfl) rfl (fun wz hS => by go_simp) HS0.out ?_
   try simp only [List.set_cons_zero, List.set_cons_succ]
   refine one_ready 9 (by kernel_rfl) rfl (by rfl) (fun KQ hK => ?_)
   go_simp
   have HA1 := Lib.hid (HS0.out.trans (((Below.refl wd.heap.size wd).alloc (Nat.le_refl _) (.cells #[.int .i64 0, .string ⟨#[]⟩] 37)).mono HS0.out.size))
   have hn1 := heap_alloc_new wd (.cells #[.int .i64 0, .string ⟨#[]⟩] 37)
   refine hK.out _ _ HA1.out ?_
   clear hK KQ
   try simp only [Act.put, List.setIfInBounds_toArray, List.set_cons_zero, List.set_cons_succ]
   refine one_ready 10 (by kernel_rfl) rfl (by rfl) (fun KQ hK => ?_)
   refine wp_store_mid 37 _ _ rfl wd.heap.size 0 #[.int .i64 0, .string ⟨#[]⟩] rfl rfl (there_part hn1 (by show 0 + 2 ≤ 2; omega)) (HIBL.out _ _) (by simp [Value.oneCell']) ?_
   have HA2 : Hid (Below w4.heap.size w4 ((wd.alloc (.cells #[.int .i64 0, .string ⟨#[]⟩] 37)).setCells wd.heap.size 0 (#[.int .i64 0, .string ⟨#[]⟩] : Array Value).toList)) := Lib.hid (below_setCells HS0.out.size _ _ HA1.out)
   have hn2 : ((wd.alloc (.cells #[.int .i64 0, .string ⟨#[]⟩] 37)).setCells wd.heap.size 0 (#[.int .i64 0, .string ⟨#[]⟩] : Array Value).toList).heap[wd.heap.size]? = some (.cells #[.int .i64 0, .string ⟨#[]⟩] 37 (0, 0)) := row_full hn1 rfl
   refine hK.out _ _ HA2.out ?_
   clear hK KQ
   try simp only [Act.put, List.setIfInBounds_toArray, List.set_cons_zero, List.set_cons_succ]
   generalize hw5 : ((wd.alloc (.cells #[.int .i64 0, .string ⟨#[]⟩] 37)).setCells wd.heap.size 0 (#[.int .i64 0, .string ⟨#[]⟩] : Array Value).toList) = w5 at *
   refine take_val 11 (.bool false) rfl (by kernel_rfl) (by kernel_rfl) (by kernel_rfl) (fun _ _ _ _ h => h) (by rfl) rfl (fun wz hS => by go_simp) HA2.out ?_
   try simp only [List.set_cons_zero, List.set_cons_succ]
   refine wpAnyH_done (by kernel_rfl) ?_ _
   refine NoPanic.normal ?_
   have HN5 := Lib.hid hn2
   have HG5 : Hid (w4.heap.size ≤ wd.heap.size) := Lib.hid HS0.out.size
   clear hn1 hn2 hw5 HA1 HS0
   have HX5 := Lib.hid (HX4.out.below HA2.out)
   have HFR5 := Lib.hid (HFR4.out.trans (FrV.of_below HA2.out))
   clear HA2 HX4 HFR4 HR4 HLK
   go_wp2_with fail
   go_ret
   exact ⟨_, out, _, oa, oc, 9, rfl, HX5.out, HFR5.out, .inr ⟨HST.out, by decide⟩⟩
  | some ob =>
   obtain ⟨k, s⟩ := ob
   have HQ := Lib.hid hq
   have HLK : Hid (∀ u, Below w4.heap.size w4 u → (Instr.lookup 97 (.map (some H)) (.agg #[.int .u8 (i0 : Int), .int .u8 (i1 : Int), .int .u8 (i2 : Int), .int .u8 (i3 : Int), .int .u8 (i4 : Int), .int .u8 (i5 : Int), .int .u8 (i6 : Int), .int .u8 (i7 : Int)]) true).run Tryz.prog u = .ok (.tuple #[.agg #[.int .i64 k, .string s], .bool true]) u) := Lib.hid fun u hu => by
    have hl := look_id2 blV (w := u) (b := H) (mt := 97) Tryz.underlying97 (zero_blW u) (HX4.out.below hu).2.2.1 [i0, i1, i2, i3, i4, i5, i6, i7] rfl HES.out
    rw [hq] at hl
    exact hl
   clear hq
   refine wp_region_noPanic ?_
   refine wp_region_held_drew (S := fun u => Below w4.heap.size w4 u) (by kernel_rfl) (Below.refl _ _).drew (fun hS0 => ?_)
   have HS0 := Lib.hid hS0
   clear hS0
   generalize w4.drew = wd at *
   refine take_val 0 (.pointer (some ⟨P, 0, none⟩)) rfl (by kernel_rfl) (by kernel_rfl) (by kernel_rfl) (fun _ _ _ _ h => h) (by rfl) rfl (fun wz hS => by go_simp) HS0.out ?_
   try simp only [List.set_cons_zero, List.set_cons_succ]
   refine take_val 1 (.pointer (some ⟨P, 0, none⟩)) rfl (by kernel_rfl) (by kernel_rfl) (by kernel_rfl) (fun _ _ _ _ h => h) (by rfl) rfl (fun wz hS => by go_simp) HS0.out ?_
   try simp only [List.set_cons_zero, List.set_cons_succ]
   refine take_val 2 (.pointer (some ⟨P, 0, none⟩)) rfl (by kernel_rfl) (by kernel_rfl) (by kernel_rfl) (fun _ _ _ _ h => h) (by rfl) rfl (fun wz hS => by go_simp) HS0.out ?_
   try simp only [List.set_cons_zero, List.set_cons_succ]
   refine take_val 3 (.map (some H)) rfl (by kernel_rfl) (by kernel_rfl) (by kernel_rfl) (fun _ _ _ _ h => h) (by rfl) rfl (fun wz hS => by have c0 := (HX4.out.below hS).1.c0; go_simp) HS0.out ?_
   try simp only [List.set_cons_zero, List.set_cons_succ]
   refine take_val 4 (.agg #[.int .u8 (i0 : Int), .int .u8 (i1 : Int), .int .u8 (i2 : Int), .int .u8 (i3 : Int), .int .u8 (i4 : Int), .int .u8 (i5 : Int), .int .u8 (i6 : Int), .int .u8 (i7 : Int)]) rfl (by kernel_rfl) (by kernel_rfl) (by kernel_rfl) (fun _ _ _ _ h => h) (by rfl) rfl (fun wz hS => by have r6 := (hS.block _ (lt_of_block HR4.out)).trans HR4.out; have d0 := cell_of_row _ _ 0 _ _ _ r6; have d1 := cell_of_row _ _ 1 _ _ _ r6; have d2 := cell_of_row _ _ 2 _ _ _ r6; have d3 := cell_of_row _ _ 3 _ _ _ r6; have d4 := cell_of_row _ _ 4 _ _ _ r6; have d5 := cell_of_row _ _ 5 _ _ _ r6; have d6 := cell_of_row _ _ 6 _ _ _ r6; have d7 := cell_of_row _ _ 7 _ _ _ r6; simp only [List.getElem?_toArray, List.getElem?_cons_zero, List.getElem?_cons_succ] at d0 d1 d2 d3 d4 d5 d6 d7; go_simp) HS0.out ?_
   try simp only [List.set_cons_zero, List.set_cons_succ]
   refine take_val 5 (.tuple #[.agg #[.int .i64 k, .string s], .bool true]) rfl (by kernel_rfl) (by kernel_rfl) (by kernel_rfl) (fun _ _ _ _ h => h) (by rfl) rfl (fun wz hS => by have hl := HLK.out wz hS; go_simp) HS0.out ?_
   try simp only [List.set_cons_zero, List.set_cons_succ]
   refine take_val 6 (.tuple #[.agg #[.int .i64 k, .string s], .bool true]) rfl (by kernel_rfl) (by kernel_rfl) (by kernel_rfl) (fun _ _ _ _ h => h) (by rfl) rfl (fun wz hS => by go_simp) HS0.out ?_
   try simp only [List.set_cons_zero, List.set_cons_succ]
   refine take_val 7 (.agg #[.int .i64 k, .string s]) rfl (by kernel_rfl) (by kernel_rfl) (by kernel_rfl) (fun _ _ _ _ h => h) (by rfl) rfl (fun wz hS => by go_simp) HS0.out ?_
   try simp only [List.set_cons_zero, List.set_cons_succ]
   refine take_val 8 (.bool true) rfl (by kernel_rfl) (by kernel_rfl) (by kernel_rfl) (fun _ _ _ _ h => h) (by rfl) rfl (fun wz hS => by go_simp) HS0.out ?_
   try simp only [List.set_cons_zero, List.set_cons_succ]
   refine one_ready 9 (by kernel_rfl) rfl (by rfl) (fun KQ hK => ?_)
   go_simp
   have HA1 := Lib.hid (HS0.out.trans (((Below.refl wd.heap.size wd).alloc (Nat.le_refl _) (.cells #[.int .i64 0, .string ⟨#[]⟩] 37)).mono HS0.out.size))
   have hn1 := heap_alloc_new wd (.cells #[.int .i64 0, .string ⟨#[]⟩] 37)
   refine hK.out _ _ HA1.out ?_
   clear hK KQ
   try simp only [Act.put, List.setIfInBounds_toArray, List.set_cons_zero, List.set_cons_succ]
   refine one_ready 10 (by kernel_rfl) rfl (by rfl) (fun KQ hK => ?_)
   refine wp_store_mid 37 _ _ rfl wd.heap.size 0 #[.int .i64 k, .string s] rfl rfl (there_part hn1 (by show 0 + 2 ≤ 2; omega)) (HIBL.out _ _) (by simp [Value.oneCell']) ?_
   have HA2 : Hid (Below w4.heap.size w4 ((wd.alloc (.cells #[.int .i64 0, .string ⟨#[]⟩] 37)).setCells wd.heap.size 0 (#[.int .i64 k, .string s] : Array Value).toList)) := Lib.hid (below_setCells HS0.out.size _ _ HA1.out)
   have hn2 : ((wd.alloc (.cells #[.int .i64 0, .string ⟨#[]⟩] 37)).setCells wd.heap.size 0 (#[.int .i64 k, .string s] : Array Value).toList).heap[wd.heap.size]? = some (.cells #[.int .i64 k, .string s] 37 (0, 0)) := row_full hn1 rfl
   refine hK.out _ _ HA2.out ?_
   clear hK KQ
   try simp only [Act.put, List.setIfInBounds_toArray, List.set_cons_zero, List.set_cons_succ]
   generalize hw5 : ((wd.alloc (.cells #[.int .i64 0, .string ⟨#[]⟩] 37)).setCells wd.heap.size 0 (#[.int .i64 k, .string s] : Array Value).toList) = w5 at *
   refine take_val 11 (.bool true) rfl (by kernel_rfl) (by kernel_rfl) (by kernel_rfl) (fun _ _ _ _ h => h) (by rfl) rfl (fun wz hS => by go_simp) HA2.out ?_
   try simp only [List.set_cons_zero, List.set_cons_succ]
   refine wpAnyH_done (by kernel_rfl) ?_ _
   refine NoPanic.normal ?_
   have HN5 := Lib.hid hn2
   have HG5 : Hid (w4.heap.size ≤ wd.heap.size) := Lib.hid HS0.out.size
   clear hn1 hn2 hw5 HA1 HS0
   have HX5 := Lib.hid (HX4.out.below HA2.out)
   have HFR5 := Lib.hid (HFR4.out.trans (FrV.of_below HA2.out))
   clear HA2 HX4 HFR4 HR4 HLK
   have HB5 : Hid (Below w.heap.size w w5 ∨ True) := Lib.hid (.inr trivial)
   have HBW5 : Hid (Below w0.heap.size w0 w5) := Lib.hid (HBW.out.trans (HFR5.out.below (Nat.le_trans HB0.out HX0.out.2.2.2.2.2.1) (Nat.le_trans HB0.out HX0.out.2.2.2.2.2.2.2.1) (fun g e => Nat.le_trans HB0.out (HX0.out.ob e).1) HBW.out.size))
   have t0 := cell_of_row _ _ 0 _ _ _ HN5.out
   have t1 := cell_of_row _ _ 1 _ _ _ HN5.out
   simp only [List.getElem?_toArray, List.getElem?_cons_zero, List.getElem?_cons_succ] at t0 t1
   have HNE := Lib.hid (needs_any k s w5 (HT.out.below HBW5.out))
   go_wp2_with fail
   clear t0 t1
   refine HNE.out.mono ?_
   rintro e w7 ⟨hb7, ⟨hok, na, nc, rfl, hown7, hn20, hids⟩ | ⟨hno, c, hc, rfl⟩⟩
   rotate_left
   ·
    have c1 : (c != 0) = true := by simpa using hc
    have HST := Lib.hid (stepF_bad (B := ilk es) (f := f) (st := (seen, out)) HNM.out HQ.out hno)
    have HX7 := Lib.hid (HX5.out.below hb7)
    have HFR7 := Lib.hid (HFR5.out.trans (FrV.of_below hb7))
    have HC := Lib.hid hc
    clear hb7 hno hc HNE
    go_wp2_with fail
    go_ret
    exact ⟨_, out, _, oa, oc, c, rfl, HX7.out, HFR7.out, .inr ⟨HST.out, HC.out⟩⟩
   have HOK := Lib.hid hok
   have HX7 := Lib.hid (HX5.out.below hb7)
   have HFR7 := Lib.hid (HFR5.out.trans (FrV.of_below hb7))
   have HN7 := Lib.hid ((hb7.block _ (lt_of_block HN5.out)).trans HN5.out)
   obtain ⟨nd, hnd⟩ : ∃ nd, ndF (k, s) = nd := ⟨_, rfl⟩
   rw [hnd] at hown7 hn20 hids ⊢
   have HNQ := Lib.hid hnd
   have HSD := Lib.hid (own_satI hids hown7)
   have HSB : Hid (∀ ad, na = some ad → w.heap.size ≤ ad.block ∧ ad.block < w7.heap.size) := Lib.hid fun ad e => ⟨by have h1 := nb_own hown7 ad e; have h2 := HFR5.out.size; omega, (own_typ hown7 (by rw [e]; rfl)).2.1⟩
   have HIDS := Lib.hid hids
   have hn20i : (nd.length : Int) ≤ 20000 := by omega
   have HRM := Lib.hid (remV_lt (HMZ.out _ _ HQ.out) HNM.out)
   have HG7 : Hid (w.heap.size ≤ wd.heap.size ∧ wd.heap.size < w7.heap.size) := Lib.hid ⟨by have := HG5.out; have := HWL.out; omega, lt_of_block HN7.out⟩
   clear hb7 hok hown7 hn20 hids hnd HNE HX5 HN5 HFR5 HBW5 HB5
   go_wp2_with fail
   go_loopw [44] (fun jv wr => ∃ (j : Nat) (seen' : List (List Nat)) (out' : List Bl) (ss' : List (List Nat × Bool)) (oa' : Option Addr) (oc' : Nat), j ≤ nd.length ∧ jv = .int .i64 (j : Int) ∧ Hid (runL f (nd.take j) (seen ++ [[i0, i1, i2, i3, i4, i5, i6, i7]], out) = some (seen', out')) ∧ Hid (VX base P H S es seen' out' ss' oa' oc' wr) ∧ Hid (FrV P S (obk oa) (obk oa') w wr) ∧ Hid (w7.heap.size ≤ wr.heap.size ∧ ∀ q, w.heap.size ≤ q → q < w7.heap.size → wr.heap[q]? = w7.heap[q]?) ∧ Hid (∀ g, obk oa' = some g → g < w.heap.size ∨ w7.heap.size ≤ g)) (fun jv _ => nd.length - (intOf jv).toNat)
   case atStart => exact ⟨0, seen ++ [[i0, i1, i2, i3, i4, i5, i6, i7]], out, ss ++ [([i0, i1, i2, i3, i4, i5, i6, i7], true)], oa, oc, Nat.zero_le _, rfl, Lib.hid rfl, HX7, HFR7, Lib.hid ⟨Nat.le_refl _, fun _ _ _ => rfl⟩, Lib.hid (fun g e => .inl (HOB.out g e))⟩
   case round =>
    obtain ⟨j, seen', out', ss', oa', oc', hj, rfl, HRL, HXR, HFR, HKP, HON⟩ := hrel
    clear HX7 HFR7
    have HBR : Hid (Below w0.heap.size w0 wr) := Lib.hid (HBW.out.trans (HFR.out.below (Nat.le_trans HB0.out HX0.out.2.2.2.2.2.1) (Nat.le_trans HB0.out HX0.out.2.2.2.2.2.2.2.1) (fun g e => Nat.le_trans HB0.out (HX0.out.ob e).1) HBW.out.size))
    have HGR := Lib.hid (runL_grw HF.out _ _ _ HRL.out)
    by_cases hlt : j < nd.length
    ·
     skip
     have m2 : (j : Int) < (nd.length : Int) := by omega
     have hsat : SAt 8 idK wr na nd := fun i hi => by
      obtain ⟨g, off, e, hg, hr⟩ := HSD.out i hi
      have hb := HSB.out _ e
      exact ⟨g, off, e, Nat.lt_of_lt_of_le hg HKP.out.1, range_other hr (HKP.out.2 g hb.1 hb.2)⟩
     obtain ⟨g2, off2, rfl, hg2, hrr⟩ := hsat j hlt
     have htk2 : nd.take (j + 1) = nd.take j ++ [nd[j]] := List.take_succ_eq_append_getElem hlt
     have h8 := HIDS.out _ (List.getElem_mem hlt)
     generalize nd[j] = n at *
     obtain ⟨v0, v1, v2, v3, v4, v5, v6, v7, rfl⟩ := list8W h8
     have q0 := hrr 0 _ rfl
     have q1 := hrr 1 _ rfl
     have q2 := hrr 2 _ rfl
     have q3 := hrr 3 _ rfl
     have q4 := hrr 4 _ rfl
     have q5 := hrr 5 _ rfl
     have q6 := hrr 6 _ rfl
     have q7 := hrr 7 _ rfl
     simp only [Nat.add_zero, bV] at q0 q1 q2 q3 q4 q5 q6 q7
     have HTK2 := Lib.hid htk2
     have HLJ := Lib.hid hlt
     have hrn := heap_alloc_new wr (.cells #[.int .u8 (v0 : Int), .int .u8 (v1 : Int), .int .u8 (v2 : Int), .int .u8 (v3 : Int), .int .u8 (v4 : Int), .int .u8 (v5 : Int), .int .u8 (v6 : Int), .int .u8 (v7 : Int)] 30)
     have hba := (Below.refl wr.heap.size wr).alloc (Nat.le_refl _) (.cells #[.int .u8 (v0 : Int), .int .u8 (v1 : Int), .int .u8 (v2 : Int), .int .u8 (v3 : Int), .int .u8 (v4 : Int), .int .u8 (v5 : Int), .int .u8 (v6 : Int), .int .u8 (v7 : Int)] 30)
     have HBN := Lib.hid hba
     have HXN := Lib.hid (HXR.out.below hba)
     have p0 := cell_of_row _ _ 0 _ _ _ hrn
     have p1 := cell_of_row _ _ 1 _ _ _ hrn
     have p2 := cell_of_row _ _ 2 _ _ _ hrn
     have p3 := cell_of_row _ _ 3 _ _ _ hrn
     have p4 := cell_of_row _ _ 4 _ _ _ hrn
     have p5 := cell_of_row _ _ 5 _ _ _ hrn
     have p6 := cell_of_row _ _ 6 _ _ _ hrn
     have p7 := cell_of_row _ _ 7 _ _ _ hrn
     simp only [List.getElem?_toArray, List.getElem?_cons_zero, List.getElem?_cons_succ] at p0 p1 p2 p3 p4 p5 p6 p7
     have HCL := Lib.hid (HSUB.out v0 v1 v2 v3 v4 v5 v6 v7 seen' out' ss' oa' oc' (wr.alloc (.cells #[.int .u8 (v0 : Int), .int .u8 (v1 : Int), .int .u8 (v2 : Int), .int .u8 (v3 : Int), .int .u8 (v4 : Int), .int .u8 (v5 : Int), .int .u8 (v6 : Int), .int .u8 (v7 : Int)] 30)) (by have h1 := HRM.out; have h2 := remV_mono mz (a := seen ++ [[i0, i1, i2, i3, i4, i5, i6, i7]]) (b := seen') HGR.out.seen; omega) HXN.out (HBR.out.trans (hba.mono HBR.out.size)) (by have h1 := HGR.out.len; have h2 := HLEN.out; have h3 := HRM.out; simp only at h1; omega))
     clear hrr hg2 htk2 h8 hrn hba hlt hsat
     go_wp2_with fail
     refine HCL.out.mono ?_
     rintro e wB ⟨seen2, out2, ss2, oa2, oc2, c, rfl, hxB, hfB, hst⟩
     have HXB := Lib.hid hxB
     have HFB := Lib.hid (HFR.out.trans ((FrV.of_below HBN.out).trans hfB))
     have HKB : Hid (w7.heap.size ≤ wB.heap.size ∧ ∀ q, w.heap.size ≤ q → q < w7.heap.size → wB.heap[q]? = w7.heap[q]?) := Lib.hid ⟨Nat.le_trans HKP.out.1 (Nat.le_trans HBN.out.size hfB.size), fun q h1 h2 => by
      have hk := HKP.out.1
      have hz := HBN.out.size
      have hp := HPL.out
      rw [hfB.block q (by omega) (by omega) (by omega) (fun e => by rcases HON.out q e.symm with h | h <;> omega), HBN.out.block q (by omega)]
      exact HKP.out.2 q h1 h2⟩
     have HOB2 : Hid (∀ g, obk oa2 = some g → g < w.heap.size ∨ w7.heap.size ≤ g) := Lib.hid fun g e => by
      rcases hfB.next with h | ⟨x, h, hx⟩
      ·
       exact HON.out g (by rw [← h]; exact e)
      ·
       rw [h] at e; injection e with e; exact .inr (by have h1 := HKP.out.1; have h2 := HBN.out.size; omega)
     have HST := Lib.hid hst
     clear hxB hfB hst HCL HXN q0 q1 q2 q3 q4 q5 q6 q7 p0 p1 p2 p3 p4 p5 p6 p7
     rcases HST.out with ⟨h1, h2⟩ | ⟨h1, h2⟩
     ·
      subst h2
      have HRL2 : Hid (runL f (nd.take (j + 1)) (seen ++ [[i0, i1, i2, i3, i4, i5, i6, i7]], out) = some (seen2, out2)) := Lib.hid (by rw [HTK2.out, runL_snoc, HRL.out]; exact h1)
      clear h1 HST
      go_wp2_with fail
      go_roundw
      case rel => exact ⟨j + 1, seen2, out2, ss2, oa2, oc2, HLJ.out, by go_num, HRL2, HXB, HFB, HKB, HOB2⟩
      case measure => simp [intOf]; have := HLJ.out; omega
     ·
      have c1 : (c != 0) = true := by simpa using h2
      have HRN : Hid (runL f (ndF (k, s)) (seen ++ [[i0, i1, i2, i3, i4, i5, i6, i7]], out) = none) := Lib.hid (by
       rw [HNQ.out, ← List.take_append_drop (j + 1) nd, runL_append, HTK2.out, runL_snoc, HRL.out]
       simp only [h1])
      have HSX := Lib.hid (stepF_err (B := ilk es) (f := f) (st := (seen, out)) HNM.out HQ.out HOK.out HRN.out)
      have HC := Lib.hid h2
      clear h1 h2 HST
      go_wp2_with fail
      go_ret
      exact ⟨seen2, out2, ss2, oa2, oc2, c, rfl, HXB.out, HFB.out, .inr ⟨HSX.out, HC.out⟩⟩
    ·
     skip
     have m2 : ¬ (j : Int) < (nd.length : Int) := by omega
     obtain rfl : j = nd.length := by omega
     have HRA : Hid (runL f (ndF (k, s)) (seen ++ [[i0, i1, i2, i3, i4, i5, i6, i7]], out) = some (seen', out')) := Lib.hid (by have h := HRL.out; rw [List.take_length] at h; rw [HNQ.out]; exact h)
     have HSX := Lib.hid (stepF_ok (B := ilk es) (f := f) (st := (seen, out)) HNM.out HQ.out HOK.out HRA.out)
     have HNR := Lib.hid ((HKP.out.2 _ HG7.out.1 HG7.out.2).trans HN7.out)
     have HOL : Hid (out'.length ≤ 1000) := Lib.hid (by have h1 := HGR.out.len; have h2 := HLEN.out; have h3 := HRM.out; simp only at h1; omega)
     go_wp2_with fail
     refine wp_region_noPanic ?_
     refine wp_region_E (S := fun u => Vpr u P H S oa' out'.length oc' ∧ u.heap[wd.heap.size]? = some (.cells #[.int .i64 k, .string s] 37 (0, 0))) 10 (by kernel_rfl) ⟨HXR.out.1, HNR.out⟩ (fun hS0 => ?_)
     have HS0 := Lib.hid hS0
     clear hS0
     have HXd := Lib.hid (HXR.out.below (Below.refl _ _).drew)
     have HFd := Lib.hid (HFR.out.trans (FrV.of_below (Below.refl _ _).drew))
     have HGd : Hid (w7.heap.size ≤ wr.drew.heap.size) := Lib.hid HKP.out.1
     generalize wr.drew = we at *
     refine takeE_val 0 (.pointer (some ⟨P, 0, none⟩)) rfl (by kernel_rfl) (by kernel_rfl) (by kernel_rfl) (by kernel_rfl) rfl (fun _ _ _ _ h => h) (by rfl) rfl (fun wz hS => by go_simp) HS0.out ?_
     try simp only [List.set_cons_zero, List.set_cons_succ]
     refine takeE_val 1 (.pointer (some ⟨P, 0, none⟩)) rfl (by kernel_rfl) (by kernel_rfl) (by kernel_rfl) (by kernel_rfl) rfl (fun _ _ _ _ h => h) (by rfl) rfl (fun wz hS => by go_simp) HS0.out ?_
     try simp only [List.set_cons_zero, List.set_cons_succ]
     refine takeE_val 2 (.pointer (some ⟨P, 0, none⟩)) rfl (by kernel_rfl) (by kernel_rfl) (by kernel_rfl) (by kernel_rfl) rfl (fun _ _ _ _ h => h) (by rfl) rfl (fun wz hS => by go_simp) HS0.out ?_
     try simp only [List.set_cons_zero, List.set_cons_succ]
     refine takeE_val 3 (.pointer (some ⟨P, 2, none⟩)) rfl (by kernel_rfl) (by kernel_rfl) (by kernel_rfl) (by kernel_rfl) rfl (fun _ _ _ _ h => h) (by rfl) rfl (fun wz hS => by go_simp) HS0.out ?_
     try simp only [List.set_cons_zero, List.set_cons_succ]
     refine takeE_val 4 (.slice oa' out'.length oc') rfl (by kernel_rfl) (by kernel_rfl) (by kernel_rfl) (by kernel_rfl) rfl (fun _ _ _ _ h => h) (by rfl) rfl (fun wz hS => by have y1 := hS.1.c2; go_simp) HS0.out ?_
     try simp only [List.set_cons_zero, List.set_cons_succ]
     refine takeE_val 5 (.agg #[.int .i64 k, .string s]) rfl (by kernel_rfl) (by kernel_rfl) (by kernel_rfl) (by kernel_rfl) rfl (fun _ _ _ _ h => h) (by rfl) rfl (fun wz hS => by have b0 := cell_of_row _ _ 0 _ _ _ hS.2; have b1 := cell_of_row _ _ 1 _ _ _ hS.2; simp only [List.getElem?_toArray, List.getElem?_cons_zero, List.getElem?_cons_succ] at b0 b1; go_simp) HS0.out ?_
     try simp only [List.set_cons_zero, List.set_cons_succ]
     have HAA : Hid (Below we.heap.size we (we.alloc (.cells #[.int .i64 k, .string s] 37))) := Lib.hid ((Below.refl _ _).alloc (Nat.le_refl _) _)
     have HXa := Lib.hid (HXd.out.below HAA.out)
     have HNa := Lib.hid ((HAA.out.block _ (lt_of_block HS0.out.2)).trans HS0.out.2)
     have D1 := Lib.hid (cells_new_at we we.heap.size rfl #[.int .i64 k, .string s] 37 (blC (k, s)) rfl)
     have D2 := Lib.hid (blC_one (k, s))
     have D3 : Hid (out'.length + 1 ≤ maxLen) := Lib.hid (by have := HOL.out; unfold maxLen; omega)
     have D4 : Hid ((out'.length + 1) * 24 ≤ 140737488355328) := Lib.hid (by have := HOL.out; omega)
     have D5 : Hid (base ≤ (we.alloc (.cells #[.int .i64 k, .string s] 37)).heap.size) := Lib.hid (by have h1 := HXa.out.2.2.2.2.2.1; have h2 := lt_of_block HXa.out.1; omega)
     refine oneE_ready 6 (by kernel_rfl) rfl (by rfl) (fun KQ hK => ?_)
     go_simp
     refine hK.out _ _ (fun _ => ⟨HXa.out.1, HNa.out⟩) ?_
     clear hK KQ
     try simp only [Act.put, List.setIfInBounds_toArray, List.set_cons_zero, List.set_cons_succ]
     refine oneE_ready 7 (by kernel_rfl) rfl (by rfl) (fun KQ hK => ?_)
     obtain ⟨v', w8, hrun, hown, hgr, _, hblk⟩ := run_append_own_at (P := Tryz.prog) (we.alloc (.cells #[.int .i64 k, .string s] 37)) base 28 28 37 ib0 (.agg #[.int .i64 0, .string ⟨#[]⟩]) 2 24 Tryz.underlying28 hib0 hbz0 hbz1 hbz2 rfl (by decide) _ out'.length (out'.flatMap blC) HXa.out.2.1 ⟨we.heap.size, 0, none⟩ 1 1 (blC (k, s)) rfl D1.out D2.out D3.out D4.out D5.out
     obtain ⟨oa3, oc3, rfl⟩ := own_formK hown
     refine wp_append_run _ _ 28 rfl rfl rfl hrun ?_
     rw [own_obk, own_obk] at hblk
     rw [own_obk] at hgr
     obtain ⟨hpl, hxf, hff⟩ := HXd.out.app (b := (k, s)) HAA.out hgr hown (hblk.imp id (fun h => ⟨_, h, Nat.le_refl _⟩))
     have hNg : w8.heap[wd.heap.size]? = some (.cells #[.int .i64 k, .string s] 37 (0, 0)) := (hgr.block _ (lt_of_block HNa.out) (fun e => by rcases HON.out _ e.symm with h | h <;> have h9 := HG7.out <;> omega)).trans HNa.out
     refine hK.out _ _ (fun _ => ⟨hpl, hNg⟩) ?_
     clear hK KQ
     try simp only [Act.put, List.setIfInBounds_toArray, List.set_cons_zero, List.set_cons_succ]
     have HSb := Lib.hid (And.intro hpl hNg)
     refine oneE_ready 8 (by kernel_rfl) rfl (by rfl) (fun KQ hK => ?_)
     go_simp
     refine hK.out _ _ (fun _ => HSb.out) ?_
     clear hK KQ
     try simp only [Act.put, List.setIfInBounds_toArray, List.set_cons_zero, List.set_cons_succ]
     refine oneE_ready 9 (by kernel_rfl) rfl (by rfl) (fun KQ hK => ?_)
     go_simp
     refine hK.out _ _ (fun _ => HSb.out) ?_
     clear hK KQ
     try simp only [Act.put, List.setIfInBounds_toArray, List.set_cons_zero, List.set_cons_succ]
     have y9 := frozen_of_row _ P 2 _ _ hpl
     have y1 := hpl.c2
     refine oneE_ready 10 (by kernel_rfl) rfl (by rfl) (fun KQ hK => ?_)
     go_simp
     refine hK.out _ _ (fun h => absurd rfl h) ?_
     clear hK KQ
     try simp only [Act.put, List.setIfInBounds_toArray, List.set_cons_zero, List.set_cons_succ]
     refine wpAnyE_done (by kernel_rfl) ?_ _
     refine NoPanic.normal ?_
     have HXF := Lib.hid hxf
     have HFF := Lib.hid (HFd.out.trans hff)
     clear hrun hown hgr hblk hpl hxf hff hNg HSb y9 y1 HS0 HAA HXa HNa D1 D2 D3 D4 D5 HXd HFd HGd
     generalize w8.setCell ⟨P, 2, none⟩ (.slice oa3 (out'.length + 1) oc3) = w9 at *
     go_wp2_with fail
     go_ret
     exact ⟨seen', out' ++ [(k, s)], ss', oa3, oc3, 0, rfl, HXF.out, HFF.out, .inl ⟨HSX.out, rfl⟩⟩
theorem visit_any {w0 : World} (hT : Tabs w0) {base P H S : Nat} (hb0 : w0.heap.size ≤ base) {es : List (List Nat × Bl)} (hes : ∀ e ∈ es, e.1.length = 8) {mz : List (List Nat × Bl)} (hmz : ∀ id b, ilk es id = some b → (id, b) ∈ mz) : ∀ (n : Nat) (i0 i1 i2 i3 i4 i5 i6 i7 : Nat) (seen : List (List Nat)) (out : List Bl) (ss : List (List Nat × Bool)) (oa : Option Addr) (oc : Nat) (w : World), remV mz seen ≤ n → VX base P H S es seen out ss oa oc w → Below w0.heap.size w0 w → out.length + remV mz seen ≤ 1000 →
  Calls Tryz.prog 74 #[.pointer (some ⟨P, 0, none⟩), .agg #[.int .u8 (i0 : Int), .int .u8 (i1 : Int), .int .u8 (i2 : Int), .int .u8 (i3 : Int), .int .u8 (i4 : Int), .int .u8 (i5 : Int), .int .u8 (i6 : Int), .int .u8 (i7 : Int)]] w (VEnd base P H S es (visitF (ilk es) n [i0, i1, i2, i3, i4, i5, i6, i7] (seen, out)) (obk oa) w) := by
 intro n
 induction n with
 | zero =>
  intro i0 i1 i2 i3 i4 i5 i6 i7 seen out ss oa oc w hr hx hbw hlen
  exact visit_step hT hb0 hes hmz (fun _ _ => none) (fun _ _ _ h => by cases h) i0 i1 i2 i3 i4 i5 i6 i7 seen out ss oa oc w hx hbw hlen (fun _ _ _ _ _ _ _ _ _ _ _ _ _ _ h => by omega)
 | succ n ih =>
  intro i0 i1 i2 i3 i4 i5 i6 i7 seen out ss oa oc w hr hx hbw hlen
  exact visit_step hT hb0 hes hmz (visitF (ilk es) n) (visitF_grw hmz n) i0 i1 i2 i3 i4 i5 i6 i7 seen out ss oa oc w hx hbw hlen (fun j0 j1 j2 j3 j4 j5 j6 j7 seen' out' ss' oa' oc' u h1 h2 h3 h4 => ih j0 j1 j2 j3 j4 j5 j6 j7 seen' out' ss' oa' oc' u (by omega) h2 h3 h4)
end Go.Proofs.YtbfoonfbhebhfaaGreatDoor
