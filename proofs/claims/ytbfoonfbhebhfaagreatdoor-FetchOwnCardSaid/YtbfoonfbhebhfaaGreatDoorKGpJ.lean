/- Joined: AmpleBl, AmpleId. -/
import Derived.Test.YtbfoonfbhebhfaaGreatDoorKGoA
import Derived.Test.YtbfoonfbhebhfaaGreatDoorKGpH
import Derived.Test.YtbfoonfbhebhfaaGreatDoorKGoG
import Derived.Test.YtbfoonfbhebhfaaGreatDoorKGnO
namespace Go.Proofs.YtbfoonfbhebhfaaGreatDoor
open Go.RowKit Plain
set_option linter.unusedVariables false
set_option linter.unusedSimpArgs false
theorem info_blM : ∃ i, Tryz.prog.info? 37 = some i ∧ i.zero = some (.agg (blC ((0, ⟨#[]⟩) : Bl)).toArray) ∧ i.size = 2 ∧ i.bytes = 24 := info_parts (by kernel_rfl)
def k7P : Bl := (7, ⟨#[]⟩)
def zTBl (n : Nat) : Array Value := ((List.replicate n (((0, ⟨#[]⟩) : Bl) : Bl)).flatMap blC).toArray
set_option maxRecDepth 100000 in
theorem run_make_Bl (n : Nat) (hn : n ≤ 5864062014634) (u : World) : (Instr.makeSlice 28 (.int .i64 0) (.int .i64 ((n : Int) + 3))).run Tryz.prog u = .ok (.slice (some ⟨u.heap.size, 0, none⟩) 0 (n + 3)) (u.alloc (.cells (zTBl (n + 3)) 37)) := by
 obtain ⟨i, hi, hz, hs, hb⟩ := info_blM
 have := run_make (P := Tryz.prog) u 28 37 i (.agg (blC ((0, ⟨#[]⟩) : Bl)).toArray) Tryz.underlying28 hi hz .i64 .i64 0 ((n : Int) + 3) (by omega) (by omega) (by rw [hb]; omega) (by omega)
 rw [this, hs]
 have e : ((n : Int) + 3).toNat = n + 3 := by omega
 rw [e]
 have e2 : (Value.agg (blC ((0, ⟨#[]⟩) : Bl)).toArray).cells = (blC ((0, ⟨#[]⟩) : Bl)).toArray := rfl
 rw [e2, made_flat blC_length (by decide) (((0, ⟨#[]⟩) : Bl) : Bl) (n + 3)]
 rfl
set_option maxRecDepth 100000 in
set_option maxHeartbeats 4000000 in
theorem ampleBl_any (a : Option Addr) (cap : Nat) (l : List Bl) (w : World) (h : SAt 2 blC w a l) (hl : l.length ≤ 5864062014634) :
  Calls Tryz.prog 41 #[.slice a l.length cap, .agg #[.int .i64 7, .string ⟨#[]⟩]] w (AmEnd blC (blC ((0, ⟨#[]⟩) : Bl)) 37 l k7P w) := by
 obtain ⟨i0, hi0, hz0, hz1, hz2⟩ := info_blM
 have hmk := run_make_Bl l.length (by omega)
 have HICT : Hid ((Tryz.prog.info? 37).map (·.size) = some 2) := by show _ = _; kernel_rfl
 have HUT := Lib.hid Tryz.underlying37
 have HB0 := Lib.hid ((Below.refl w.heap.size w).alloc (Nat.le_refl _) (.cells #[.int .i64 7, .string ⟨#[]⟩] 37))
 have HX0 := Lib.hid (heap_alloc_new w (.cells #[.int .i64 7, .string ⟨#[]⟩] 37))
 have HS := Lib.hid h
 have ew : IntKind.i64.wrap ((l.length : Int) + 3) = (l.length : Int) + 3 := wraps_i64 _ (by omega) (by omega)
 have c1 : (l.length : Int) ≤ (l.length : Int) + 3 := by omega
 have c0 : (0 : Int) ≤ (l.length : Int) := Int.natCast_nonneg _
 have HR1 : Hid (0 + l.length ≤ l.length + 3) := by show _ ≤ _; omega
 have HR2 : Hid (0 + l.length + 2 ≤ l.length + 3) := by show _ ≤ _; omega
 have HTC : Hid (blC k7P ++ blC k7P = [.int .i64 7, .string ⟨#[]⟩, .int .i64 7, .string ⟨#[]⟩]) := rfl
 clear h
 go_enter Tryz.func41, Tryz.ntmps41
 go_wp2_with fail
 have HBd : Hid (Below w.heap.size w (w.alloc (.cells #[.int .i64 7, .string ⟨#[]⟩] 37)).drew) := HB0.out.drew
 refine wp_region_noPanic ?_
 refine wp_region_held_drew (S := fun u => u.heap[w.heap.size]? = some (.cells #[.int .i64 7, .string ⟨#[]⟩] 37 (0, 0))) (by kernel_rfl) HX0.out (fun hS0 => ?_)
 have HS0 := Lib.hid hS0
 clear hS0
 refine take_val 0 (.slice a l.length cap) rfl (by kernel_rfl) (by kernel_rfl) (by kernel_rfl) (fun _ _ _ _ h => h) (by rfl) rfl (fun wz hS => by go_simp) HS0.out ?_
 try simp only [List.set_cons_zero, List.set_cons_succ]
 refine take_val 1 (.int .i64 (l.length : Int)) rfl (by kernel_rfl) (by kernel_rfl) (by kernel_rfl) (fun _ _ _ _ h => h) (by rfl) rfl (fun wz hS => by go_simp) HS0.out ?_
 try simp only [List.set_cons_zero, List.set_cons_succ]
 refine take_val 2 (.int .i64 ((l.length : Int) + 3)) rfl (by kernel_rfl) (by kernel_rfl) (by kernel_rfl) (fun _ _ _ _ h => h) (by rfl) rfl (fun wz hS => by go_simp) HS0.out ?_
 try simp only [List.set_cons_zero, List.set_cons_succ]
 refine take_val 4 (.slice a l.length cap) rfl (by kernel_rfl) (by kernel_rfl) (by kernel_rfl) (fun _ _ _ _ h => h) (by rfl) rfl (fun wz hS => by go_simp) HS0.out ?_
 try simp only [List.set_cons_zero, List.set_cons_succ]
 refine take_row 6 (cs := [.int .i64 7, .string ⟨#[]⟩]) rfl (by kernel_rfl) (by kernel_rfl) (by kernel_rfl) (fun _ _ _ _ h => h) (by rfl) rfl rfl rfl (fun u hS => row_rangeA hS) HUT.out rfl HICT.out HS0.out ?_
 try simp only [List.set_cons_zero, List.set_cons_succ]
 refine take_row 7 (cs := [.int .i64 7, .string ⟨#[]⟩]) rfl (by kernel_rfl) (by kernel_rfl) (by kernel_rfl) (fun _ _ _ _ h => h) (by rfl) rfl rfl rfl (fun u hS => row_rangeA hS) HUT.out rfl HICT.out HS0.out ?_
 try simp only [List.set_cons_zero, List.set_cons_succ]
 generalize (w.alloc (.cells #[.int .i64 7, .string ⟨#[]⟩] 37)).drew = wd at *
 have HSD := Lib.hid (HS.out.below HBd.out)
 have SXwd := HS0
 have BKwd := HBd
 refine two_ready 3 8 (by kernel_rfl) rfl rfl (by rfl) (by rfl) (fun K hK => ?_) (fun K hK => ?_)
 ·
  go_simp
  have hba : Below wd.heap.size wd (wd.alloc (.cells (zTBl (l.length + 3)) 37)) := (Below.refl _ _).alloc (Nat.le_refl _) _
  have BKu1 := Lib.hid (BKwd.out.alloc BKwd.out.size (.cells (zTBl (l.length + 3)) 37))
  have SXu1 := Lib.hid ((hba.block _ (lt_of_block SXwd.out)).trans SXwd.out)
  have MRu1 : Hid ((wd.alloc (.cells (zTBl (l.length + 3)) 37)).heap[wd.heap.size]? = some (.cells ((List.replicate (l.length + 3) (((0, ⟨#[]⟩) : Bl) : Bl)).flatMap blC).toArray 37 (0, 0))) := heap_alloc_new wd _
  have MGu1 : Hid (w.heap.size < wd.heap.size) := lt_of_block SXwd.out
  refine hK.out _ _ SXu1.out ?_
  clear hK K
  try simp only [Act.put, List.setIfInBounds_toArray]
  try simp only [List.set_cons_zero, List.set_cons_succ]
  generalize wd.alloc (.cells (zTBl (l.length + 3)) 37) = u1 at *
  refine two_ready 5 8 (by kernel_rfl) rfl rfl (by rfl) (by rfl) (fun K hK => ?_) (fun K hK => ?_)
  ·
   obtain ⟨q1, q2, q3⟩ := amp_steps blC_length (z := (((0, ⟨#[]⟩) : Bl) : Bl)) (l := l) (f := (((0, ⟨#[]⟩) : Bl) : Bl)) MRu1.out
   refine wp_append_roomK _ _ 28 28 rfl 37 i0 2 Tryz.underlying28 hi0 hz1 (wd.heap.size) 0 0 (l.length + 3) rfl _ rfl l.length (l.flatMap blC) (src_sat Tryz.underlying28 (by decide) blC_length blC_one (HS.out.below BKu1.out) cap) HR1.out q1 q2 ?_
   have BKu2 := Lib.hid (below_setCells (Nat.le_of_lt MGu1.out) (l.flatMap blC) (0 + 0 * 2) BKu1.out)
   have SXu2 := Lib.hid ((heap_setCells_other (wd.heap.size) w.heap.size (Nat.ne_of_lt MGu1.out) (l.flatMap blC) (0 + 0 * 2) u1).trans SXu1.out)
   have MRu2 := Lib.hid q3
   clear q1 q2 q3
   refine hK.out _ _ SXu2.out ?_
   clear hK K
   try simp only [Act.put, List.setIfInBounds_toArray]
   try simp only [List.set_cons_zero, List.set_cons_succ]
   generalize u1.setCells wd.heap.size (0 + 0 * 2) (l.flatMap blC) = u2 at *
   refine one_ready 8 (by kernel_rfl) rfl (by rfl) (fun K hK => ?_)
   go_simp
   have hba : Below u2.heap.size u2 (u2.alloc (.cells #[.int .i64 7, .string ⟨#[]⟩, .int .i64 7, .string ⟨#[]⟩] 37)) := (Below.refl _ _).alloc (Nat.le_refl _) _
   have BKu3 := Lib.hid (BKu2.out.alloc BKu2.out.size (.cells #[.int .i64 7, .string ⟨#[]⟩, .int .i64 7, .string ⟨#[]⟩] 37))
   have SXu3 := Lib.hid ((hba.block _ (lt_of_block SXu2.out)).trans SXu2.out)
   have MRu3 := Lib.hid ((hba.block _ (lt_of_block MRu2.out)).trans MRu2.out)
   have FRu3 : Hid ((u2.alloc (.cells #[.int .i64 7, .string ⟨#[]⟩, .int .i64 7, .string ⟨#[]⟩] 37)).heap[u2.heap.size]? = some (.cells #[.int .i64 7, .string ⟨#[]⟩, .int .i64 7, .string ⟨#[]⟩] 37 (0, 0))) := heap_alloc_new u2 _
   have FM : Hid (u2.heap.size ≠ wd.heap.size) := (Nat.ne_of_lt (lt_of_block MRu2.out)).symm
   refine hK.out _ _ SXu3.out ?_
   clear hK K
   try simp only [Act.put, List.setIfInBounds_toArray]
   try simp only [List.set_cons_zero, List.set_cons_succ]
   generalize u2.alloc (.cells #[.int .i64 7, .string ⟨#[]⟩, .int .i64 7, .string ⟨#[]⟩] 37) = u3 at *
   refine one_ready 9 (by kernel_rfl) rfl (by rfl) (fun K hK => ?_)
   obtain ⟨q1, q2, q3⟩ := amp_steps2 blC_length (z := (((0, ⟨#[]⟩) : Bl) : Bl)) (l := l) (f := (k7P : Bl)) MRu3.out
   rw [Nat.zero_add l.length] at q1 q2 q3
   refine wp_append_roomK _ _ 28 28 rfl 37 i0 2 Tryz.underlying28 hi0 hz1 (wd.heap.size) 0 l.length (l.length + 3) rfl _ rfl 2 (blC k7P ++ blC k7P) (Src.ofSlice _ Tryz.underlying28 ⟨u2.heap.size, 0, none⟩ 2 2 _ rfl (cells_of FRu3.out _ rfl) (fun v hv => by
    rcases List.mem_append.1 hv with h | h
    ·
     exact blC_one _ v h
    ·
     exact blC_one _ v h)) (by omega) q1 q2 ?_
   have BKE := Lib.hid (below_setCells (Nat.le_of_lt MGu1.out) (blC k7P ++ blC k7P) (0 + l.length * 2) BKu3.out)
   have SXE := Lib.hid ((heap_setCells_other (wd.heap.size) w.heap.size (Nat.ne_of_lt MGu1.out) (blC k7P ++ blC k7P) (0 + l.length * 2) u3).trans SXu3.out)
   have MRE := Lib.hid q3
   clear q1 q2 q3
   refine hK.out _ _ SXE.out ?_
   clear hK K
   try simp only [Act.put, List.setIfInBounds_toArray]
   try simp only [List.set_cons_zero, List.set_cons_succ]
   generalize u3.setCells (wd.heap.size) (0 + l.length * 2) (blC k7P ++ blC k7P) = uE at *
   refine one_ready 10 (by kernel_rfl) rfl (by rfl) (fun K hK => ?_)
   go_simp
   refine hK.out _ _ SXE.out ?_
   clear hK K
   try simp only [Act.put, List.setIfInBounds_toArray]
   try simp only [List.set_cons_zero, List.set_cons_succ]
   refine wpAnyH_done (by kernel_rfl) ?_ _
   refine NoPanic.normal ?_
   go_wp2_with fail
   go_ret
   exact ⟨wd.heap.size, rfl, Nat.le_of_lt MGu1.out, MRE.out, BKE.out⟩
  ·
   go_simp
   have hba : Below u1.heap.size u1 (u1.alloc (.cells #[.int .i64 7, .string ⟨#[]⟩, .int .i64 7, .string ⟨#[]⟩] 37)) := (Below.refl _ _).alloc (Nat.le_refl _) _
   have BKu4 := Lib.hid (BKu1.out.alloc BKu1.out.size (.cells #[.int .i64 7, .string ⟨#[]⟩, .int .i64 7, .string ⟨#[]⟩] 37))
   have SXu4 := Lib.hid ((hba.block _ (lt_of_block SXu1.out)).trans SXu1.out)
   have MRu4 := Lib.hid ((hba.block _ (lt_of_block MRu1.out)).trans MRu1.out)
   have FRu4 : Hid ((u1.alloc (.cells #[.int .i64 7, .string ⟨#[]⟩, .int .i64 7, .string ⟨#[]⟩] 37)).heap[u1.heap.size]? = some (.cells #[.int .i64 7, .string ⟨#[]⟩, .int .i64 7, .string ⟨#[]⟩] 37 (0, 0))) := heap_alloc_new u1 _
   have FM : Hid (u1.heap.size ≠ wd.heap.size) := (Nat.ne_of_lt (lt_of_block MRu1.out)).symm
   refine hK.out _ _ SXu4.out ?_
   clear hK K
   try simp only [Act.put, List.setIfInBounds_toArray]
   try simp only [List.set_cons_zero, List.set_cons_succ]
   generalize u1.alloc (.cells #[.int .i64 7, .string ⟨#[]⟩, .int .i64 7, .string ⟨#[]⟩] 37) = u4 at *
   refine one_ready 5 (by kernel_rfl) rfl (by rfl) (fun K hK => ?_)
   obtain ⟨q1, q2, q3⟩ := amp_steps blC_length (z := (((0, ⟨#[]⟩) : Bl) : Bl)) (l := l) (f := (((0, ⟨#[]⟩) : Bl) : Bl)) MRu4.out
   refine wp_append_roomK _ _ 28 28 rfl 37 i0 2 Tryz.underlying28 hi0 hz1 (wd.heap.size) 0 0 (l.length + 3) rfl _ rfl l.length (l.flatMap blC) (src_sat Tryz.underlying28 (by decide) blC_length blC_one (HS.out.below BKu4.out) cap) HR1.out q1 q2 ?_
   have BKu5 := Lib.hid (below_setCells (Nat.le_of_lt MGu1.out) (l.flatMap blC) (0 + 0 * 2) BKu4.out)
   have SXu5 := Lib.hid ((heap_setCells_other (wd.heap.size) w.heap.size (Nat.ne_of_lt MGu1.out) (l.flatMap blC) (0 + 0 * 2) u4).trans SXu4.out)
   have MRu5 := Lib.hid q3
   have FRu5 := Lib.hid ((heap_setCells_other (wd.heap.size) _ FM.out (l.flatMap blC) (0 + 0 * 2) u4).trans FRu4.out)
   clear q1 q2 q3
   refine hK.out _ _ SXu5.out ?_
   clear hK K
   try simp only [Act.put, List.setIfInBounds_toArray]
   try simp only [List.set_cons_zero, List.set_cons_succ]
   generalize u4.setCells wd.heap.size (0 + 0 * 2) (l.flatMap blC) = u5 at *
   refine one_ready 9 (by kernel_rfl) rfl (by rfl) (fun K hK => ?_)
   obtain ⟨q1, q2, q3⟩ := amp_steps2 blC_length (z := (((0, ⟨#[]⟩) : Bl) : Bl)) (l := l) (f := (k7P : Bl)) MRu5.out
   refine wp_append_roomK _ _ 28 28 rfl 37 i0 2 Tryz.underlying28 hi0 hz1 (wd.heap.size) 0 (0 + l.length) (l.length + 3) rfl _ rfl 2 (blC k7P ++ blC k7P) (Src.ofSlice _ Tryz.underlying28 ⟨u1.heap.size, 0, none⟩ 2 2 _ rfl (cells_of FRu5.out _ rfl) (fun v hv => by
    rcases List.mem_append.1 hv with h | h
    ·
     exact blC_one _ v h
    ·
     exact blC_one _ v h)) HR2.out q1 q2 ?_
   have BKE := Lib.hid (below_setCells (Nat.le_of_lt MGu1.out) (blC k7P ++ blC k7P) (0 + (0 + l.length) * 2) BKu5.out)
   have SXE := Lib.hid ((heap_setCells_other (wd.heap.size) w.heap.size (Nat.ne_of_lt MGu1.out) (blC k7P ++ blC k7P) (0 + (0 + l.length) * 2) u5).trans SXu5.out)
   have MRE := Lib.hid q3
   clear q1 q2 q3
   refine hK.out _ _ SXE.out ?_
   clear hK K
   try simp only [Act.put, List.setIfInBounds_toArray]
   try simp only [List.set_cons_zero, List.set_cons_succ]
   generalize u5.setCells (wd.heap.size) (0 + (0 + l.length) * 2) (blC k7P ++ blC k7P) = uE at *
   refine one_ready 10 (by kernel_rfl) rfl (by rfl) (fun K hK => ?_)
   go_simp
   refine hK.out _ _ SXE.out ?_
   clear hK K
   try simp only [Act.put, List.setIfInBounds_toArray]
   try simp only [List.set_cons_zero, List.set_cons_succ]
   refine wpAnyH_done (by kernel_rfl) ?_ _
   refine NoPanic.normal ?_
   go_wp2_with fail
   go_ret
   exact ⟨wd.heap.size, rfl, Nat.le_of_lt MGu1.out, MRE.out, BKE.out⟩
 ·
  go_simp
  have hba : Below wd.heap.size wd (wd.alloc (.cells #[.int .i64 7, .string ⟨#[]⟩, .int .i64 7, .string ⟨#[]⟩] 37)) := (Below.refl _ _).alloc (Nat.le_refl _) _
  have BKu6 := Lib.hid (BKwd.out.alloc BKwd.out.size (.cells #[.int .i64 7, .string ⟨#[]⟩, .int .i64 7, .string ⟨#[]⟩] 37))
  have SXu6 := Lib.hid ((hba.block _ (lt_of_block SXwd.out)).trans SXwd.out)
  have FRu6 : Hid ((wd.alloc (.cells #[.int .i64 7, .string ⟨#[]⟩, .int .i64 7, .string ⟨#[]⟩] 37)).heap[wd.heap.size]? = some (.cells #[.int .i64 7, .string ⟨#[]⟩, .int .i64 7, .string ⟨#[]⟩] 37 (0, 0))) := heap_alloc_new wd _
  refine hK.out _ _ SXu6.out ?_
  clear hK K
  try simp only [Act.put, List.setIfInBounds_toArray]
  try simp only [List.set_cons_zero, List.set_cons_succ]
  generalize wd.alloc (.cells #[.int .i64 7, .string ⟨#[]⟩, .int .i64 7, .string ⟨#[]⟩] 37) = u6 at *
  refine one_ready 3 (by kernel_rfl) rfl (by rfl) (fun K hK => ?_)
  go_simp
  have hba : Below u6.heap.size u6 (u6.alloc (.cells (zTBl (l.length + 3)) 37)) := (Below.refl _ _).alloc (Nat.le_refl _) _
  have BKu7 := Lib.hid (BKu6.out.alloc BKu6.out.size (.cells (zTBl (l.length + 3)) 37))
  have SXu7 := Lib.hid ((hba.block _ (lt_of_block SXu6.out)).trans SXu6.out)
  have FRu7 := Lib.hid ((hba.block _ (lt_of_block FRu6.out)).trans FRu6.out)
  have MRu7 : Hid ((u6.alloc (.cells (zTBl (l.length + 3)) 37)).heap[u6.heap.size]? = some (.cells ((List.replicate (l.length + 3) (((0, ⟨#[]⟩) : Bl) : Bl)).flatMap blC).toArray 37 (0, 0))) := heap_alloc_new u6 _
  have MGu7 : Hid (w.heap.size < u6.heap.size) := lt_of_block SXu6.out
  have FM : Hid (wd.heap.size ≠ u6.heap.size) := Nat.ne_of_lt (lt_of_block FRu6.out)
  refine hK.out _ _ SXu7.out ?_
  clear hK K
  try simp only [Act.put, List.setIfInBounds_toArray]
  try simp only [List.set_cons_zero, List.set_cons_succ]
  generalize u6.alloc (.cells (zTBl (l.length + 3)) 37) = u7 at *
  refine one_ready 5 (by kernel_rfl) rfl (by rfl) (fun K hK => ?_)
  obtain ⟨q1, q2, q3⟩ := amp_steps blC_length (z := (((0, ⟨#[]⟩) : Bl) : Bl)) (l := l) (f := (((0, ⟨#[]⟩) : Bl) : Bl)) MRu7.out
  refine wp_append_roomK _ _ 28 28 rfl 37 i0 2 Tryz.underlying28 hi0 hz1 (u6.heap.size) 0 0 (l.length + 3) rfl _ rfl l.length (l.flatMap blC) (src_sat Tryz.underlying28 (by decide) blC_length blC_one (HS.out.below BKu7.out) cap) HR1.out q1 q2 ?_
  have BKu8 := Lib.hid (below_setCells (Nat.le_of_lt MGu7.out) (l.flatMap blC) (0 + 0 * 2) BKu7.out)
  have SXu8 := Lib.hid ((heap_setCells_other (u6.heap.size) w.heap.size (Nat.ne_of_lt MGu7.out) (l.flatMap blC) (0 + 0 * 2) u7).trans SXu7.out)
  have MRu8 := Lib.hid q3
  have FRu8 := Lib.hid ((heap_setCells_other (u6.heap.size) _ FM.out (l.flatMap blC) (0 + 0 * 2) u7).trans FRu7.out)
  clear q1 q2 q3
  refine hK.out _ _ SXu8.out ?_
  clear hK K
  try simp only [Act.put, List.setIfInBounds_toArray]
  try simp only [List.set_cons_zero, List.set_cons_succ]
  generalize u7.setCells u6.heap.size (0 + 0 * 2) (l.flatMap blC) = u8 at *
  refine one_ready 9 (by kernel_rfl) rfl (by rfl) (fun K hK => ?_)
  obtain ⟨q1, q2, q3⟩ := amp_steps2 blC_length (z := (((0, ⟨#[]⟩) : Bl) : Bl)) (l := l) (f := (k7P : Bl)) MRu8.out
  refine wp_append_roomK _ _ 28 28 rfl 37 i0 2 Tryz.underlying28 hi0 hz1 (u6.heap.size) 0 (0 + l.length) (l.length + 3) rfl _ rfl 2 (blC k7P ++ blC k7P) (Src.ofSlice _ Tryz.underlying28 ⟨wd.heap.size, 0, none⟩ 2 2 _ rfl (cells_of FRu8.out _ rfl) (fun v hv => by
   rcases List.mem_append.1 hv with h | h
   ·
    exact blC_one _ v h
   ·
    exact blC_one _ v h)) HR2.out q1 q2 ?_
  have BKE := Lib.hid (below_setCells (Nat.le_of_lt MGu7.out) (blC k7P ++ blC k7P) (0 + (0 + l.length) * 2) BKu8.out)
  have SXE := Lib.hid ((heap_setCells_other (u6.heap.size) w.heap.size (Nat.ne_of_lt MGu7.out) (blC k7P ++ blC k7P) (0 + (0 + l.length) * 2) u8).trans SXu8.out)
  have MRE := Lib.hid q3
  clear q1 q2 q3
  refine hK.out _ _ SXE.out ?_
  clear hK K
  try simp only [Act.put, List.setIfInBounds_toArray]
  try simp only [List.set_cons_zero, List.set_cons_succ]
  generalize u8.setCells (u6.heap.size) (0 + (0 + l.length) * 2) (blC k7P ++ blC k7P) = uE at *
  refine one_ready 10 (by kernel_rfl) rfl (by rfl) (fun K hK => ?_)
  go_simp
  refine hK.out _ _ SXE.out ?_
  clear hK K
  try simp only [Act.put, List.setIfInBounds_toArray]
  try simp only [List.set_cons_zero, List.set_cons_succ]
  refine wpAnyH_done (by kernel_rfl) ?_ _
  refine NoPanic.normal ?_
  go_wp2_with fail
  go_ret
  exact ⟨u6.heap.size, rfl, Nat.le_of_lt MGu7.out, MRE.out, BKE.out⟩
set_option maxRecDepth 100000 in
set_option maxHeartbeats 1000000 in
theorem spoilBl_any (g n m : Nat) (cs : Array Value) (w : World) (h : w.heap[g]? = some (.cells cs 37 (0, 0))) (hc : cs.size = n * 2) (hn : n ≤ 9223372036854775807) (hm : m ≤ n) :
  Calls Tryz.prog 45 #[.slice (some ⟨g, 0, none⟩) m n, .agg #[.int .i64 0, .string ⟨#[]⟩]] w (fun e w' => e = .returned (.tuple #[]) ∧ w.grownBy w' (some g) ∧ ∃ cs, w'.heap[g]? = some (.cells cs 37 (0, 0)) ∧ cs.size = n * 2) := by
 have H0 := Lib.hid h
 have HC := Lib.hid hc
 have k0 : (0 : Int) ≤ (n : Int) := Int.natCast_nonneg _
 have HICT : Hid ((Tryz.prog.info? 37).map (·.size) = some (#[.int .i64 0, .string ⟨#[]⟩] : Array Value).size) := by show _ = some 2; kernel_rfl
 have HON : Hid (((#[.int .i64 0, .string ⟨#[]⟩] : Array Value).all (·.oneCell')) = true) := by show _ = _; kernel_rfl
 have hgb := lt_of_block h
 have HG0 : Hid (w.grownBy (w.alloc (.cells #[.int .i64 0, .string ⟨#[]⟩] 37)) (some g)) := ⟨rfl, rfl, rfl, ((Below.refl w.heap.size w).alloc (Nat.le_refl _) (.cells #[.int .i64 0, .string ⟨#[]⟩] 37)).size, fun k hk _ => heap_alloc_old w _ hk⟩
 have HB0 := Lib.hid (heap_alloc_new w (.cells #[.int .i64 0, .string ⟨#[]⟩] 37))
 have HR0 : Hid ((w.alloc (.cells #[.int .i64 0, .string ⟨#[]⟩] 37)).heap[g]? = some (.cells cs 37 (0, 0))) := by show _ = _; rw [heap_alloc_old w _ hgb]; exact H0.out
 clear h hc
 go_enter Tryz.func45, Tryz.ntmps45
 go_wp2_with fail
 have hne : g ≠ w.heap.size := Nat.ne_of_lt hgb
 go_loopw [11] (fun iv wr => ∃ i : Nat, i ≤ n ∧ iv = .int .i64 (i : Int) ∧ w.grownBy wr (some g) ∧ wr.heap[w.heap.size]? = some (.cells #[.int .i64 0, .string ⟨#[]⟩] 37 (0, 0)) ∧ ∃ cs : Array Value, wr.heap[g]? = some (.cells cs 37 (0, 0)) ∧ cs.size = n * 2) (fun iv _ => n - (intOf iv).toNat)
 case atStart => exact ⟨0, by omega, rfl, HG0.out, HB0.out, cs, HR0.out, HC.out⟩
 case round =>
  obtain ⟨i, hi, rfl, hg, hb, cs2, hr, hz⟩ := hrel
  have HG := Lib.hid hg
  have HR := Lib.hid hr
  have HZ := Lib.hid hz
  have HB := Lib.hid hb
  by_cases hlt : i < n
  ·
   have m1 : (i : Int) < (n : Int) := by omega
   have m0 : (0 : Int) ≤ (i : Int) := Int.natCast_nonneg _
   have HTH : Hid (wr.there g (i * 2) (#[.int .i64 0, .string ⟨#[]⟩] : Array Value).size) := there_rowO hr (i * 2) _ (by rw [hz]; show i * 2 + 2 ≤ n * 2; omega)
   have HN := Lib.hid (grown_setCells hg (i * 2) [.int .i64 0, .string ⟨#[]⟩])
   obtain ⟨cs3, h31, h32, h33⟩ := heap_setCells g 37 [.int .i64 0, .string ⟨#[]⟩] (i * 2) wr cs2 hr
   have HR2 := Lib.hid h31
   have HZ2 : Hid (cs3.size = n * 2) := h32.trans hz
   have HB2 := Lib.hid ((heap_setCells_other g w.heap.size hne.symm [.int .i64 0, .string ⟨#[]⟩] (i * 2) wr).trans hb)
   clear hg hr hz hb h31 h32 h33
   go_wp2_with (first | (with_reducible refine wpList_load_row rfl 37 (.tmp 3) rfl w.heap.size rfl 37 #[.int .i64 0, .string ⟨#[]⟩] (0, 0) _ HB.out Tryz.underlying37 rfl ?_ ?_; exact HICT.out) | (with_reducible refine wpList_store_mid rfl 37 (.tmp 17) (.tmp 16) rfl g (i * 2) #[.int .i64 0, .string ⟨#[]⟩] rfl rfl ?_ ?_ HON.out ?_; exact HTH.out; exact HICT.out))
   go_roundw
   case rel => exact ⟨i + 1, by omega, by go_num, HN.out, HB2.out, _, HR2.out, HZ2.out⟩
   case measure => simp [intOf]; omega
  ·
   have m1 : ¬ (i : Int) < (n : Int) := by omega
   clear hg hr hz hb
   go_wp2_with fail
   go_end0
   exact ⟨rfl, HG.out, _, HR.out, HZ.out⟩
end Go.Proofs.YtbfoonfbhebhfaaGreatDoor
namespace Go.Proofs.YtbfoonfbhebhfaaGreatDoor
open Go.RowKit Plain
set_option linter.unusedVariables false
set_option linter.unusedSimpArgs false
def i7P : ID8 := (7, 0, 0, 0, 0, 0, 0, 0)
def zTId (n : Nat) : Array Value := ((List.replicate n (((0, 0, 0, 0, 0, 0, 0, 0) : ID8) : ID8)).flatMap idC).toArray
set_option maxRecDepth 100000 in
theorem run_make_Id (n : Nat) (hn : n ≤ 17592186043904) (u : World) : (Instr.makeSlice 57 (.int .i64 0) (.int .i64 ((n : Int) + 3))).run Tryz.prog u = .ok (.slice (some ⟨u.heap.size, 0, none⟩) 0 (n + 3)) (u.alloc (.cells (zTId (n + 3)) 30)) := by
 obtain ⟨i, hi, hz, hs, hb⟩ := info_id
 have := run_make (P := Tryz.prog) u 57 30 i (.agg (idC ((0, 0, 0, 0, 0, 0, 0, 0) : ID8)).toArray) Tryz.underlying57 hi hz .i64 .i64 0 ((n : Int) + 3) (by omega) (by omega) (by rw [hb]; omega) (by omega)
 rw [this, hs]
 have e : ((n : Int) + 3).toNat = n + 3 := by omega
 rw [e]
 have e2 : (Value.agg (idC ((0, 0, 0, 0, 0, 0, 0, 0) : ID8)).toArray).cells = (idC ((0, 0, 0, 0, 0, 0, 0, 0) : ID8)).toArray := rfl
 rw [e2, made_flat idC_length (by decide) (((0, 0, 0, 0, 0, 0, 0, 0) : ID8) : ID8) (n + 3)]
 rfl
set_option maxRecDepth 100000 in
set_option maxHeartbeats 4000000 in
theorem ampleId_any (a : Option Addr) (cap : Nat) (l : List ID8) (w : World) (h : SAt 8 idC w a l) (hl : l.length ≤ 17592186043904) :
  Calls Tryz.prog 42 #[.slice a l.length cap, .agg #[.int .u8 7, .int .u8 0, .int .u8 0, .int .u8 0, .int .u8 0, .int .u8 0, .int .u8 0, .int .u8 0]] w (AmEnd idC (idC ((0, 0, 0, 0, 0, 0, 0, 0) : ID8)) 30 l i7P w) := by
 obtain ⟨i0, hi0, hz0, hz1, hz2⟩ := info_id
 have hmk := run_make_Id l.length (by omega)
 have HICT : Hid ((Tryz.prog.info? 30).map (·.size) = some 8) := by show _ = _; kernel_rfl
 have HUT := Lib.hid Tryz.underlying30
 have HB0 := Lib.hid ((Below.refl w.heap.size w).alloc (Nat.le_refl _) (.cells #[.int .u8 7, .int .u8 0, .int .u8 0, .int .u8 0, .int .u8 0, .int .u8 0, .int .u8 0, .int .u8 0] 30))
 have HX0 := Lib.hid (heap_alloc_new w (.cells #[.int .u8 7, .int .u8 0, .int .u8 0, .int .u8 0, .int .u8 0, .int .u8 0, .int .u8 0, .int .u8 0] 30))
 have HS := Lib.hid h
 have ew : IntKind.i64.wrap ((l.length : Int) + 3) = (l.length : Int) + 3 := wraps_i64 _ (by omega) (by omega)
 have c1 : (l.length : Int) ≤ (l.length : Int) + 3 := by omega
 have c0 : (0 : Int) ≤ (l.length : Int) := Int.natCast_nonneg _
 have HR1 : Hid (0 + l.length ≤ l.length + 3) := by show _ ≤ _; omega
 have HR2 : Hid (0 + l.length + 2 ≤ l.length + 3) := by show _ ≤ _; omega
 have HTC : Hid (idC i7P ++ idC i7P = [.int .u8 7, .int .u8 0, .int .u8 0, .int .u8 0, .int .u8 0, .int .u8 0, .int .u8 0, .int .u8 0, .int .u8 7, .int .u8 0, .int .u8 0, .int .u8 0, .int .u8 0, .int .u8 0, .int .u8 0, .int .u8 0]) := rfl
 clear h
 go_enter Tryz.func42, Tryz.ntmps42
 go_wp2_with fail
 have HBd : Hid (Below w.heap.size w (w.alloc (.cells #[.int .u8 7, .int .u8 0, .int .u8 0, .int .u8 0, .int .u8 0, .int .u8 0, .int .u8 0, .int .u8 0] 30)).drew) := HB0.out.drew
 refine wp_region_noPanic ?_
 refine wp_region_held_drew (S := fun u => u.heap[w.heap.size]? = some (.cells #[.int .u8 7, .int .u8 0, .int .u8 0, .int .u8 0, .int .u8 0, .int .u8 0, .int .u8 0, .int .u8 0] 30 (0, 0))) (by kernel_rfl) HX0.out (fun hS0 => ?_)
 have HS0 := Lib.hid hS0
 clear hS0
 refine take_val 0 (.slice a l.length cap) rfl (by kernel_rfl) (by kernel_rfl) (by kernel_rfl) (fun _ _ _ _ h => h) (by rfl) rfl (fun wz hS => by go_simp) HS0.out ?_
 try simp only [List.set_cons_zero, List.set_cons_succ]
 refine take_val 1 (.int .i64 (l.length : Int)) rfl (by kernel_rfl) (by kernel_rfl) (by kernel_rfl) (fun _ _ _ _ h => h) (by rfl) rfl (fun wz hS => by go_simp) HS0.out ?_
 try simp only [List.set_cons_zero, List.set_cons_succ]
 refine take_val 2 (.int .i64 ((l.length : Int) + 3)) rfl (by kernel_rfl) (by kernel_rfl) (by kernel_rfl) (fun _ _ _ _ h => h) (by rfl) rfl (fun wz hS => by go_simp) HS0.out ?_
 try simp only [List.set_cons_zero, List.set_cons_succ]
 refine take_val 4 (.slice a l.length cap) rfl (by kernel_rfl) (by kernel_rfl) (by kernel_rfl) (fun _ _ _ _ h => h) (by rfl) rfl (fun wz hS => by go_simp) HS0.out ?_
 try simp only [List.set_cons_zero, List.set_cons_succ]
 refine take_row 6 (cs := [.int .u8 7, .int .u8 0, .int .u8 0, .int .u8 0, .int .u8 0, .int .u8 0, .int .u8 0, .int .u8 0]) rfl (by kernel_rfl) (by kernel_rfl) (by kernel_rfl) (fun _ _ _ _ h => h) (by rfl) rfl rfl rfl (fun u hS => row_rangeA hS) HUT.out rfl HICT.out HS0.out ?_
 try simp only [List.set_cons_zero, List.set_cons_succ]
 refine take_row 7 (cs := [.int .u8 7, .int .u8 0, .int .u8 0, .int .u8 0, .int .u8 0, .int .u8 0, .int .u8 0, .int .u8 0]) rfl (by kernel_rfl) (by kernel_rfl) (by kernel_rfl) (fun _ _ _ _ h => h) (by rfl) rfl rfl rfl (fun u hS => row_rangeA hS) HUT.out rfl HICT.out HS0.out ?_
 try simp only [List.set_cons_zero, List.set_cons_succ]
 generalize (w.alloc (.cells #[.int .u8 7, .int .u8 0, .int .u8 0, .int .u8 0, .int .u8 0, .int .u8 0, .int .u8 0, .int .u8 0] 30)).drew = wd at *
 have HSD := Lib.hid (HS.out.below HBd.out)
 have SXwd := HS0
 have BKwd := HBd
 refine two_ready 3 8 (by kernel_rfl) rfl rfl (by rfl) (by rfl) (fun K hK => ?_) (fun K hK => ?_)
 ·
  go_simp
  have hba : Below wd.heap.size wd (wd.alloc (.cells (zTId (l.length + 3)) 30)) := (Below.refl _ _).alloc (Nat.le_refl _) _
  have BKu1 := Lib.hid (BKwd.out.alloc BKwd.out.size (.cells (zTId (l.length + 3)) 30))
  have SXu1 := Lib.hid ((hba.block _ (lt_of_block SXwd.out)).trans SXwd.out)
  have MRu1 : Hid ((wd.alloc (.cells (zTId (l.length + 3)) 30)).heap[wd.heap.size]? = some (.cells ((List.replicate (l.length + 3) (((0, 0, 0, 0, 0, 0, 0, 0) : ID8) : ID8)).flatMap idC).toArray 30 (0, 0))) := heap_alloc_new wd _
  have MGu1 : Hid (w.heap.size < wd.heap.size) := lt_of_block SXwd.out
  refine hK.out _ _ SXu1.out ?_
  clear hK K
  try simp only [Act.put, List.setIfInBounds_toArray]
  try simp only [List.set_cons_zero, List.set_cons_succ]
  generalize wd.alloc (.cells (zTId (l.length + 3)) 30) = u1 at *
  refine two_ready 5 8 (by kernel_rfl) rfl rfl (by rfl) (by rfl) (fun K hK => ?_) (fun K hK => ?_)
  ·
   obtain ⟨q1, q2, q3⟩ := amp_steps idC_length (z := (((0, 0, 0, 0, 0, 0, 0, 0) : ID8) : ID8)) (l := l) (f := (((0, 0, 0, 0, 0, 0, 0, 0) : ID8) : ID8)) MRu1.out
   refine wp_append_roomK _ _ 57 57 rfl 30 i0 8 Tryz.underlying57 hi0 hz1 (wd.heap.size) 0 0 (l.length + 3) rfl _ rfl l.length (l.flatMap idC) (src_sat Tryz.underlying57 (by decide) idC_length idC_one (HS.out.below BKu1.out) cap) HR1.out q1 q2 ?_
   have BKu2 := Lib.hid (below_setCells (Nat.le_of_lt MGu1.out) (l.flatMap idC) (0 + 0 * 8) BKu1.out)
   have SXu2 := Lib.hid ((heap_setCells_other (wd.heap.size) w.heap.size (Nat.ne_of_lt MGu1.out) (l.flatMap idC) (0 + 0 * 8) u1).trans SXu1.out)
   have MRu2 := Lib.hid q3
   clear q1 q2 q3
   refine hK.out _ _ SXu2.out ?_
   clear hK K
   try simp only [Act.put, List.setIfInBounds_toArray]
   try simp only [List.set_cons_zero, List.set_cons_succ]
   generalize u1.setCells wd.heap.size (0 + 0 * 8) (l.flatMap idC) = u2 at *
   refine one_ready 8 (by kernel_rfl) rfl (by rfl) (fun K hK => ?_)
   go_simp
   have hba : Below u2.heap.size u2 (u2.alloc (.cells #[.int .u8 7, .int .u8 0, .int .u8 0, .int .u8 0, .int .u8 0, .int .u8 0, .int .u8 0, .int .u8 0, .int .u8 7, .int .u8 0, .int .u8 0, .int .u8 0, .int .u8 0, .int .u8 0, .int .u8 0, .int .u8 0] 30)) := (Below.refl _ _).alloc (Nat.le_refl _) _
   have BKu3 := Lib.hid (BKu2.out.alloc BKu2.out.size (.cells #[.int .u8 7, .int .u8 0, .int .u8 0, .int .u8 0, .int .u8 0, .int .u8 0, .int .u8 0, .int .u8 0, .int .u8 7, .int .u8 0, .int .u8 0, .int .u8 0, .int .u8 0, .int .u8 0, .int .u8 0, .int .u8 0] 30))
   have SXu3 := Lib.hid ((hba.block _ (lt_of_block SXu2.out)).trans SXu2.out)
   have MRu3 := Lib.hid ((hba.block _ (lt_of_block MRu2.out)).trans MRu2.out)
   have FRu3 : Hid ((u2.alloc (.cells #[.int .u8 7, .int .u8 0, .int .u8 0, .int .u8 0, .int .u8 0, .int .u8 0, .int .u8 0, .int .u8 0, .int .u8 7, .int .u8 0, .int .u8 0, .int .u8 0, .int .u8 0, .int .u8 0, .int .u8 0, .int .u8 0] 30)).heap[u2.heap.size]? = some (.cells #[.int .u8 7, .int .u8 0, .int .u8 0, .int .u8 0, .int .u8 0, .int .u8 0, .int .u8 0, .int .u8 0, .int .u8 7, .int .u8 0, .int .u8 0, .int .u8 0, .int .u8 0, .int .u8 0, .int .u8 0, .int .u8 0] 30 (0, 0))) := heap_alloc_new u2 _
   have FM : Hid (u2.heap.size ≠ wd.heap.size) := (Nat.ne_of_lt (lt_of_block MRu2.out)).symm
   refine hK.out _ _ SXu3.out ?_
   clear hK K
   try simp only [Act.put, List.setIfInBounds_toArray]
   try simp only [List.set_cons_zero, List.set_cons_succ]
   generalize u2.alloc (.cells #[.int .u8 7, .int .u8 0, .int .u8 0, .int .u8 0, .int .u8 0, .int .u8 0, .int .u8 0, .int .u8 0, .int .u8 7, .int .u8 0, .int .u8 0, .int .u8 0, .int .u8 0, .int .u8 0, .int .u8 0, .int .u8 0] 30) = u3 at *
   refine one_ready 9 (by kernel_rfl) rfl (by rfl) (fun K hK => ?_)
   obtain ⟨q1, q2, q3⟩ := amp_steps2 idC_length (z := (((0, 0, 0, 0, 0, 0, 0, 0) : ID8) : ID8)) (l := l) (f := (i7P : ID8)) MRu3.out
   rw [Nat.zero_add l.length] at q1 q2 q3
   refine wp_append_roomK _ _ 57 57 rfl 30 i0 8 Tryz.underlying57 hi0 hz1 (wd.heap.size) 0 l.length (l.length + 3) rfl _ rfl 2 (idC i7P ++ idC i7P) (Src.ofSlice _ Tryz.underlying57 ⟨u2.heap.size, 0, none⟩ 2 2 _ rfl (cells_of FRu3.out _ rfl) (fun v hv => by
    rcases List.mem_append.1 hv with h | h
    ·
     exact idC_one _ v h
    ·
     exact idC_one _ v h)) (by omega) q1 q2 ?_
   have BKE := Lib.hid (below_setCells (Nat.le_of_lt MGu1.out) (idC i7P ++ idC i7P) (0 + l.length * 8) BKu3.out)
   have SXE := Lib.hid ((heap_setCells_other (wd.heap.size) w.heap.size (Nat.ne_of_lt MGu1.out) (idC i7P ++ idC i7P) (0 + l.length * 8) u3).trans SXu3.out)
   have MRE := Lib.hid q3
   clear q1 q2 q3
   refine hK.out _ _ SXE.out ?_
   clear hK K
   try simp only [Act.put, List.setIfInBounds_toArray]
   try simp only [List.set_cons_zero, List.set_cons_succ]
   generalize u3.setCells (wd.heap.size) (0 + l.length * 8) (idC i7P ++ idC i7P) = uE at *
   refine one_ready 10 (by kernel_rfl) rfl (by rfl) (fun K hK => ?_)
   go_simp
   refine hK.out _ _ SXE.out ?_
   clear hK K
   try simp only [Act.put, List.setIfInBounds_toArray]
   try simp only [List.set_cons_zero, List.set_cons_succ]
   refine wpAnyH_done (by kernel_rfl) ?_ _
   refine NoPanic.normal ?_
   go_wp2_with fail
   go_ret
   exact ⟨wd.heap.size, rfl, Nat.le_of_lt MGu1.out, MRE.out, BKE.out⟩
  ·
   go_simp
   have hba : Below u1.heap.size u1 (u1.alloc (.cells #[.int .u8 7, .int .u8 0, .int .u8 0, .int .u8 0, .int .u8 0, .int .u8 0, .int .u8 0, .int .u8 0, .int .u8 7, .int .u8 0, .int .u8 0, .int .u8 0, .int .u8 0, .int .u8 0, .int .u8 0, .int .u8 0] 30)) := (Below.refl _ _).alloc (Nat.le_refl _) _
   have BKu4 := Lib.hid (BKu1.out.alloc BKu1.out.size (.cells #[.int .u8 7, .int .u8 0, .int .u8 0, .int .u8 0, .int .u8 0, .int .u8 0, .int .u8 0, .int .u8 0, .int .u8 7, .int .u8 0, .int .u8 0, .int .u8 0, .int .u8 0, .int .u8 0, .int .u8 0, .int .u8 0] 30))
   have SXu4 := Lib.hid ((hba.block _ (lt_of_block SXu1.out)).trans SXu1.out)
   have MRu4 := Lib.hid ((hba.block _ (lt_of_block MRu1.out)).trans MRu1.out)
   have FRu4 : Hid ((u1.alloc (.cells #[.int .u8 7, .int .u8 0, .int .u8 0, .int .u8 0, .int .u8 0, .int .u8 0, .int .u8 0, .int .u8 0, .int .u8 7, .int .u8 0, .int .u8 0, .int .u8 0, .int .u8 0, .int .u8 0, .int .u8 0, .int .u8 0] 30)).heap[u1.heap.size]? = some (.cells #[.int .u8 7, .int .u8 0, .int .u8 0, .int .u8 0, .int .u8 0, .int .u8 0, .int .u8 0, .int .u8 0, .int .u8 7, .int .u8 0, .int .u8 0, .int .u8 0, .int .u8 0, .int .u8 0, .int .u8 0, .int .u8 0] 30 (0, 0))) := heap_alloc_new u1 _
   have FM : Hid (u1.heap.size ≠ wd.heap.size) := (Nat.ne_of_lt (lt_of_block MRu1.out)).symm
   refine hK.out _ _ SXu4.out ?_
   clear hK K
   try simp only [Act.put, List.setIfInBounds_toArray]
   try simp only [List.set_cons_zero, List.set_cons_succ]
   generalize u1.alloc (.cells #[.int .u8 7, .int .u8 0, .int .u8 0, .int .u8 0, .int .u8 0, .int .u8 0, .int .u8 0, .int .u8 0, .int .u8 7, .int .u8 0, .int .u8 0, .int .u8 0, .int .u8 0, .int .u8 0, .int .u8 0, .int .u8 0] 30) = u4 at *
   refine one_ready 5 (by kernel_rfl) rfl (by rfl) (fun K hK => ?_)
   obtain ⟨q1, q2, q3⟩ := amp_steps idC_length (z := (((0, 0, 0, 0, 0, 0, 0, 0) : ID8) : ID8)) (l := l) (f := (((0, 0, 0, 0, 0, 0, 0, 0) : ID8) : ID8)) MRu4.out
   refine wp_append_roomK _ _ 57 57 rfl 30 i0 8 Tryz.underlying57 hi0 hz1 (wd.heap.size) 0 0 (l.length + 3) rfl _ rfl l.length (l.flatMap idC) (src_sat Tryz.underlying57 (by decide) idC_length idC_one (HS.out.below BKu4.out) cap) HR1.out q1 q2 ?_
   have BKu5 := Lib.hid (below_setCells (Nat.le_of_lt MGu1.out) (l.flatMap idC) (0 + 0 * 8) BKu4.out)
   have SXu5 := Lib.hid ((heap_setCells_other (wd.heap.size) w.heap.size (Nat.ne_of_lt MGu1.out) (l.flatMap idC) (0 + 0 * 8) u4).trans SXu4.out)
   have MRu5 := Lib.hid q3
   have FRu5 := Lib.hid ((heap_setCells_other (wd.heap.size) _ FM.out (l.flatMap idC) (0 + 0 * 8) u4).trans FRu4.out)
   clear q1 q2 q3
   refine hK.out _ _ SXu5.out ?_
   clear hK K
   try simp only [Act.put, List.setIfInBounds_toArray]
   try simp only [List.set_cons_zero, List.set_cons_succ]
   generalize u4.setCells wd.heap.size (0 + 0 * 8) (l.flatMap idC) = u5 at *
   refine one_ready 9 (by kernel_rfl) rfl (by rfl) (fun K hK => ?_)
   obtain ⟨q1, q2, q3⟩ := amp_steps2 idC_length (z := (((0, 0, 0, 0, 0, 0, 0, 0) : ID8) : ID8)) (l := l) (f := (i7P : ID8)) MRu5.out
   refine wp_append_roomK _ _ 57 57 rfl 30 i0 8 Tryz.underlying57 hi0 hz1 (wd.heap.size) 0 (0 + l.length) (l.length + 3) rfl _ rfl 2 (idC i7P ++ idC i7P) (Src.ofSlice _ Tryz.underlying57 ⟨u1.heap.size, 0, none⟩ 2 2 _ rfl (cells_of FRu5.out _ rfl) (fun v hv => by
    rcases List.mem_append.1 hv with h | h
    ·
     exact idC_one _ v h
    ·
     exact idC_one _ v h)) HR2.out q1 q2 ?_
   have BKE := Lib.hid (below_setCells (Nat.le_of_lt MGu1.out) (idC i7P ++ idC i7P) (0 + (0 + l.length) * 8) BKu5.out)
   have SXE := Lib.hid ((heap_setCells_other (wd.heap.size) w.heap.size (Nat.ne_of_lt MGu1.out) (idC i7P ++ idC i7P) (0 + (0 + l.length) * 8) u5).trans SXu5.out)
   have MRE := Lib.hid q3
   clear q1 q2 q3
   refine hK.out _ _ SXE.out ?_
   clear hK K
   try simp only [Act.put, List.setIfInBounds_toArray]
   try simp only [List.set_cons_zero, List.set_cons_succ]
   generalize u5.setCells (wd.heap.size) (0 + (0 + l.length) * 8) (idC i7P ++ idC i7P) = uE at *
   refine one_ready 10 (by kernel_rfl) rfl (by rfl) (fun K hK => ?_)
   go_simp
   refine hK.out _ _ SXE.out ?_
   clear hK K
   try simp only [Act.put, List.setIfInBounds_toArray]
   try simp only [List.set_cons_zero, List.set_cons_succ]
   refine wpAnyH_done (by kernel_rfl) ?_ _
   refine NoPanic.normal ?_
   go_wp2_with fail
   go_ret
   exact ⟨wd.heap.size, rfl, Nat.le_of_lt MGu1.out, MRE.out, BKE.out⟩
 ·
  go_simp
  have hba : Below wd.heap.size wd (wd.alloc (.cells #[.int .u8 7, .int .u8 0, .int .u8 0, .int .u8 0, .int .u8 0, .int .u8 0, .int .u8 0, .int .u8 0, .int .u8 7, .int .u8 0, .int .u8 0, .int .u8 0, .int .u8 0, .int .u8 0, .int .u8 0, .int .u8 0] 30)) := (Below.refl _ _).alloc (Nat.le_refl _) _
  have BKu6 := Lib.hid (BKwd.out.alloc BKwd.out.size (.cells #[.int .u8 7, .int .u8 0, .int .u8 0, .int .u8 0, .int .u8 0, .int .u8 0, .int .u8 0, .int .u8 0, .int .u8 7, .int .u8 0, .int .u8 0, .int .u8 0, .int .u8 0, .int .u8 0, .int .u8 0, .int .u8 0] 30))
  have SXu6 := Lib.hid ((hba.block _ (lt_of_block SXwd.out)).trans SXwd.out)
  have FRu6 : Hid ((wd.alloc (.cells #[.int .u8 7, .int .u8 0, .int .u8 0, .int .u8 0, .int .u8 0, .int .u8 0, .int .u8 0, .int .u8 0, .int .u8 7, .int .u8 0, .int .u8 0, .int .u8 0, .int .u8 0, .int .u8 0, .int .u8 0, .int .u8 0] 30)).heap[wd.heap.size]? = some (.cells #[.int .u8 7, .int .u8 0, .int .u8 0, .int .u8 0, .int .u8 0, .int .u8 0, .int .u8 0, .int .u8 0, .int .u8 7, .int .u8 0, .int .u8 0, .int .u8 0, .int .u8 0, .int .u8 0, .int .u8 0, .int .u8 0] 30 (0, 0))) := heap_alloc_new wd _
  refine hK.out _ _ SXu6.out ?_
  clear hK K
  try simp only [Act.put, List.setIfInBounds_toArray]
  try simp only [List.set_cons_zero, List.set_cons_succ]
  generalize wd.alloc (.cells #[.int .u8 7, .int .u8 0, .int .u8 0, .int .u8 0, .int .u8 0, .int .u8 0, .int .u8 0, .int .u8 0, .int .u8 7, .int .u8 0, .int .u8 0, .int .u8 0, .int .u8 0, .int .u8 0, .int .u8 0, .int .u8 0] 30) = u6 at *
  refine one_ready 3 (by kernel_rfl) rfl (by rfl) (fun K hK => ?_)
  go_simp
  have hba : Below u6.heap.size u6 (u6.alloc (.cells (zTId (l.length + 3)) 30)) := (Below.refl _ _).alloc (Nat.le_refl _) _
  have BKu7 := Lib.hid (BKu6.out.alloc BKu6.out.size (.cells (zTId (l.length + 3)) 30))
  have SXu7 := Lib.hid ((hba.block _ (lt_of_block SXu6.out)).trans SXu6.out)
  have FRu7 := Lib.hid ((hba.block _ (lt_of_block FRu6.out)).trans FRu6.out)
  have MRu7 : Hid ((u6.alloc (.cells (zTId (l.length + 3)) 30)).heap[u6.heap.size]? = some (.cells ((List.replicate (l.length + 3) (((0, 0, 0, 0, 0, 0, 0, 0) : ID8) : ID8)).flatMap idC).toArray 30 (0, 0))) := heap_alloc_new u6 _
  have MGu7 : Hid (w.heap.size < u6.heap.size) := lt_of_block SXu6.out
  have FM : Hid (wd.heap.size ≠ u6.heap.size) := Nat.ne_of_lt (lt_of_block FRu6.out)
  refine hK.out _ _ SXu7.out ?_
  clear hK K
  try simp only [Act.put, List.setIfInBounds_toArray]
  try simp only [List.set_cons_zero, List.set_cons_succ]
  generalize u6.alloc (.cells (zTId (l.length + 3)) 30) = u7 at *
  refine one_ready 5 (by kernel_rfl) rfl (by rfl) (fun K hK => ?_)
  obtain ⟨q1, q2, q3⟩ := amp_steps idC_length (z := (((0, 0, 0, 0, 0, 0, 0, 0) : ID8) : ID8)) (l := l) (f := (((0, 0, 0, 0, 0, 0, 0, 0) : ID8) : ID8)) MRu7.out
  refine wp_append_roomK _ _ 57 57 rfl 30 i0 8 Tryz.underlying57 hi0 hz1 (u6.heap.size) 0 0 (l.length + 3) rfl _ rfl l.length (l.flatMap idC) (src_sat Tryz.underlying57 (by decide) idC_length idC_one (HS.out.below BKu7.out) cap) HR1.out q1 q2 ?_
  have BKu8 := Lib.hid (below_setCells (Nat.le_of_lt MGu7.out) (l.flatMap idC) (0 + 0 * 8) BKu7.out)
  have SXu8 := Lib.hid ((heap_setCells_other (u6.heap.size) w.heap.size (Nat.ne_of_lt MGu7.out) (l.flatMap idC) (0 + 0 * 8) u7).trans SXu7.out)
  have MRu8 := Lib.hid q3
  have FRu8 := Lib.hid ((heap_setCells_other (u6.heap.size) _ FM.out (l.flatMap idC) (0 + 0 * 8) u7).trans FRu7.out)
  clear q1 q2 q3
  refine hK.out _ _ SXu8.out ?_
  clear hK K
  try simp only [Act.put, List.setIfInBounds_toArray]
  try simp only [List.set_cons_zero, List.set_cons_succ]
  generalize u7.setCells u6.heap.size (0 + 0 * 8) (l.flatMap idC) = u8 at *
  refine one_ready 9 (by kernel_rfl) rfl (by rfl) (fun K hK => ?_)
  obtain ⟨q1, q2, q3⟩ := amp_steps2 idC_length (z := (((0, 0, 0, 0, 0, 0, 0, 0) : ID8) : ID8)) (l := l) (f := (i7P : ID8)) MRu8.out
  refine wp_append_roomK _ _ 57 57 rfl 30 i0 8 Tryz.underlying57 hi0 hz1 (u6.heap.size) 0 (0 + l.length) (l.length + 3) rfl _ rfl 2 (idC i7P ++ idC i7P) (Src.ofSlice _ Tryz.underlying57 ⟨wd.heap.size, 0, none⟩ 2 2 _ rfl (cells_of FRu8.out _ rfl) (fun v hv => by
   rcases List.mem_append.1 hv with h | h
   ·
    exact idC_one _ v h
   ·
    exact idC_one _ v h)) HR2.out q1 q2 ?_
  have BKE := Lib.hid (below_setCells (Nat.le_of_lt MGu7.out) (idC i7P ++ idC i7P) (0 + (0 + l.length) * 8) BKu8.out)
  have SXE := Lib.hid ((heap_setCells_other (u6.heap.size) w.heap.size (Nat.ne_of_lt MGu7.out) (idC i7P ++ idC i7P) (0 + (0 + l.length) * 8) u8).trans SXu8.out)
  have MRE := Lib.hid q3
  clear q1 q2 q3
  refine hK.out _ _ SXE.out ?_
  clear hK K
  try simp only [Act.put, List.setIfInBounds_toArray]
  try simp only [List.set_cons_zero, List.set_cons_succ]
  generalize u8.setCells (u6.heap.size) (0 + (0 + l.length) * 8) (idC i7P ++ idC i7P) = uE at *
  refine one_ready 10 (by kernel_rfl) rfl (by rfl) (fun K hK => ?_)
  go_simp
  refine hK.out _ _ SXE.out ?_
  clear hK K
  try simp only [Act.put, List.setIfInBounds_toArray]
  try simp only [List.set_cons_zero, List.set_cons_succ]
  refine wpAnyH_done (by kernel_rfl) ?_ _
  refine NoPanic.normal ?_
  go_wp2_with fail
  go_ret
  exact ⟨u6.heap.size, rfl, Nat.le_of_lt MGu7.out, MRE.out, BKE.out⟩
set_option maxRecDepth 100000 in
set_option maxHeartbeats 1000000 in
theorem spoilId_any (g n m : Nat) (cs : Array Value) (w : World) (h : w.heap[g]? = some (.cells cs 30 (0, 0))) (hc : cs.size = n * 8) (hn : n ≤ 9223372036854775807) (hm : m ≤ n) :
  Calls Tryz.prog 46 #[.slice (some ⟨g, 0, none⟩) m n, .agg #[.int .u8 0, .int .u8 0, .int .u8 0, .int .u8 0, .int .u8 0, .int .u8 0, .int .u8 0, .int .u8 0]] w (fun e w' => e = .returned (.tuple #[]) ∧ w.grownBy w' (some g) ∧ ∃ cs, w'.heap[g]? = some (.cells cs 30 (0, 0)) ∧ cs.size = n * 8) := by
 have H0 := Lib.hid h
 have HC := Lib.hid hc
 have k0 : (0 : Int) ≤ (n : Int) := Int.natCast_nonneg _
 have HICT : Hid ((Tryz.prog.info? 30).map (·.size) = some (#[.int .u8 0, .int .u8 0, .int .u8 0, .int .u8 0, .int .u8 0, .int .u8 0, .int .u8 0, .int .u8 0] : Array Value).size) := by show _ = some 8; kernel_rfl
 have HON : Hid (((#[.int .u8 0, .int .u8 0, .int .u8 0, .int .u8 0, .int .u8 0, .int .u8 0, .int .u8 0, .int .u8 0] : Array Value).all (·.oneCell')) = true) := by show _ = _; kernel_rfl
 have hgb := lt_of_block h
 have HG0 : Hid (w.grownBy (w.alloc (.cells #[.int .u8 0, .int .u8 0, .int .u8 0, .int .u8 0, .int .u8 0, .int .u8 0, .int .u8 0, .int .u8 0] 30)) (some g)) := ⟨rfl, rfl, rfl, ((Below.refl w.heap.size w).alloc (Nat.le_refl _) (.cells #[.int .u8 0, .int .u8 0, .int .u8 0, .int .u8 0, .int .u8 0, .int .u8 0, .int .u8 0, .int .u8 0] 30)).size, fun k hk _ => heap_alloc_old w _ hk⟩
 have HB0 := Lib.hid (heap_alloc_new w (.cells #[.int .u8 0, .int .u8 0, .int .u8 0, .int .u8 0, .int .u8 0, .int .u8 0, .int .u8 0, .int .u8 0] 30))
 have HR0 : Hid ((w.alloc (.cells #[.int .u8 0, .int .u8 0, .int .u8 0, .int .u8 0, .int .u8 0, .int .u8 0, .int .u8 0, .int .u8 0] 30)).heap[g]? = some (.cells cs 30 (0, 0))) := by show _ = _; rw [heap_alloc_old w _ hgb]; exact H0.out
 clear h hc
 go_enter Tryz.func46, Tryz.ntmps46
 go_wp2_with fail
 have hne : g ≠ w.heap.size := Nat.ne_of_lt hgb
 go_loopw [11] (fun iv wr => ∃ i : Nat, i ≤ n ∧ iv = .int .i64 (i : Int) ∧ w.grownBy wr (some g) ∧ wr.heap[w.heap.size]? = some (.cells #[.int .u8 0, .int .u8 0, .int .u8 0, .int .u8 0, .int .u8 0, .int .u8 0, .int .u8 0, .int .u8 0] 30 (0, 0)) ∧ ∃ cs : Array Value, wr.heap[g]? = some (.cells cs 30 (0, 0)) ∧ cs.size = n * 8) (fun iv _ => n - (intOf iv).toNat)
 case atStart => exact ⟨0, by omega, rfl, HG0.out, HB0.out, cs, HR0.out, HC.out⟩
 case round =>
  obtain ⟨i, hi, rfl, hg, hb, cs2, hr, hz⟩ := hrel
  have HG := Lib.hid hg
  have HR := Lib.hid hr
  have HZ := Lib.hid hz
  have HB := Lib.hid hb
  by_cases hlt : i < n
  ·
   have m1 : (i : Int) < (n : Int) := by omega
   have m0 : (0 : Int) ≤ (i : Int) := Int.natCast_nonneg _
   have HTH : Hid (wr.there g (i * 8) (#[.int .u8 0, .int .u8 0, .int .u8 0, .int .u8 0, .int .u8 0, .int .u8 0, .int .u8 0, .int .u8 0] : Array Value).size) := there_rowO hr (i * 8) _ (by rw [hz]; show i * 8 + 8 ≤ n * 8; omega)
   have HN := Lib.hid (grown_setCells hg (i * 8) [.int .u8 0, .int .u8 0, .int .u8 0, .int .u8 0, .int .u8 0, .int .u8 0, .int .u8 0, .int .u8 0])
   obtain ⟨cs3, h31, h32, h33⟩ := heap_setCells g 30 [.int .u8 0, .int .u8 0, .int .u8 0, .int .u8 0, .int .u8 0, .int .u8 0, .int .u8 0, .int .u8 0] (i * 8) wr cs2 hr
   have HR2 := Lib.hid h31
   have HZ2 : Hid (cs3.size = n * 8) := h32.trans hz
   have HB2 := Lib.hid ((heap_setCells_other g w.heap.size hne.symm [.int .u8 0, .int .u8 0, .int .u8 0, .int .u8 0, .int .u8 0, .int .u8 0, .int .u8 0, .int .u8 0] (i * 8) wr).trans hb)
   clear hg hr hz hb h31 h32 h33
   go_wp2_with (first | (with_reducible refine wpList_load_row rfl 30 (.tmp 3) rfl w.heap.size rfl 30 #[.int .u8 0, .int .u8 0, .int .u8 0, .int .u8 0, .int .u8 0, .int .u8 0, .int .u8 0, .int .u8 0] (0, 0) _ HB.out Tryz.underlying30 rfl ?_ ?_; exact HICT.out) | (with_reducible refine wpList_store_mid rfl 30 (.tmp 17) (.tmp 16) rfl g (i * 8) #[.int .u8 0, .int .u8 0, .int .u8 0, .int .u8 0, .int .u8 0, .int .u8 0, .int .u8 0, .int .u8 0] rfl rfl ?_ ?_ HON.out ?_; exact HTH.out; exact HICT.out))
   go_roundw
   case rel => exact ⟨i + 1, by omega, by go_num, HN.out, HB2.out, _, HR2.out, HZ2.out⟩
   case measure => simp [intOf]; omega
  ·
   have m1 : ¬ (i : Int) < (n : Int) := by omega
   clear hg hr hz hb
   go_wp2_with fail
   go_end0
   exact ⟨rfl, HG.out, _, HR.out, HZ.out⟩
end Go.Proofs.YtbfoonfbhebhfaaGreatDoor
