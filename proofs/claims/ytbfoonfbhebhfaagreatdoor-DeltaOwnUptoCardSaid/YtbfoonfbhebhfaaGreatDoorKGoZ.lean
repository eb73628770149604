/- Joined: AmpleIt, StaysIt. -/
import Derived.Test.YtbfoonfbhebhfaaGreatDoorKGoA
import Derived.Test.YtbfoonfbhebhfaaGreatDoorKGoY
namespace Go.Proofs.YtbfoonfbhebhfaaGreatDoor
open Go.RowKit Plain
set_option linter.unusedVariables false
set_option linter.unusedSimpArgs false
def m5P : It := (⟨#[]⟩, 0, 5, 0, ⟨#[]⟩)
def zTIt (n : Nat) : Array Value := ((List.replicate n (zIt : It)).flatMap iC).toArray
set_option maxRecDepth 100000 in
theorem run_make_It (n : Nat) (hn : n ≤ 1000000000) (u : World) : (Instr.makeSlice 26 (.int .i64 0) (.int .i64 ((n : Int) + 3))).run Tryz.prog u = .ok (.slice (some ⟨u.heap.size, 0, none⟩) 0 (n + 3)) (u.alloc (.cells (zTIt (n + 3)) 40)) := by
 obtain ⟨i, hi, hz, hs, hb⟩ := info_it
 have := run_make (P := Tryz.prog) u 26 40 i (.agg (iC zIt).toArray) Tryz.underlying26 hi hz .i64 .i64 0 ((n : Int) + 3) (by omega) (by omega) (by rw [hb]; omega) (by omega)
 rw [this, hs]
 have e : ((n : Int) + 3).toNat = n + 3 := by omega
 rw [e]
 have e2 : (Value.agg (iC zIt).toArray).cells = (iC zIt).toArray := rfl
 rw [e2, made_flat iC_length (by decide) (zIt : It) (n + 3)]
 rfl
set_option maxRecDepth 100000 in
set_option maxHeartbeats 4000000 in
theorem ampleIt_any (a : Option Addr) (cap : Nat) (l : List It) (w : World) (h : SAt 5 iC w a l) (hl : l.length ≤ 1000000000) :
  Calls Tryz.prog 25 #[.slice a l.length cap, .agg #[.string ⟨#[]⟩, .int .i64 0, .int .i64 5, .int .i64 0, .string ⟨#[]⟩]] w (AmEnd iC (iC zIt) 40 l m5P w) := by
 obtain ⟨i0, hi0, hz0, hz1, hz2⟩ := info_it
 have hmk := run_make_It l.length (by omega)
 have HICT : Hid ((Tryz.prog.info? 40).map (·.size) = some 5) := by show _ = _; kernel_rfl
 have HUT := Lib.hid Tryz.underlying40
 have HB0 := Lib.hid ((Below.refl w.heap.size w).alloc (Nat.le_refl _) (.cells #[.string ⟨#[]⟩, .int .i64 0, .int .i64 5, .int .i64 0, .string ⟨#[]⟩] 40))
 have HX0 := Lib.hid (heap_alloc_new w (.cells #[.string ⟨#[]⟩, .int .i64 0, .int .i64 5, .int .i64 0, .string ⟨#[]⟩] 40))
 have HS := Lib.hid h
 have ew : IntKind.i64.wrap ((l.length : Int) + 3) = (l.length : Int) + 3 := wraps_i64 _ (by omega) (by omega)
 have c1 : (l.length : Int) ≤ (l.length : Int) + 3 := by omega
 have c0 : (0 : Int) ≤ (l.length : Int) := Int.natCast_nonneg _
 have HR1 : Hid (0 + l.length ≤ l.length + 3) := by show _ ≤ _; omega
 have HR2 : Hid (0 + l.length + 2 ≤ l.length + 3) := by show _ ≤ _; omega
 have HTC : Hid (iC m5P ++ iC m5P = [.string ⟨#[]⟩, .int .i64 0, .int .i64 5, .int .i64 0, .string ⟨#[]⟩, .string ⟨#[]⟩, .int .i64 0, .int .i64 5, .int .i64 0, .string ⟨#[]⟩]) := rfl
 clear h
 go_enter Tryz.func25, Tryz.ntmps25
 go_wp2_with fail
 have HBd : Hid (Below w.heap.size w (w.alloc (.cells #[.string ⟨#[]⟩, .int .i64 0, .int .i64 5, .int .i64 0, .string ⟨#[]⟩] 40)).drew) := HB0.out.drew
 refine wp_region_noPanic ?_
 refine wp_region_held_drew (S := fun u => u.heap[w.heap.size]? = some (.cells #[.string ⟨#[]⟩, .int .i64 0, .int .i64 5, .int .i64 0, .string ⟨#[]⟩] 40 (0, 0))) (by kernel_rfl) HX0.out (fun hS0 => ?_)
 have HS0 := Lib.hid hS0
 clear hS0
 refine take_val 0 (.slice a l.length cap) rfl (by kernel_rfl) (by kernel_rfl) (by kernel_rfl) (fun _ _ _ _ h => h) (by rfl) rfl (fun wz hS => by go_simp) HS0.out ?_
 try simp only [List.set_cons_zero, List.set_cons_succ]
 refine take_val 1 (.int .i64 (l.length : Int)) rfl (by kernel_rfl) (by kernel_rfl) (by kernel_rfl) (fun _ _ _ _ h => h) (by rfl) rfl (fun wz hS => by go_simp) HS0.out ?_
 try simp only [List.set_cons_zero, List.set_cons_succ]
 refine take_val 2 (.int .i64 ((l.length : Int) + 3)) rfl (by kernel_rfl) (by kernel_rfl) (by kernel_rfl) (fun _ _ _ _ h => h) (by rfl) rfl (fun wz hS => by go_simp) HS0.out ?_
 try simp only [List.set_cons_zero, List.set_cons_succ]
 refine take_val 4 (.slice a l.length cap) rfl (by kernel_rfl) (by kernel_rfl) (by kernel_rfl) (fun _ _ _ _ h => h) (by rfl) rfl (fun wz hS => by go_simp) HS0.out ?_
 try simp only [List.set_cons_zero, List.set_cons_succ]
 refine take_row 6 (cs := [.string ⟨#[]⟩, .int .i64 0, .int .i64 5, .int .i64 0, .string ⟨#[]⟩]) rfl (by kernel_rfl) (by kernel_rfl) (by kernel_rfl) (fun _ _ _ _ h => h) (by rfl) rfl rfl rfl (fun u hS => row_rangeA hS) HUT.out rfl HICT.out HS0.out ?_
 try simp only [List.set_cons_zero, List.set_cons_succ]
 refine take_row 7 (cs := [.string ⟨#[]⟩, .int .i64 0, .int .i64 5, .int .i64 0, .string ⟨#[]⟩]) rfl (by kernel_rfl) (by kernel_rfl) (by kernel_rfl) (fun _ _ _ _ h => h) (by rfl) rfl rfl rfl (fun u hS => row_rangeA hS) HUT.out rfl HICT.out HS0.out ?_
 try simp only [List.set_cons_zero, List.set_cons_succ]
 generalize (w.alloc (.cells #[.string ⟨#[]⟩, .int .i64 0, .int .i64 5, .int .i64 0, .string ⟨#[]⟩] 40)).drew = wd at *
 have HSD := Lib.hid (HS.out.below HBd.out)
 have SXwd := HS0
 have BKwd := HBd
 refine two_ready 3 8 (by kernel_rfl) rfl rfl (by rfl) (by rfl) (fun K hK => ?_) (fun K hK => ?_)
 ·
  go_simp
  have hba : Below wd.heap.size wd (wd.alloc (.cells (zTIt (l.length + 3)) 40)) := (Below.refl _ _).alloc (Nat.le_refl _) _
  have BKu1 := Lib.hid (BKwd.out.alloc BKwd.out.size (.cells (zTIt (l.length + 3)) 40))
  have SXu1 := Lib.hid ((hba.block _ (lt_of_block SXwd.out)).trans SXwd.out)
  have MRu1 : Hid ((wd.alloc (.cells (zTIt (l.length + 3)) 40)).heap[wd.heap.size]? = some (.cells ((List.replicate (l.length + 3) (zIt : It)).flatMap iC).toArray 40 (0, 0))) := heap_alloc_new wd _
  have MGu1 : Hid (w.heap.size < wd.heap.size) := lt_of_block SXwd.out
  refine hK.out _ _ SXu1.out ?_
  clear hK K
  try simp only [Act.put, List.setIfInBounds_toArray]
  try simp only [List.set_cons_zero, List.set_cons_succ]
  generalize wd.alloc (.cells (zTIt (l.length + 3)) 40) = u1 at *
  refine two_ready 5 8 (by kernel_rfl) rfl rfl (by rfl) (by rfl) (fun K hK => ?_) (fun K hK => ?_)
  ·
   obtain ⟨q1, q2, q3⟩ := amp_steps iC_length (z := (zIt : It)) (l := l) (f := (zIt : It)) MRu1.out
   refine wp_append_roomK _ _ 26 26 rfl 40 i0 5 Tryz.underlying26 hi0 hz1 (wd.heap.size) 0 0 (l.length + 3) rfl _ rfl l.length (l.flatMap iC) (src_sat Tryz.underlying26 (by decide) iC_length iC_one (HS.out.below BKu1.out) cap) HR1.out q1 q2 ?_
   have BKu2 := Lib.hid (below_setCells (Nat.le_of_lt MGu1.out) (l.flatMap iC) (0 + 0 * 5) BKu1.out)
   have SXu2 := Lib.hid ((heap_setCells_other (wd.heap.size) w.heap.size (Nat.ne_of_lt MGu1.out) (l.flatMap iC) (0 + 0 * 5) u1).trans SXu1.out)
   have MRu2 := Lib.hid q3
   clear q1 q2 q3
   refine hK.out _ _ SXu2.out ?_
   clear hK K
   try simp only [Act.put, List.setIfInBounds_toArray]
   try simp only [List.set_cons_zero, List.set_cons_succ]
   generalize u1.setCells wd.heap.size (0 + 0 * 5) (l.flatMap iC) = u2 at *
   refine one_ready 8 (by kernel_rfl) rfl (by rfl) (fun K hK => ?_)
   go_simp
   have hba : Below u2.heap.size u2 (u2.alloc (.cells #[.string ⟨#[]⟩, .int .i64 0, .int .i64 5, .int .i64 0, .string ⟨#[]⟩, .string ⟨#[]⟩, .int .i64 0, .int .i64 5, .int .i64 0, .string ⟨#[]⟩] 40)) := (Below.refl _ _).alloc (Nat.le_refl _) _
   have BKu3 := Lib.hid (BKu2.out.alloc BKu2.out.size (.cells #[.string ⟨#[]⟩, .int .i64 0, .int .i64 5, .int .i64 0, .string ⟨#[]⟩, .string ⟨#[]⟩, .int .i64 0, .int .i64 5, .int .i64 0, .string ⟨#[]⟩] 40))
   have SXu3 := Lib.hid ((hba.block _ (lt_of_block SXu2.out)).trans SXu2.out)
   have MRu3 := Lib.hid ((hba.block _ (lt_of_block MRu2.out)).trans MRu2.out)
   have FRu3 : Hid ((u2.alloc (.cells #[.string ⟨#[]⟩, .int .i64 0, .int .i64 5, .int .i64 0, .string ⟨#[]⟩, .string ⟨#[]⟩, .int .i64 0, .int .i64 5, .int .i64 0, .string ⟨#[]⟩] 40)).heap[u2.heap.size]? = some (.cells #[.string ⟨#[]⟩, .int .i64 0, .int .i64 5, .int .i64 0, .string ⟨#[]⟩, .string ⟨#[]⟩, .int .i64 0, .int .i64 5, .int .i64 0, .string ⟨#[]⟩] 40 (0, 0))) := heap_alloc_new u2 _
   have FM : Hid (u2.heap.size ≠ wd.heap.size) := (Nat.ne_of_lt (lt_of_block MRu2.out)).symm
   refine hK.out _ _ SXu3.out ?_
   clear hK K
   try simp only [Act.put, List.setIfInBounds_toArray]
   try simp only [List.set_cons_zero, List.set_cons_succ]
   generalize u2.alloc (.cells #[.string ⟨#[]⟩, .int .i64 0, .int .i64 5, .int .i64 0, .string ⟨#[]⟩, .string ⟨#[]⟩, .int .i64 0, .int .i64 5, .int .i64 0, .string ⟨#[]⟩] 40) = u3 at *
   refine one_ready 9 (by kernel_rfl) rfl (by rfl) (fun K hK => ?_)
   obtain ⟨q1, q2, q3⟩ := amp_steps2 iC_length (z := (zIt : It)) (l := l) (f := (m5P : It)) MRu3.out
   rw [Nat.zero_add l.length] at q1 q2 q3
   refine wp_append_roomK _ _ 26 26 rfl 40 i0 5 Tryz.underlying26 hi0 hz1 (wd.heap.size) 0 l.length (l.length + 3) rfl _ rfl 2 (iC m5P ++ iC m5P) (Src.ofSlice _ Tryz.underlying26 ⟨u2.heap.size, 0, none⟩ 2 2 _ rfl (cells_of FRu3.out _ rfl) (fun v hv => by
    rcases List.mem_append.1 hv with h | h
    ·
     exact iC_one _ v h
    ·
     exact iC_one _ v h)) (by omega) q1 q2 ?_
   have BKE := Lib.hid (below_setCells (Nat.le_of_lt MGu1.out) (iC m5P ++ iC m5P) (0 + l.length * 5) BKu3.out)
   have SXE := Lib.hid ((heap_setCells_other (wd.heap.size) w.heap.size (Nat.ne_of_lt MGu1.out) (iC m5P ++ iC m5P) (0 + l.length * 5) u3).trans SXu3.out)
   have MRE := Lib.hid q3
   clear q1 q2 q3
   refine hK.out _ _ SXE.out ?_
   clear hK K
   try simp only [Act.put, List.setIfInBounds_toArray]
   try simp only [List.set_cons_zero, List.set_cons_succ]
   generalize u3.setCells (wd.heap.size) (0 + l.length * 5) (iC m5P ++ iC m5P) = uE at *
   refine one_ready 10 (by kernel_rfl) rfl (by rfl) (fun K hK => ?_)
   go_simp
   refine hK.out _ _ SXE.out ?_
   clear hK K
   try simp only [Act.put, List.setIfInBounds_toArray]
   try simp only [List.set_cons_zero, List.set_cons_succ]
   refine wpAnyH_done (by kernel_rfl) ?_ _
   refine NoPanic.normal ?_
   go_wp2_with fail
   go_ret
   exact ⟨wd.heap.size, rfl, Nat.le_of_lt MGu1.out, MRE.out, BKE.out⟩
  ·
   go_simp
   have hba : Below u1.heap.size u1 (u1.alloc (.cells #[.string ⟨#[]⟩, .int .i64 0, .int .i64 5, .int .i64 0, .string ⟨#[]⟩, .string ⟨#[]⟩, .int .i64 0, .int .i64 5, .int .i64 0, .string ⟨#[]⟩] 40)) := (Below.refl _ _).alloc (Nat.le_refl _) _
   have BKu4 := Lib.hid (BKu1.out.alloc BKu1.out.size (.cells #[.string ⟨#[]⟩, .int .i64 0, .int .i64 5, .int .i64 0, .string ⟨#[]⟩, .string ⟨#[]⟩, .int .i64 0, .int .i64 5, .int .i64 0, .string ⟨#[]⟩] 40))
   have SXu4 := Lib.hid ((hba.block _ (lt_of_block SXu1.out)).trans SXu1.out)
   have MRu4 := Lib.hid ((hba.block _ (lt_of_block MRu1.out)).trans MRu1.out)
   have FRu4 : Hid ((u1.alloc (.cells #[.string ⟨#[]⟩, .int .i64 0, .int .i64 5, .int .i64 0, .string ⟨#[]⟩, .string ⟨#[]⟩, .int .i64 0, .int .i64 5, .int .i64 0, .string ⟨#[]⟩] 40)).heap[u1.heap.size]? = some (.cells #[.string ⟨#[]⟩, .int .i64 0, .int .i64 5, .int .i64 0, .string ⟨#[]⟩, .string ⟨#[]⟩, .int .i64 0, .int .i64 5, .int .i64 0, .string ⟨#[]⟩] 40 (0, 0))) := heap_alloc_new u1 _
   have FM : Hid (u1.heap.size ≠ wd.heap.size) := (Nat.ne_of_lt (lt_of_block MRu1.out)).symm
   refine hK.out _ _ SXu4.out ?_
   clear hK K
   try simp only [Act.put, List.setIfInBounds_toArray]
   try simp only [List.set_cons_zero, List.set_cons_succ]
   generalize u1.alloc (.cells #[.string ⟨#[]⟩, .int .i64 0, .int .i64 5, .int .i64 0, .string ⟨#[]⟩, .string ⟨#[]⟩, .int .i64 0, .int .i64 5, .int .i64 0, .string ⟨#[]⟩] 40) = u4 at *
   refine one_ready 5 (by kernel_rfl) rfl (by rfl) (fun K hK => ?_)
   obtain ⟨q1, q2, q3⟩ := amp_steps iC_length (z := (zIt : It)) (l := l) (f := (zIt : It)) MRu4.out
   refine wp_append_roomK _ _ 26 26 rfl 40 i0 5 Tryz.underlying26 hi0 hz1 (wd.heap.size) 0 0 (l.length + 3) rfl _ rfl l.length (l.flatMap iC) (src_sat Tryz.underlying26 (by decide) iC_length iC_one (HS.out.below BKu4.out) cap) HR1.out q1 q2 ?_
   have BKu5 := Lib.hid (below_setCells (Nat.le_of_lt MGu1.out) (l.flatMap iC) (0 + 0 * 5) BKu4.out)
   have SXu5 := Lib.hid ((heap_setCells_other (wd.heap.size) w.heap.size (Nat.ne_of_lt MGu1.out) (l.flatMap iC) (0 + 0 * 5) u4).trans SXu4.out)
   have MRu5 := Lib.hid q3
   have FRu5 := Lib.hid ((heap_setCells_other (wd.heap.size) _ FM.out (l.flatMap iC) (0 + 0 * 5) u4).trans FRu4.out)
   clear q1 q2 q3
   refine hK.out _ _ SXu5.out ?_
   clear hK K
   try simp only [Act.put, List.setIfInBounds_toArray]
   try simp only [List.set_cons_zero, List.set_cons_succ]
   generalize u4.setCells wd.heap.size (0 + 0 * 5) (l.flatMap iC) = u5 at *
   refine one_ready 9 (by kernel_rfl) rfl (by rfl) (fun K hK => ?_)
   obtain ⟨q1, q2, q3⟩ := amp_steps2 iC_length (z := (zIt : It)) (l := l) (f := (m5P : It)) MRu5.out
   refine wp_append_roomK _ _ 26 26 rfl 40 i0 5 Tryz.underlying26 hi0 hz1 (wd.heap.size) 0 (0 + l.length) (l.length + 3) rfl _ rfl 2 (iC m5P ++ iC m5P) (Src.ofSlice _ Tryz.underlying26 ⟨u1.heap.size, 0, none⟩ 2 2 _ rfl (cells_of FRu5.out _ rfl) (fun v hv => by
    rcases List.mem_append.1 hv with h | h
    ·
     exact iC_one _ v h
    ·
     exact iC_one _ v h)) HR2.out q1 q2 ?_
   have BKE := Lib.hid (below_setCells (Nat.le_of_lt MGu1.out) (iC m5P ++ iC m5P) (0 + (0 + l.length) * 5) BKu5.out)
   have SXE := Lib.hid ((heap_setCells_other (wd.heap.size) w.heap.size (Nat.ne_of_lt MGu1.out) (iC m5P ++ iC m5P) (0 + (0 + l.length) * 5) u5).trans SXu5.out)
   have MRE := Lib.hid q3
   clear q1 q2 q3
   refine hK.out _ _ SXE.out ?_
   clear hK K
   try simp only [Act.put, List.setIfInBounds_toArray]
   try simp only [List.set_cons_zero, List.set_cons_succ]
   generalize u5.setCells (wd.heap.size) (0 + (0 + l.length) * 5) (iC m5P ++ iC m5P) = uE at *
   refine one_ready 10 (by kernel_rfl) rfl (by rfl) (fun K hK => ?_)
   go_simp
   refine hK.out _ _ SXE.out ?_
   clear hK K
   try simp only [Act.put, List.setIfInBounds_toArray]
   try simp only [List.set_cons_zero, List.set_cons_succ]
   refine wpAnyH_done (by kernel_rfl) ?_ _
   refine NoPanic.normal ?_
   go_wp2_with fail
   go_ret
   exact ⟨wd.heap.size, rfl, Nat.le_of_lt MGu1.out, MRE.out, BKE.out⟩
 ·
  go_simp
  have hba : Below wd.heap.size wd (wd.alloc (.cells #[.string ⟨#[]⟩, .int .i64 0, .int .i64 5, .int .i64 0, .string ⟨#[]⟩, .string ⟨#[]⟩, .int .i64 0, .int .i64 5, .int .i64 0, .string ⟨#[]⟩] 40)) := (Below.refl _ _).alloc (Nat.le_refl _) _
  have BKu6 := Lib.hid (BKwd.out.alloc BKwd.out.size (.cells #[.string ⟨#[]⟩, .int .i64 0, .int .i64 5, .int .i64 0, .string ⟨#[]⟩, .string ⟨#[]⟩, .int .i64 0, .int .i64 5, .int .i64 0, .string ⟨#[]⟩] 40))
  have SXu6 := Lib.hid ((hba.block _ (lt_of_block SXwd.out)).trans SXwd.out)
  have FRu6 : Hid ((wd.alloc (.cells #[.string ⟨#[]⟩, .int .i64 0, .int .i64 5, .int .i64 0, .string ⟨#[]⟩, .string ⟨#[]⟩, .int .i64 0, .int .i64 5, .int .i64 0, .string ⟨#[]⟩] 40)).heap[wd.heap.size]? = some (.cells #[.string ⟨#[]⟩, .int .i64 0, .int .i64 5, .int .i64 0, .string ⟨#[]⟩, .string ⟨#[]⟩, .int .i64 0, .int .i64 5, .int .i64 0, .string ⟨#[]⟩] 40 (0, 0))) := heap_alloc_new wd _
  refine hK.out _ _ SXu6.out ?_
  clear hK K
  try simp only [Act.put, List.setIfInBounds_toArray]
  try simp only [List.set_cons_zero, List.set_cons_succ]
  generalize wd.alloc (.cells #[.string ⟨#[]⟩, .int .i64 0, .int .i64 5, .int .i64 0, .string ⟨#[]⟩, .string ⟨#[]⟩, .int .i64 0, .int .i64 5, .int .i64 0, .string ⟨#[]⟩] 40) = u6 at *
  refine one_ready 3 (by kernel_rfl) rfl (by rfl) (fun K hK => ?_)
  go_simp
  have hba : Below u6.heap.size u6 (u6.alloc (.cells (zTIt (l.length + 3)) 40)) := (Below.refl _ _).alloc (Nat.le_refl _) _
  have BKu7 := Lib.hid (BKu6.out.alloc BKu6.out.size (.cells (zTIt (l.length + 3)) 40))
  have SXu7 := Lib.hid ((hba.block _ (lt_of_block SXu6.out)).trans SXu6.out)
  have FRu7 := Lib.hid ((hba.block _ (lt_of_block FRu6.out)).trans FRu6.out)
  have MRu7 : Hid ((u6.alloc (.cells (zTIt (l.length + 3)) 40)).heap[u6.heap.size]? = some (.cells ((List.replicate (l.length + 3) (zIt : It)).flatMap iC).toArray 40 (0, 0))) := heap_alloc_new u6 _
  have MGu7 : Hid (w.heap.size < u6.heap.size) := lt_of_block SXu6.out
  have FM : Hid (wd.heap.size ≠ u6.heap.size) := Nat.ne_of_lt (lt_of_block FRu6.out)
  refine hK.out _ _ SXu7.out ?_
  clear hK K
  try simp only [Act.put, List.setIfInBounds_toArray]
  try simp only [List.set_cons_zero, List.set_cons_succ]
  generalize u6.alloc (.cells (zTIt (l.length + 3)) 40) = u7 at *
  refine one_ready 5 (by kernel_rfl) rfl (by rfl) (fun K hK => ?_)
  obtain ⟨q1, q2, q3⟩ := amp_steps iC_length (z := (zIt : It)) (l := l) (f := (zIt : It)) MRu7.out
  refine wp_append_roomK _ _ 26 26 rfl 40 i0 5 Tryz.underlying26 hi0 hz1 (u6.heap.size) 0 0 (l.length + 3) rfl _ rfl l.length (l.flatMap iC) (src_sat Tryz.underlying26 (by decide) iC_length iC_one (HS.out.below BKu7.out) cap) HR1.out q1 q2 ?_
  have BKu8 := Lib.hid (below_setCells (Nat.le_of_lt MGu7.out) (l.flatMap iC) (0 + 0 * 5) BKu7.out)
  have SXu8 := Lib.hid ((heap_setCells_other (u6.heap.size) w.heap.size (Nat.ne_of_lt MGu7.out) (l.flatMap iC) (0 + 0 * 5) u7).trans SXu7.out)
  have MRu8 := Lib.hid q3
  have FRu8 := Lib.hid ((heap_setCells_other (u6.heap.size) _ FM.out (l.flatMap iC) (0 + 0 * 5) u7).trans FRu7.out)
  clear q1 q2 q3
  refine hK.out _ _ SXu8.out ?_
  clear hK K
  try simp only [Act.put, List.setIfInBounds_toArray]
  try simp only [List.set_cons_zero, List.set_cons_succ]
  generalize u7.setCells u6.heap.size (0 + 0 * 5) (l.flatMap iC) = u8 at *
  refine one_ready 9 (by kernel_rfl) rfl (by rfl) (fun K hK => ?_)
  obtain ⟨q1, q2, q3⟩ := amp_steps2 iC_length (z := (zIt : It)) (l := l) (f := (m5P : It)) MRu8.out
  refine wp_append_roomK _ _ 26 26 rfl 40 i0 5 Tryz.underlying26 hi0 hz1 (u6.heap.size) 0 (0 + l.length) (l.length + 3) rfl _ rfl 2 (iC m5P ++ iC m5P) (Src.ofSlice _ Tryz.underlying26 ⟨wd.heap.size, 0, none⟩ 2 2 _ rfl (cells_of FRu8.out _ rfl) (fun v hv => by
   rcases List.mem_append.1 hv with h | h
   ·
    exact iC_one _ v h
   ·
    exact iC_one _ v h)) HR2.out q1 q2 ?_
  have BKE := Lib.hid (below_setCells (Nat.le_of_lt MGu7.out) (iC m5P ++ iC m5P) (0 + (0 + l.length) * 5) BKu8.out)
  have SXE := Lib.hid ((heap_setCells_other (u6.heap.size) w.heap.size (Nat.ne_of_lt MGu7.out) (iC m5P ++ iC m5P) (0 + (0 + l.length) * 5) u8).trans SXu8.out)
  have MRE := Lib.hid q3
  clear q1 q2 q3
  refine hK.out _ _ SXE.out ?_
  clear hK K
  try simp only [Act.put, List.setIfInBounds_toArray]
  try simp only [List.set_cons_zero, List.set_cons_succ]
  generalize u8.setCells (u6.heap.size) (0 + (0 + l.length) * 5) (iC m5P ++ iC m5P) = uE at *
  refine one_ready 10 (by kernel_rfl) rfl (by rfl) (fun K hK => ?_)
  go_simp
  refine hK.out _ _ SXE.out ?_
  clear hK K
  try simp only [Act.put, List.setIfInBounds_toArray]
  try simp only [List.set_cons_zero, List.set_cons_succ]
  refine wpAnyH_done (by kernel_rfl) ?_ _
  refine NoPanic.normal ?_
  go_wp2_with fail
  go_ret
  exact ⟨u6.heap.size, rfl, Nat.le_of_lt MGu7.out, MRE.out, BKE.out⟩
set_option maxRecDepth 100000 in
set_option maxHeartbeats 1000000 in
theorem spoilIt_any (g n m : Nat) (cs : Array Value) (w : World) (h : w.heap[g]? = some (.cells cs 40 (0, 0))) (hc : cs.size = n * 5) (hn : n ≤ 1000000010) (hm : m ≤ n) :
  Calls Tryz.prog 34 #[.slice (some ⟨g, 0, none⟩) m n, .agg #[.string ⟨#[]⟩, .int .i64 0, .int .i64 0, .int .i64 0, .string ⟨#[]⟩]] w (fun e w' => e = .returned (.tuple #[]) ∧ w.grownBy w' (some g) ∧ ∃ cs, w'.heap[g]? = some (.cells cs 40 (0, 0)) ∧ cs.size = n * 5) := by
 have H0 := Lib.hid h
 have HC := Lib.hid hc
 have k0 : (0 : Int) ≤ (n : Int) := Int.natCast_nonneg _
 have HICT : Hid ((Tryz.prog.info? 40).map (·.size) = some (#[.string ⟨#[]⟩, .int .i64 0, .int .i64 0, .int .i64 0, .string ⟨#[]⟩] : Array Value).size) := by show _ = some 5; kernel_rfl
 have HON : Hid (((#[.string ⟨#[]⟩, .int .i64 0, .int .i64 0, .int .i64 0, .string ⟨#[]⟩] : Array Value).all (·.oneCell')) = true) := by show _ = _; kernel_rfl
 have hgb := lt_of_block h
 have HG0 : Hid (w.grownBy (w.alloc (.cells #[.string ⟨#[]⟩, .int .i64 0, .int .i64 0, .int .i64 0, .string ⟨#[]⟩] 40)) (some g)) := ⟨rfl, rfl, rfl, ((Below.refl w.heap.size w).alloc (Nat.le_refl _) (.cells #[.string ⟨#[]⟩, .int .i64 0, .int .i64 0, .int .i64 0, .string ⟨#[]⟩] 40)).size, fun k hk _ => heap_alloc_old w _ hk⟩
 have HB0 := Lib.hid (heap_alloc_new w (.cells #[.string ⟨#[]⟩, .int .i64 0, .int .i64 0, .int .i64 0, .string ⟨#[]⟩] 40))
 have HR0 : Hid ((w.alloc (.cells #[.string ⟨#[]⟩, .int .i64 0, .int .i64 0, .int .i64 0, .string ⟨#[]⟩] 40)).heap[g]? = some (.cells cs 40 (0, 0))) := by show _ = _; rw [heap_alloc_old w _ hgb]; exact H0.out
 clear h hc
 go_enter Tryz.func34, Tryz.ntmps34
 go_wp2_with fail
 have hne : g ≠ w.heap.size := Nat.ne_of_lt hgb
 go_loopw [11] (fun iv wr => ∃ i : Nat, i ≤ n ∧ iv = .int .i64 (i : Int) ∧ w.grownBy wr (some g) ∧ wr.heap[w.heap.size]? = some (.cells #[.string ⟨#[]⟩, .int .i64 0, .int .i64 0, .int .i64 0, .string ⟨#[]⟩] 40 (0, 0)) ∧ ∃ cs : Array Value, wr.heap[g]? = some (.cells cs 40 (0, 0)) ∧ cs.size = n * 5) (fun iv _ => n - (intOf iv).toNat)
 case atStart => exact ⟨0, by omega, rfl, HG0.out, HB0.out, cs, HR0.out, HC.out⟩
 case round =>
  obtain ⟨i, hi, rfl, hg, hb, cs2, hr, hz⟩ := hrel
  have HG := Lib.hid hg
  have HR := Lib.hid hr
  have HZ := Lib.hid hz
  have HB := Lib.hid hb
  by_cases hlt : i < n
  ·
   have m1 : (i : Int) < (n : Int) := by omega
   have m0 : (0 : Int) ≤ (i : Int) := Int.natCast_nonneg _
   have HTH : Hid (wr.there g (i * 5) (#[.string ⟨#[]⟩, .int .i64 0, .int .i64 0, .int .i64 0, .string ⟨#[]⟩] : Array Value).size) := there_rowO hr (i * 5) _ (by rw [hz]; show i * 5 + 5 ≤ n * 5; omega)
   have HN := Lib.hid (grown_setCells hg (i * 5) [.string ⟨#[]⟩, .int .i64 0, .int .i64 0, .int .i64 0, .string ⟨#[]⟩])
   obtain ⟨cs3, h31, h32, h33⟩ := heap_setCells g 40 [.string ⟨#[]⟩, .int .i64 0, .int .i64 0, .int .i64 0, .string ⟨#[]⟩] (i * 5) wr cs2 hr
   have HR2 := Lib.hid h31
   have HZ2 : Hid (cs3.size = n * 5) := h32.trans hz
   have HB2 := Lib.hid ((heap_setCells_other g w.heap.size hne.symm [.string ⟨#[]⟩, .int .i64 0, .int .i64 0, .int .i64 0, .string ⟨#[]⟩] (i * 5) wr).trans hb)
   clear hg hr hz hb h31 h32 h33
   go_wp2_with (first | (with_reducible refine wpList_load_row rfl 40 (.tmp 3) rfl w.heap.size rfl 40 #[.string ⟨#[]⟩, .int .i64 0, .int .i64 0, .int .i64 0, .string ⟨#[]⟩] (0, 0) _ HB.out Tryz.underlying40 rfl ?_ ?_; exact HICT.out) | (with_reducible refine wpList_store_mid rfl 40 (.tmp 17) (.tmp 16) rfl g (i * 5) #[.string ⟨#[]⟩, .int .i64 0, .int .i64 0, .int .i64 0, .string ⟨#[]⟩] rfl rfl ?_ ?_ HON.out ?_; exact HTH.out; exact HICT.out))
   go_roundw
   case rel => exact ⟨i + 1, by omega, by go_num, HN.out, HB2.out, _, HR2.out, HZ2.out⟩
   case measure => simp [intOf]; omega
  ·
   have m1 : ¬ (i : Int) < (n : Int) := by omega
   clear hg hr hz hb
   go_wp2_with fail
   go_end0
   exact ⟨rfl, HG.out, _, HR.out, HZ.out⟩
end Go.Proofs.YtbfoonfbhebhfaaGreatDoor
namespace Go.Proofs.YtbfoonfbhebhfaaGreatDoor
open Go.RowKit Plain
set_option linter.unusedVariables false
set_option linter.unusedSimpArgs false
set_option maxRecDepth 100000 in
set_option maxHeartbeats 4000000 in
theorem staysIt_any (g : Nat) (b : Option Addr) (cb : Nat) (l : List It) (w : World) (h : Amp iC (iC zIt) 40 w g l m5P) (hb : SAt 5 iC w b l) (hl : l.length ≤ 1000000000) :
  Calls Tryz.prog 31 #[.slice (some ⟨g, 0, none⟩) l.length (l.length + 3), .slice b l.length cb, .agg #[.string ⟨#[]⟩, .int .i64 0, .int .i64 5, .int .i64 0, .string ⟨#[]⟩]] w fun e w' => e = .returned (.bool true) ∧ Below w.heap.size w w' := by
 have HE : Hid (∀ u, Below w.heap.size w u → Calls Tryz.prog 16 #[.slice (some ⟨g, 0, none⟩) l.length (l.length + 3), .slice b l.length cb] u fun e w' => e = .returned (.bool true) ∧ Below u.heap.size u w') := by
  intro u hu
  refine (eqIts_any (some ⟨g, 0, none⟩) b (l.length + 3) cb l l u ((h.below hu).sat iC_length) (hb.below hu) (by omega) (by omega)).mono ?_
  rintro e w' ⟨⟨r, rfl, hr⟩, hb⟩
  obtain rfl : r = true := hr.2 rfl
  exact ⟨rfl, hb⟩
 have HF0 : Hid (∀ u, Below w.heap.size w u → u.rangeAt g (l.length * 5) [.string ⟨#[]⟩, .int .i64 0, .int .i64 5, .int .i64 0, .string ⟨#[]⟩]) := fun u hu j v hv => by
  have hj : j < 5 := by
   rcases Nat.lt_or_ge j 5 with h | h
   ·
    exact h
   ·
    rw [List.getElem?_eq_none (by simpa using h)] at hv; cases hv
  exact ((h.below hu).fill iC_length 0 j (by decide) hj).trans hv
 have HF1 : Hid (∀ u, Below w.heap.size w u → u.rangeAt g ((l.length + 1) * 5) [.string ⟨#[]⟩, .int .i64 0, .int .i64 5, .int .i64 0, .string ⟨#[]⟩]) := fun u hu j v hv => by
  have hj : j < 5 := by
   rcases Nat.lt_or_ge j 5 with h | h
   ·
    exact h
   ·
    rw [List.getElem?_eq_none (by simpa using h)] at hv; cases hv
  exact ((h.below hu).fill iC_length 1 j (by decide) hj).trans hv
 have E2 : Hid (∀ wx, (binOp .eql 40 (.agg #[.string ⟨#[]⟩, .int .i64 0, .int .i64 5, .int .i64 0, .string ⟨#[]⟩]) (.agg #[.string ⟨#[]⟩, .int .i64 0, .int .i64 5, .int .i64 0, .string ⟨#[]⟩])).run Tryz.prog wx = .ok (.bool true) wx) := (eqIt m5P m5P true (decide_eq_true_iff.2 rfl)).1
 have E3 : Hid (∀ (o : BinOp) (x y : Operand) (wx : World), (eqGuard o 40 x y (.agg #[.string ⟨#[]⟩, .int .i64 0, .int .i64 5, .int .i64 0, .string ⟨#[]⟩]) (.agg #[.string ⟨#[]⟩, .int .i64 0, .int .i64 5, .int .i64 0, .string ⟨#[]⟩])).run Tryz.prog wx = .ok () wx) := (eqIt m5P m5P true (decide_eq_true_iff.2 rfl)).2.2
 have HUT := Lib.hid Tryz.underlying40
 have HICT : Hid ((Tryz.prog.info? 40).map (·.size) = some 5) := by show _ = _; kernel_rfl
 have HB0 := Lib.hid ((Below.refl w.heap.size w).alloc (Nat.le_refl _) (.cells #[.string ⟨#[]⟩, .int .i64 0, .int .i64 5, .int .i64 0, .string ⟨#[]⟩] 40))
 have HX0 := Lib.hid (heap_alloc_new w (.cells #[.string ⟨#[]⟩, .int .i64 0, .int .i64 5, .int .i64 0, .string ⟨#[]⟩] 40))
 have e2 : IntKind.i64.wrap ((l.length : Int) + 2) = (l.length : Int) + 2 := wraps_i64 _ (by omega) (by omega)
 have e1 : IntKind.i64.wrap ((l.length : Int) + 1) = (l.length : Int) + 1 := wraps_i64 _ (by omega) (by omega)
 have k1 : (0 : Int) ≤ (l.length : Int) + 2 := by omega
 have k2 : (l.length : Int) + 2 ≤ (l.length : Int) + 3 := by omega
 have k3 : (0 : Int) ≤ (l.length : Int) := Int.natCast_nonneg _
 have k4 : (l.length : Int) < (l.length : Int) + 2 := by omega
 have k5 : ¬ ((l.length : Int) + 1 < 0) := by omega
 have k6 : (l.length : Int) + 1 < (l.length : Int) + 2 := by omega
 have t2 : ((l.length : Int) + 2).toNat = l.length + 2 := by omega
 have t1 : ((l.length : Int) + 1).toNat = l.length + 1 := by omega
 clear h hb
 go_enter Tryz.func31, Tryz.ntmps31
 go_wp2_with fail
 refine wp_region_noPanic ?_
 refine wp_region_held_drew (S := fun u => u.heap[w.heap.size]? = some (.cells #[.string ⟨#[]⟩, .int .i64 0, .int .i64 5, .int .i64 0, .string ⟨#[]⟩] 40 (0, 0)) ∧ Below w.heap.size w u) (by kernel_rfl) ⟨HX0.out, HB0.out.drew⟩ (fun hS0 => ?_)
 have HS0 := Lib.hid hS0
 clear hS0
 refine take_val 0 (.slice (some ⟨g, 0, none⟩) l.length (l.length + 3)) rfl (by kernel_rfl) (by kernel_rfl) (by kernel_rfl) (fun _ _ _ _ h => h) (by rfl) rfl (fun wz hS => by go_simp) HS0.out ?_
 try simp only [List.set_cons_zero, List.set_cons_succ]
 refine take_val 1 (.slice b l.length cb) rfl (by kernel_rfl) (by kernel_rfl) (by kernel_rfl) (fun _ _ _ _ h => h) (by rfl) rfl (fun wz hS => by go_simp) HS0.out ?_
 try simp only [List.set_cons_zero, List.set_cons_succ]
 refine take_call 2 (.bool true) (by kernel_rfl) rfl (by rfl) rfl (by go_simp) ((HE.out _ HS0.out.2).mono (fun e w' ⟨he, hb⟩ => ⟨he, (hb.block _ (lt_of_block HS0.out.1)).trans HS0.out.1, Below.step HS0.out.2 hb⟩)) ?_
 clear HS0
 intro u2 hS2
 have HS0 := Lib.hid hS2
 clear hS2
 try simp only [List.set_cons_zero, List.set_cons_succ]
 refine take_val 3 (.bool true) rfl (by kernel_rfl) (by kernel_rfl) (by kernel_rfl) (fun _ _ _ _ h => h) (by rfl) rfl (fun wz hS => by go_simp) HS0.out ?_
 try simp only [List.set_cons_zero, List.set_cons_succ]
 refine take_val 4 (.slice (some ⟨g, 0, none⟩) (l.length + 2) (l.length + 3)) rfl (by kernel_rfl) (by kernel_rfl) (by kernel_rfl) (fun _ _ _ _ h => h) (by rfl) rfl (fun wz hS => by go_simp) HS0.out ?_
 try simp only [List.set_cons_zero, List.set_cons_succ]
 refine take_val 5 (.slice (some ⟨g, 0, none⟩) l.length (l.length + 3)) rfl (by kernel_rfl) (by kernel_rfl) (by kernel_rfl) (fun _ _ _ _ h => h) (by rfl) rfl (fun wz hS => by go_simp) HS0.out ?_
 try simp only [List.set_cons_zero, List.set_cons_succ]
 refine take_val 6 (.int .i64 (l.length : Int)) rfl (by kernel_rfl) (by kernel_rfl) (by kernel_rfl) (fun _ _ _ _ h => h) (by rfl) rfl (fun wz hS => by go_simp) HS0.out ?_
 try simp only [List.set_cons_zero, List.set_cons_succ]
 refine take_val 7 (.pointer (some ⟨g, l.length * 5, none⟩)) rfl (by kernel_rfl) (by kernel_rfl) (by kernel_rfl) (fun _ _ _ _ h => h) (by rfl) rfl (fun wz hS => by go_simp) HS0.out ?_
 try simp only [List.set_cons_zero, List.set_cons_succ]
 refine take_row 8 (cs := [.string ⟨#[]⟩, .int .i64 0, .int .i64 5, .int .i64 0, .string ⟨#[]⟩]) rfl (by kernel_rfl) (by kernel_rfl) (by kernel_rfl) (fun _ _ _ _ h => h) (by rfl) rfl rfl rfl (fun u hS => HF0.out u hS.2) HUT.out rfl HICT.out HS0.out ?_
 try simp only [List.set_cons_zero, List.set_cons_succ]
 refine take_row 9 (cs := [.string ⟨#[]⟩, .int .i64 0, .int .i64 5, .int .i64 0, .string ⟨#[]⟩]) rfl (by kernel_rfl) (by kernel_rfl) (by kernel_rfl) (fun _ _ _ _ h => h) (by rfl) rfl rfl rfl (fun u hS => row_rangeA hS.1) HUT.out rfl HICT.out HS0.out ?_
 try simp only [List.set_cons_zero, List.set_cons_succ]
 refine take_val 10 (.bool true) rfl (by kernel_rfl) (by kernel_rfl) (by kernel_rfl) (fun _ _ _ _ h => h) (by rfl) rfl (fun wz hS => by exact val_binE rfl rfl rfl (E2.out wz) (E3.out _ _ _ wz)) HS0.out ?_
 try simp only [List.set_cons_zero, List.set_cons_succ]
 refine take_val 11 (.bool true) rfl (by kernel_rfl) (by kernel_rfl) (by kernel_rfl) (fun _ _ _ _ h => h) (by rfl) rfl (fun wz hS => by go_simp) HS0.out ?_
 try simp only [List.set_cons_zero, List.set_cons_succ]
 refine take_val 12 (.bool true) rfl (by kernel_rfl) (by kernel_rfl) (by kernel_rfl) (fun _ _ _ _ h => h) (by rfl) rfl (fun wz hS => by go_simp) HS0.out ?_
 try simp only [List.set_cons_zero, List.set_cons_succ]
 refine take_val 13 (.slice (some ⟨g, 0, none⟩) (l.length + 2) (l.length + 3)) rfl (by kernel_rfl) (by kernel_rfl) (by kernel_rfl) (fun _ _ _ _ h => h) (by rfl) rfl (fun wz hS => by go_simp) HS0.out ?_
 try simp only [List.set_cons_zero, List.set_cons_succ]
 refine take_val 14 (.slice (some ⟨g, 0, none⟩) l.length (l.length + 3)) rfl (by kernel_rfl) (by kernel_rfl) (by kernel_rfl) (fun _ _ _ _ h => h) (by rfl) rfl (fun wz hS => by go_simp) HS0.out ?_
 try simp only [List.set_cons_zero, List.set_cons_succ]
 refine take_val 15 (.int .i64 (l.length : Int)) rfl (by kernel_rfl) (by kernel_rfl) (by kernel_rfl) (fun _ _ _ _ h => h) (by rfl) rfl (fun wz hS => by go_simp) HS0.out ?_
 try simp only [List.set_cons_zero, List.set_cons_succ]
 refine take_val 16 (.int .i64 ((l.length : Int) + 1)) rfl (by kernel_rfl) (by kernel_rfl) (by kernel_rfl) (fun _ _ _ _ h => h) (by rfl) rfl (fun wz hS => by go_simp) HS0.out ?_
 try simp only [List.set_cons_zero, List.set_cons_succ]
 refine take_val 17 (.pointer (some ⟨g, (l.length + 1) * 5, none⟩)) rfl (by kernel_rfl) (by kernel_rfl) (by kernel_rfl) (fun _ _ _ _ h => h) (by rfl) rfl (fun wz hS => by go_simp) HS0.out ?_
 try simp only [List.set_cons_zero, List.set_cons_succ]
 refine take_row 18 (cs := [.string ⟨#[]⟩, .int .i64 0, .int .i64 5, .int .i64 0, .string ⟨#[]⟩]) rfl (by kernel_rfl) (by kernel_rfl) (by kernel_rfl) (fun _ _ _ _ h => h) (by rfl) rfl rfl rfl (fun u hS => HF1.out u hS.2) HUT.out rfl HICT.out HS0.out ?_
 try simp only [List.set_cons_zero, List.set_cons_succ]
 refine take_row 19 (cs := [.string ⟨#[]⟩, .int .i64 0, .int .i64 5, .int .i64 0, .string ⟨#[]⟩]) rfl (by kernel_rfl) (by kernel_rfl) (by kernel_rfl) (fun _ _ _ _ h => h) (by rfl) rfl rfl rfl (fun u hS => row_rangeA hS.1) HUT.out rfl HICT.out HS0.out ?_
 try simp only [List.set_cons_zero, List.set_cons_succ]
 refine take_val 20 (.bool true) rfl (by kernel_rfl) (by kernel_rfl) (by kernel_rfl) (fun _ _ _ _ h => h) (by rfl) rfl (fun wz hS => by exact val_binE rfl rfl rfl (E2.out wz) (E3.out _ _ _ wz)) HS0.out ?_
 try simp only [List.set_cons_zero, List.set_cons_succ]
 refine take_val 21 (.bool true) rfl (by kernel_rfl) (by kernel_rfl) (by kernel_rfl) (fun _ _ _ _ h => h) (by rfl) rfl (fun wz hS => by go_simp) HS0.out ?_
 try simp only [List.set_cons_zero, List.set_cons_succ]
 refine take_val 22 (.bool true) rfl (by kernel_rfl) (by kernel_rfl) (by kernel_rfl) (fun _ _ _ _ h => h) (by rfl) rfl (fun wz hS => by go_simp) HS0.out ?_
 try simp only [List.set_cons_zero, List.set_cons_succ]
 refine wpAnyH_done (by kernel_rfl) ?_ _
 refine NoPanic.normal ?_
 have HF := Lib.hid HS0.out.2
 clear HS0
 go_wp2_with fail
 go_ret
 exact ⟨rfl, HF.out⟩
end Go.Proofs.YtbfoonfbhebhfaaGreatDoor
