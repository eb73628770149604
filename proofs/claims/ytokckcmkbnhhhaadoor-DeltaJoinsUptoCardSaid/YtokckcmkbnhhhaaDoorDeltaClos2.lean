/- The closures of delta: what they append to the captured variable. Printed by wip/gen_deltaclos.py. -/
import Derived.Test.YtokckcmkbnhhhaaDoorDeltaClos
namespace Go.Proofs.YtokckcmkbnhhhaaDoor
open Go.RowKit Plain
theorem range_move {w w' : World} {g off : Nat} {cs : List Value} (h : w.rangeAt g off cs) (e : ∀ j, w'.cell? ⟨g, off + j, none⟩ = w.cell? ⟨g, off + j, none⟩) : w'.rangeAt g off cs := fun j u hu => (e j).trans (h j u hu)
set_option maxRecDepth 100000 in
set_option maxHeartbeats 4000000 in
theorem diff1_new (y1 : ByteArray) (y2 y3 y4 : Int) (y5 : ByteArray) (g off : Nat) (w0 w : World) (B : Nat) (l : List Ed) (h0 : w0.heap.size ≤ B) (hv : EV w0 B l w) (hg : g < w0.heap.size) (hy : w0.rangeAt g off [.string y1, .int .i64 y2, .int .i64 y3, .int .i64 y4, .string y5]) (hl : l.length ≤ 1000) :
    Calls Tryd.prog 57 #[.pointer none, .pointer (some ⟨g, off, none⟩), .pointer (some ⟨B, 0, none⟩)] w fun e w' => e = .returned (.tuple #[]) ∧ EV w0 B (l ++ [(y1, false, (y1, y2, y3, y4, y5))]) w' := by
  obtain ⟨i0, hi0, hz0, hz1, hz2⟩ := info_ed
  have icI : (Tryd.prog.info? 60).map (·.size) = some 5 := by kernel_rfl
  have icE : (Tryd.prog.info? 72).map (·.size) = some 7 := by kernel_rfl
  have huI := Tryd.underlying60
  have huE := Tryd.underlying72
  have HICI := Lib.hid icI
  have HICE := Lib.hid icE
  obtain ⟨oa, oc, hb, hown, hbl⟩ := hv
  have HB := Lib.hid hb
  have HOWN := Lib.hid hown
  have HBL := Lib.hid hbl
  clear hb hown icI icE
  have HY := Lib.hid (below_range hbl hg hy)
  clear hbl
  go_enter Tryd.func57, Tryd.ntmps57
  go_wp2_with fail
  go_region
  go_wp2_with fail
  refine wp_region_noPanic ?_
  refine wp_region_held_drew (S := fun w' => w'.rangeAt g off [.string y1, .int .i64 y2, .int .i64 y3, .int .i64 y4, .string y5]) (by kernel_rfl) HY.out (fun hS0 => ?_)
  have HS0 := Lib.hid hS0
  have HB : Hid (w.drew.drew.heap[B]? = some (.cells #[.slice oa l.length oc] 54 (0, 0))) := HB.out
  have HOWN : Hid (w.drew.drew.ownsRow (B + 1) 72 7 (.slice oa l.length oc) l.length (l.flatMap eC)) := HOWN.out
  have HBL : Hid (Below w0.heap.size w0 w.drew.drew) := HBL.out.drew.drew
  generalize w.drew.drew = wd at *
  have w0' := cell_of_row _ _ 0 _ _ _ HB.out
  simp only [List.getElem?_toArray, List.getElem?_cons_zero] at w0'
  refine take_val 1 (.pointer (some ⟨g, off, none⟩)) rfl (by kernel_rfl) (by kernel_rfl) (by kernel_rfl) (fun _ _ _ _ h => h) (by rfl) rfl (fun w _ => by go_simp) HS0.out ?_
  try simp only [List.set_cons_zero, List.set_cons_succ]
  refine take_val 2 (.pointer (some ⟨g, off, none⟩)) rfl (by kernel_rfl) (by kernel_rfl) (by kernel_rfl) (fun _ _ _ _ h => h) (by rfl) rfl (fun w _ => by go_simp) HS0.out ?_
  try simp only [List.set_cons_zero, List.set_cons_succ]
  refine take_val 3 (.pointer (some ⟨g, off, none⟩)) rfl (by kernel_rfl) (by kernel_rfl) (by kernel_rfl) (fun _ _ _ _ h => h) (by rfl) rfl (fun w _ => by go_simp) HS0.out ?_
  try simp only [List.set_cons_zero, List.set_cons_succ]
  refine take_val 4 (.string y1) rfl (by kernel_rfl) (by kernel_rfl) (by kernel_rfl) (fun _ _ _ _ h => h) (by rfl) rfl (fun w hS => by have := hS 0 _ rfl; simp only [Nat.add_zero] at this; go_simp) HS0.out ?_
  try simp only [List.set_cons_zero, List.set_cons_succ]
  refine take_val 5 (.pointer (some ⟨g, off, none⟩)) rfl (by kernel_rfl) (by kernel_rfl) (by kernel_rfl) (fun _ _ _ _ h => h) (by rfl) rfl (fun w _ => by go_simp) HS0.out ?_
  try simp only [List.set_cons_zero, List.set_cons_succ]
  refine take_val 6 (.pointer (some ⟨g, off, none⟩)) rfl (by kernel_rfl) (by kernel_rfl) (by kernel_rfl) (fun _ _ _ _ h => h) (by rfl) rfl (fun w _ => by go_simp) HS0.out ?_
  try simp only [List.set_cons_zero, List.set_cons_succ]
  refine take_row 7 rfl (by kernel_rfl) (by kernel_rfl) (by kernel_rfl) (fun _ _ _ _ h => h) (by rfl) rfl rfl rfl (fun _ hS => hS) huI rfl HICI.out HS0.out ?_
  try simp only [List.set_cons_zero, List.set_cons_succ]
  refine take_val 8 (.agg #[.string y1, .bool false, .string y1, .int .i64 y2, .int .i64 y3, .int .i64 y4, .string y5]) rfl (by kernel_rfl) (by kernel_rfl) (by kernel_rfl) (fun _ _ _ _ h => h) (by rfl) rfl (fun w _ => by go_simp) HS0.out ?_
  try simp only [List.set_cons_zero, List.set_cons_succ]
  have D1 := Lib.hid (cells_new_at wd wd.heap.size rfl #[.string y1, .bool false, .string y1, .int .i64 y2, .int .i64 y3, .int .i64 y4, .string y5] 72 (eC (y1, false, (y1, y2, y3, y4, y5))) rfl)
  have D2 : Hid (∀ u ∈ (eC (y1, false, (y1, y2, y3, y4, y5))), u.oneCell' = true) := fun u hu => eC_one _ u hu
  have D3 : Hid (l.length + 1 ≤ maxLen) := by show _ ≤ _; unfold maxLen; omega
  have D4 : Hid ((l.length + 1) * 80 ≤ 140737488355328) := by show _ ≤ _; omega
  have D5 : Hid (B + 1 ≤ (wd.alloc (.cells #[.string y1, .bool false, .string y1, .int .i64 y2, .int .i64 y3, .int .i64 y4, .string y5] 72)).heap.size) := by show _ ≤ _; rw [World.size_alloc]; have := lt_of_block HB.out; omega
  have hbA : Below wd.heap.size wd (wd.alloc (.cells #[.string y1, .bool false, .string y1, .int .i64 y2, .int .i64 y3, .int .i64 y4, .string y5] 72)) := (Below.refl _ _).alloc (Nat.le_refl _) _
  have hgb := HBL.out.size
  have HSA : Hid ((fun w' => w'.rangeAt g off [.string y1, .int .i64 y2, .int .i64 y3, .int .i64 y4, .string y5]) (wd.alloc (.cells #[.string y1, .bool false, .string y1, .int .i64 y2, .int .i64 y3, .int .i64 y4, .string y5] 72))) := range_move hS0 (fun j => hbA.cell (p := ⟨g, _, none⟩) (by show g < wd.heap.size; omega))
  have HVA : Hid ((wd.alloc (.cells #[.string y1, .bool false, .string y1, .int .i64 y2, .int .i64 y3, .int .i64 y4, .string y5] 72)).heap[B]? = some (.cells #[.slice oa l.length oc] 54 (0, 0))) := (Below.heap_alloc wd _ B (lt_of_block HB.out)).trans HB.out
  have va := cell_of_row _ _ 0 _ _ _ HVA.out
  simp only [List.getElem?_toArray, List.getElem?_cons_zero] at va
  have HNE : Hid (∀ k, (Value.slice oa l.length oc).ownBlock = some k → B + 1 ≤ k) := fun k hk => (HOWN.out.lt k hk).1
  have HVAR : Hid (∀ w', (wd.alloc (.cells #[.string y1, .bool false, .string y1, .int .i64 y2, .int .i64 y3, .int .i64 y4, .string y5] 72)).grownBy w' (Value.slice oa l.length oc).ownBlock → w'.heap[B]? = some (.cells #[.slice oa l.length oc] 54 (0, 0))) := fun w' hg' => (hg'.block B (lt_of_block HVA.out) (fun e => by have := HNE.out B e.symm; omega)).trans HVA.out
  have HKEEP : Hid (∀ w', (wd.alloc (.cells #[.string y1, .bool false, .string y1, .int .i64 y2, .int .i64 y3, .int .i64 y4, .string y5] 72)).grownBy w' (Value.slice oa l.length oc).ownBlock → (fun w' => w'.rangeAt g off [.string y1, .int .i64 y2, .int .i64 y3, .int .i64 y4, .string y5]) w') := fun w' hg' => range_move HSA.out (fun j => World.cell?_of_block (hg'.block g (by rw [World.size_alloc]; omega) (fun e => by have := HNE.out g e.symm; omega)))
  have HKS : Hid (∀ w' v, (wd.alloc (.cells #[.string y1, .bool false, .string y1, .int .i64 y2, .int .i64 y3, .int .i64 y4, .string y5] 72)).grownBy w' (Value.slice oa l.length oc).ownBlock → (fun w' => w'.rangeAt g off [.string y1, .int .i64 y2, .int .i64 y3, .int .i64 y4, .string y5]) (w'.setCell ⟨B, 0, none⟩ v)) := fun w' v hg' => range_move (HKEEP.out w' hg') (fun j => World.cell?_setCell_far w' ⟨B, 0, none⟩ ⟨g, _, none⟩ v (by show B ≠ g; omega))
  clear hbA hgb hS0
  refine two_ready 0 9 (by kernel_rfl) rfl rfl (by rfl) (by rfl) (fun K hK => ?_) (fun K hK => ?_)
  · go_simp
    refine hK.out _ _ HS0.out ?_
    clear hK K
    try simp only [Act.put, List.setIfInBounds_toArray]
    try simp only [List.set_cons_zero, List.set_cons_succ]
    refine one_ready 9 (by kernel_rfl) rfl (by rfl) (fun K hK => ?_)
    go_simp
    refine hK.out _ _ HSA.out ?_
    clear hK K
    try simp only [Act.put, List.setIfInBounds_toArray]
    try simp only [List.set_cons_zero, List.set_cons_succ]
    refine one_ready 10 (by kernel_rfl) rfl (by rfl) (fun K hK => ?_)
    refine wp_append_own _ _ _ 54 rfl (B + 1) 72 i0 (.agg (eC (⟨#[]⟩, false, zIt)).toArray) 7 80 Tryd.underlying54 hi0 hz0 hz1 hz2 rfl (by decide) _ _ _ rfl (HOWN.out.alloc _) ⟨wd.heap.size, 0, none⟩ 1 1 (eC (y1, false, (y1, y2, y3, y4, y5))) rfl rfl D1.out D2.out D3.out D4.out D5.out ?_
    intro v' w' hown' hgrow _
    obtain ⟨oa', oc', rfl⟩ := own_form' hown'
    refine hK.out _ _ (HKEEP.out w' hgrow) ?_
    clear hK K
    try simp only [Act.put, List.setIfInBounds_toArray]
    try simp only [List.set_cons_zero, List.set_cons_succ]
    have hv1 := HVAR.out w' hgrow
    have hv2 := cell_of_row _ _ 0 _ _ _ hv1
    have hv3 := frozen_of_row _ _ 0 _ _ hv1
    simp only [List.getElem?_toArray, List.getElem?_cons_zero] at hv2
    refine one_ready 11 (by kernel_rfl) rfl (by rfl) (fun K hK => ?_)
    go_simp
    refine hK.out _ _ (HKS.out w' _ hgrow) ?_
    clear hK K
    refine wpAnyH_done (by kernel_rfl) ?_ _
    refine NoPanic.normal ?_
    have HF := Lib.hid (OV.push h0 hv1 HOWN.out HBL.out _ hgrow hown')
    go_wp2_with fail
    go_end0
    exact ⟨rfl, HF.out⟩
  · go_simp
    refine hK.out _ _ HSA.out ?_
    clear hK K
    try simp only [Act.put, List.setIfInBounds_toArray]
    try simp only [List.set_cons_zero, List.set_cons_succ]
    refine one_ready 0 (by kernel_rfl) rfl (by rfl) (fun K hK => ?_)
    go_simp
    refine hK.out _ _ HSA.out ?_
    clear hK K
    try simp only [Act.put, List.setIfInBounds_toArray]
    try simp only [List.set_cons_zero, List.set_cons_succ]
    refine one_ready 10 (by kernel_rfl) rfl (by rfl) (fun K hK => ?_)
    refine wp_append_own _ _ _ 54 rfl (B + 1) 72 i0 (.agg (eC (⟨#[]⟩, false, zIt)).toArray) 7 80 Tryd.underlying54 hi0 hz0 hz1 hz2 rfl (by decide) _ _ _ rfl (HOWN.out.alloc _) ⟨wd.heap.size, 0, none⟩ 1 1 (eC (y1, false, (y1, y2, y3, y4, y5))) rfl rfl D1.out D2.out D3.out D4.out D5.out ?_
    intro v' w' hown' hgrow _
    obtain ⟨oa', oc', rfl⟩ := own_form' hown'
    refine hK.out _ _ (HKEEP.out w' hgrow) ?_
    clear hK K
    try simp only [Act.put, List.setIfInBounds_toArray]
    try simp only [List.set_cons_zero, List.set_cons_succ]
    have hv1 := HVAR.out w' hgrow
    have hv2 := cell_of_row _ _ 0 _ _ _ hv1
    have hv3 := frozen_of_row _ _ 0 _ _ hv1
    simp only [List.getElem?_toArray, List.getElem?_cons_zero] at hv2
    refine one_ready 11 (by kernel_rfl) rfl (by rfl) (fun K hK => ?_)
    go_simp
    refine hK.out _ _ (HKS.out w' _ hgrow) ?_
    clear hK K
    refine wpAnyH_done (by kernel_rfl) ?_ _
    refine NoPanic.normal ?_
    have HF := Lib.hid (OV.push h0 hv1 HOWN.out HBL.out _ hgrow hown')
    go_wp2_with fail
    go_end0
    exact ⟨rfl, HF.out⟩
set_option maxRecDepth 100000 in
set_option maxHeartbeats 4000000 in
theorem diff1_turn (x1 : ByteArray) (x2 x3 x4 : Int) (x5 : ByteArray) (gx ox : Nat) (y1 : ByteArray) (y2 y3 y4 : Int) (y5 : ByteArray) (g off : Nat) (w0 w : World) (B : Nat) (l : List Ed) (h0 : w0.heap.size ≤ B) (hv : EV w0 B l w) (hg : g < w0.heap.size) (hy : w0.rangeAt g off [.string y1, .int .i64 y2, .int .i64 y3, .int .i64 y4, .string y5]) (hl : l.length ≤ 1000) (hgx : gx < w0.heap.size) (hx0 : w0.rangeAt gx ox [.string x1, .int .i64 x2, .int .i64 x3, .int .i64 x4, .string x5]) (hne : (x1, x2, x3, x4, x5) ≠ (y1, y2, y3, y4, y5)) :
    Calls Tryd.prog 57 #[.pointer (some ⟨gx, ox, none⟩), .pointer (some ⟨g, off, none⟩), .pointer (some ⟨B, 0, none⟩)] w fun e w' => e = .returned (.tuple #[]) ∧ EV w0 B (l ++ [(y1, false, (y1, y2, y3, y4, y5))]) w' := by
  obtain ⟨i0, hi0, hz0, hz1, hz2⟩ := info_ed
  have icI : (Tryd.prog.info? 60).map (·.size) = some 5 := by kernel_rfl
  have icE : (Tryd.prog.info? 72).map (·.size) = some 7 := by kernel_rfl
  have huI := Tryd.underlying60
  have huE := Tryd.underlying72
  have HICI := Lib.hid icI
  have HICE := Lib.hid icE
  obtain ⟨oa, oc, hb, hown, hbl⟩ := hv
  have HB := Lib.hid hb
  have HOWN := Lib.hid hown
  have HBL := Lib.hid hbl
  clear hb hown icI icE
  have HY := Lib.hid (below_range hbl hg hy)
  have hx := below_range hbl hgx hx0
  obtain ⟨_, E2, E3⟩ := eqIt (x1, x2, x3, x4, x5) (y1, y2, y3, y4, y5) false (decide_eq_false hne)
  simp only [iC] at E2 E3
  have x0 := hx 0 _ rfl
  have x1' := hx 1 _ rfl
  have x2' := hx 2 _ rfl
  have x3' := hx 3 _ rfl
  have x4' := hx 4 _ rfl
  have y0 := HY.out 0 _ rfl
  have y1' := HY.out 1 _ rfl
  have y2' := HY.out 2 _ rfl
  have y3' := HY.out 3 _ rfl
  have y4' := HY.out 4 _ rfl
  simp only [Nat.add_zero] at x0 y0
  clear hbl
  go_enter Tryd.func57, Tryd.ntmps57
  go_wp2_with fail
  go_region
  clear x0 x1' x2' x3' x4' y0 y1' y2' y3' y4' hx hx0 E2 E3
  go_wp2_with fail
  refine wp_region_noPanic ?_
  refine wp_region_held_drew (S := fun w' => w'.rangeAt g off [.string y1, .int .i64 y2, .int .i64 y3, .int .i64 y4, .string y5]) (by kernel_rfl) HY.out (fun hS0 => ?_)
  have HS0 := Lib.hid hS0
  have HB : Hid (w.drew.drew.heap[B]? = some (.cells #[.slice oa l.length oc] 54 (0, 0))) := HB.out
  have HOWN : Hid (w.drew.drew.ownsRow (B + 1) 72 7 (.slice oa l.length oc) l.length (l.flatMap eC)) := HOWN.out
  have HBL : Hid (Below w0.heap.size w0 w.drew.drew) := HBL.out.drew.drew
  generalize w.drew.drew = wd at *
  have w0' := cell_of_row _ _ 0 _ _ _ HB.out
  simp only [List.getElem?_toArray, List.getElem?_cons_zero] at w0'
  refine take_val 1 (.pointer (some ⟨g, off, none⟩)) rfl (by kernel_rfl) (by kernel_rfl) (by kernel_rfl) (fun _ _ _ _ h => h) (by rfl) rfl (fun w _ => by go_simp) HS0.out ?_
  try simp only [List.set_cons_zero, List.set_cons_succ]
  refine take_val 2 (.pointer (some ⟨g, off, none⟩)) rfl (by kernel_rfl) (by kernel_rfl) (by kernel_rfl) (fun _ _ _ _ h => h) (by rfl) rfl (fun w _ => by go_simp) HS0.out ?_
  try simp only [List.set_cons_zero, List.set_cons_succ]
  refine take_val 3 (.pointer (some ⟨g, off, none⟩)) rfl (by kernel_rfl) (by kernel_rfl) (by kernel_rfl) (fun _ _ _ _ h => h) (by rfl) rfl (fun w _ => by go_simp) HS0.out ?_
  try simp only [List.set_cons_zero, List.set_cons_succ]
  refine take_val 4 (.string y1) rfl (by kernel_rfl) (by kernel_rfl) (by kernel_rfl) (fun _ _ _ _ h => h) (by rfl) rfl (fun w hS => by have := hS 0 _ rfl; simp only [Nat.add_zero] at this; go_simp) HS0.out ?_
  try simp only [List.set_cons_zero, List.set_cons_succ]
  refine take_val 5 (.pointer (some ⟨g, off, none⟩)) rfl (by kernel_rfl) (by kernel_rfl) (by kernel_rfl) (fun _ _ _ _ h => h) (by rfl) rfl (fun w _ => by go_simp) HS0.out ?_
  try simp only [List.set_cons_zero, List.set_cons_succ]
  refine take_val 6 (.pointer (some ⟨g, off, none⟩)) rfl (by kernel_rfl) (by kernel_rfl) (by kernel_rfl) (fun _ _ _ _ h => h) (by rfl) rfl (fun w _ => by go_simp) HS0.out ?_
  try simp only [List.set_cons_zero, List.set_cons_succ]
  refine take_row 7 rfl (by kernel_rfl) (by kernel_rfl) (by kernel_rfl) (fun _ _ _ _ h => h) (by rfl) rfl rfl rfl (fun _ hS => hS) huI rfl HICI.out HS0.out ?_
  try simp only [List.set_cons_zero, List.set_cons_succ]
  refine take_val 8 (.agg #[.string y1, .bool false, .string y1, .int .i64 y2, .int .i64 y3, .int .i64 y4, .string y5]) rfl (by kernel_rfl) (by kernel_rfl) (by kernel_rfl) (fun _ _ _ _ h => h) (by rfl) rfl (fun w _ => by go_simp) HS0.out ?_
  try simp only [List.set_cons_zero, List.set_cons_succ]
  have D1 := Lib.hid (cells_new_at wd wd.heap.size rfl #[.string y1, .bool false, .string y1, .int .i64 y2, .int .i64 y3, .int .i64 y4, .string y5] 72 (eC (y1, false, (y1, y2, y3, y4, y5))) rfl)
  have D2 : Hid (∀ u ∈ (eC (y1, false, (y1, y2, y3, y4, y5))), u.oneCell' = true) := fun u hu => eC_one _ u hu
  have D3 : Hid (l.length + 1 ≤ maxLen) := by show _ ≤ _; unfold maxLen; omega
  have D4 : Hid ((l.length + 1) * 80 ≤ 140737488355328) := by show _ ≤ _; omega
  have D5 : Hid (B + 1 ≤ (wd.alloc (.cells #[.string y1, .bool false, .string y1, .int .i64 y2, .int .i64 y3, .int .i64 y4, .string y5] 72)).heap.size) := by show _ ≤ _; rw [World.size_alloc]; have := lt_of_block HB.out; omega
  have hbA : Below wd.heap.size wd (wd.alloc (.cells #[.string y1, .bool false, .string y1, .int .i64 y2, .int .i64 y3, .int .i64 y4, .string y5] 72)) := (Below.refl _ _).alloc (Nat.le_refl _) _
  have hgb := HBL.out.size
  have HSA : Hid ((fun w' => w'.rangeAt g off [.string y1, .int .i64 y2, .int .i64 y3, .int .i64 y4, .string y5]) (wd.alloc (.cells #[.string y1, .bool false, .string y1, .int .i64 y2, .int .i64 y3, .int .i64 y4, .string y5] 72))) := range_move hS0 (fun j => hbA.cell (p := ⟨g, _, none⟩) (by show g < wd.heap.size; omega))
  have HVA : Hid ((wd.alloc (.cells #[.string y1, .bool false, .string y1, .int .i64 y2, .int .i64 y3, .int .i64 y4, .string y5] 72)).heap[B]? = some (.cells #[.slice oa l.length oc] 54 (0, 0))) := (Below.heap_alloc wd _ B (lt_of_block HB.out)).trans HB.out
  have va := cell_of_row _ _ 0 _ _ _ HVA.out
  simp only [List.getElem?_toArray, List.getElem?_cons_zero] at va
  have HNE : Hid (∀ k, (Value.slice oa l.length oc).ownBlock = some k → B + 1 ≤ k) := fun k hk => (HOWN.out.lt k hk).1
  have HVAR : Hid (∀ w', (wd.alloc (.cells #[.string y1, .bool false, .string y1, .int .i64 y2, .int .i64 y3, .int .i64 y4, .string y5] 72)).grownBy w' (Value.slice oa l.length oc).ownBlock → w'.heap[B]? = some (.cells #[.slice oa l.length oc] 54 (0, 0))) := fun w' hg' => (hg'.block B (lt_of_block HVA.out) (fun e => by have := HNE.out B e.symm; omega)).trans HVA.out
  have HKEEP : Hid (∀ w', (wd.alloc (.cells #[.string y1, .bool false, .string y1, .int .i64 y2, .int .i64 y3, .int .i64 y4, .string y5] 72)).grownBy w' (Value.slice oa l.length oc).ownBlock → (fun w' => w'.rangeAt g off [.string y1, .int .i64 y2, .int .i64 y3, .int .i64 y4, .string y5]) w') := fun w' hg' => range_move HSA.out (fun j => World.cell?_of_block (hg'.block g (by rw [World.size_alloc]; omega) (fun e => by have := HNE.out g e.symm; omega)))
  have HKS : Hid (∀ w' v, (wd.alloc (.cells #[.string y1, .bool false, .string y1, .int .i64 y2, .int .i64 y3, .int .i64 y4, .string y5] 72)).grownBy w' (Value.slice oa l.length oc).ownBlock → (fun w' => w'.rangeAt g off [.string y1, .int .i64 y2, .int .i64 y3, .int .i64 y4, .string y5]) (w'.setCell ⟨B, 0, none⟩ v)) := fun w' v hg' => range_move (HKEEP.out w' hg') (fun j => World.cell?_setCell_far w' ⟨B, 0, none⟩ ⟨g, _, none⟩ v (by show B ≠ g; omega))
  clear hbA hgb hS0
  refine two_ready 0 9 (by kernel_rfl) rfl rfl (by rfl) (by rfl) (fun K hK => ?_) (fun K hK => ?_)
  · go_simp
    refine hK.out _ _ HS0.out ?_
    clear hK K
    try simp only [Act.put, List.setIfInBounds_toArray]
    try simp only [List.set_cons_zero, List.set_cons_succ]
    refine one_ready 9 (by kernel_rfl) rfl (by rfl) (fun K hK => ?_)
    go_simp
    refine hK.out _ _ HSA.out ?_
    clear hK K
    try simp only [Act.put, List.setIfInBounds_toArray]
    try simp only [List.set_cons_zero, List.set_cons_succ]
    refine one_ready 10 (by kernel_rfl) rfl (by rfl) (fun K hK => ?_)
    refine wp_append_own _ _ _ 54 rfl (B + 1) 72 i0 (.agg (eC (⟨#[]⟩, false, zIt)).toArray) 7 80 Tryd.underlying54 hi0 hz0 hz1 hz2 rfl (by decide) _ _ _ rfl (HOWN.out.alloc _) ⟨wd.heap.size, 0, none⟩ 1 1 (eC (y1, false, (y1, y2, y3, y4, y5))) rfl rfl D1.out D2.out D3.out D4.out D5.out ?_
    intro v' w' hown' hgrow _
    obtain ⟨oa', oc', rfl⟩ := own_form' hown'
    refine hK.out _ _ (HKEEP.out w' hgrow) ?_
    clear hK K
    try simp only [Act.put, List.setIfInBounds_toArray]
    try simp only [List.set_cons_zero, List.set_cons_succ]
    have hv1 := HVAR.out w' hgrow
    have hv2 := cell_of_row _ _ 0 _ _ _ hv1
    have hv3 := frozen_of_row _ _ 0 _ _ hv1
    simp only [List.getElem?_toArray, List.getElem?_cons_zero] at hv2
    refine one_ready 11 (by kernel_rfl) rfl (by rfl) (fun K hK => ?_)
    go_simp
    refine hK.out _ _ (HKS.out w' _ hgrow) ?_
    clear hK K
    refine wpAnyH_done (by kernel_rfl) ?_ _
    refine NoPanic.normal ?_
    have HF := Lib.hid (OV.push h0 hv1 HOWN.out HBL.out _ hgrow hown')
    go_wp2_with fail
    go_end0
    exact ⟨rfl, HF.out⟩
  · go_simp
    refine hK.out _ _ HSA.out ?_
    clear hK K
    try simp only [Act.put, List.setIfInBounds_toArray]
    try simp only [List.set_cons_zero, List.set_cons_succ]
    refine one_ready 0 (by kernel_rfl) rfl (by rfl) (fun K hK => ?_)
    go_simp
    refine hK.out _ _ HSA.out ?_
    clear hK K
    try simp only [Act.put, List.setIfInBounds_toArray]
    try simp only [List.set_cons_zero, List.set_cons_succ]
    refine one_ready 10 (by kernel_rfl) rfl (by rfl) (fun K hK => ?_)
    refine wp_append_own _ _ _ 54 rfl (B + 1) 72 i0 (.agg (eC (⟨#[]⟩, false, zIt)).toArray) 7 80 Tryd.underlying54 hi0 hz0 hz1 hz2 rfl (by decide) _ _ _ rfl (HOWN.out.alloc _) ⟨wd.heap.size, 0, none⟩ 1 1 (eC (y1, false, (y1, y2, y3, y4, y5))) rfl rfl D1.out D2.out D3.out D4.out D5.out ?_
    intro v' w' hown' hgrow _
    obtain ⟨oa', oc', rfl⟩ := own_form' hown'
    refine hK.out _ _ (HKEEP.out w' hgrow) ?_
    clear hK K
    try simp only [Act.put, List.setIfInBounds_toArray]
    try simp only [List.set_cons_zero, List.set_cons_succ]
    have hv1 := HVAR.out w' hgrow
    have hv2 := cell_of_row _ _ 0 _ _ _ hv1
    have hv3 := frozen_of_row _ _ 0 _ _ hv1
    simp only [List.getElem?_toArray, List.getElem?_cons_zero] at hv2
    refine one_ready 11 (by kernel_rfl) rfl (by rfl) (fun K hK => ?_)
    go_simp
    refine hK.out _ _ (HKS.out w' _ hgrow) ?_
    clear hK K
    refine wpAnyH_done (by kernel_rfl) ?_ _
    refine NoPanic.normal ?_
    have HF := Lib.hid (OV.push h0 hv1 HOWN.out HBL.out _ hgrow hown')
    go_wp2_with fail
    go_end0
    exact ⟨rfl, HF.out⟩
set_option maxRecDepth 100000 in
set_option maxHeartbeats 4000000 in
theorem diff1_same (x1 : ByteArray) (x2 x3 x4 : Int) (x5 : ByteArray) (gx ox g off : Nat) (w0 w : World) (B : Nat) (l : List Ed) (hv : EV w0 B l w) (hgx : gx < w0.heap.size) (hg : g < w0.heap.size) (hx0 : w0.rangeAt gx ox [.string x1, .int .i64 x2, .int .i64 x3, .int .i64 x4, .string x5]) (hy0 : w0.rangeAt g off [.string x1, .int .i64 x2, .int .i64 x3, .int .i64 x4, .string x5]) :
    Calls Tryd.prog 57 #[.pointer (some ⟨gx, ox, none⟩), .pointer (some ⟨g, off, none⟩), .pointer (some ⟨B, 0, none⟩)] w fun e w' => e = .returned (.tuple #[]) ∧ EV w0 B l w' := by
  have HV := Lib.hid hv
  obtain ⟨oa, oc, hb, hown, hbl⟩ := hv
  have hx := below_range hbl hgx hx0
  have hy := below_range hbl hg hy0
  obtain ⟨_, E2, E3⟩ := eqIt (x1, x2, x3, x4, x5) (x1, x2, x3, x4, x5) true (decide_eq_true rfl)
  simp only [iC] at E2 E3
  have x0 := hx 0 _ rfl
  have x1' := hx 1 _ rfl
  have x2' := hx 2 _ rfl
  have x3' := hx 3 _ rfl
  have x4' := hx 4 _ rfl
  have y0 := hy 0 _ rfl
  have y1' := hy 1 _ rfl
  have y2' := hy 2 _ rfl
  have y3' := hy 3 _ rfl
  have y4' := hy 4 _ rfl
  simp only [Nat.add_zero] at x0 y0
  have HF : Hid (EV w0 B l w.drew) := ⟨oa, oc, hb, hown, hbl.drew⟩
  clear hb hown hbl hx hy hx0 hy0 HV
  go_enter Tryd.func57, Tryd.ntmps57
  go_wp2_with fail
  go_region
  go_wp2_with fail
  go_end0
  exact ⟨rfl, HF.out⟩
set_option maxRecDepth 100000 in
set_option maxHeartbeats 4000000 in
theorem apply1_keep (y1 : ByteArray) (y2 y3 y4 : Int) (y5 : ByteArray) (g off : Nat) (w0 w : World) (B : Nat) (l : List It) (h0 : w0.heap.size ≤ B) (hv : IV w0 B l w) (hg : g < w0.heap.size) (hy : w0.rangeAt g off [.string y1, .int .i64 y2, .int .i64 y3, .int .i64 y4, .string y5]) (hl : l.length ≤ 1000) :
    Calls Tryd.prog 85 #[.pointer (some ⟨g, off, none⟩), .pointer none, .pointer (some ⟨B, 0, none⟩)] w fun e w' => e = .returned (.tuple #[]) ∧ IV w0 B (l ++ [(y1, y2, y3, y4, y5)]) w' := by
  obtain ⟨i0, hi0, hz0, hz1, hz2⟩ := info_it
  have icI : (Tryd.prog.info? 60).map (·.size) = some 5 := by kernel_rfl
  have icE : (Tryd.prog.info? 72).map (·.size) = some 7 := by kernel_rfl
  have huI := Tryd.underlying60
  have huE := Tryd.underlying72
  have HICI := Lib.hid icI
  have HICE := Lib.hid icE
  obtain ⟨oa, oc, hb, hown, hbl⟩ := hv
  have HB := Lib.hid hb
  have HOWN := Lib.hid hown
  have HBL := Lib.hid hbl
  clear hb hown icI icE
  have HY := Lib.hid (below_range hbl hg hy)
  clear hbl
  go_enter Tryd.func85, Tryd.ntmps85
  go_wp2_with fail
  refine wp_region_noPanic ?_
  refine wp_region_held_drew (S := fun w' => w'.rangeAt g off [.string y1, .int .i64 y2, .int .i64 y3, .int .i64 y4, .string y5]) (by kernel_rfl) HY.out (fun hS0 => ?_)
  have HS0 := Lib.hid hS0
  have HB : Hid (w.drew.heap[B]? = some (.cells #[.slice oa l.length oc] 53 (0, 0))) := HB.out
  have HOWN : Hid (w.drew.ownsRow (B + 1) 60 5 (.slice oa l.length oc) l.length (l.flatMap iC)) := HOWN.out
  have HBL : Hid (Below w0.heap.size w0 w.drew) := HBL.out.drew
  generalize w.drew = wd at *
  have w0' := cell_of_row _ _ 0 _ _ _ HB.out
  simp only [List.getElem?_toArray, List.getElem?_cons_zero] at w0'
  refine take_val 1 (.pointer (some ⟨g, off, none⟩)) rfl (by kernel_rfl) (by kernel_rfl) (by kernel_rfl) (fun _ _ _ _ h => h) (by rfl) rfl (fun w _ => by go_simp) HS0.out ?_
  try simp only [List.set_cons_zero, List.set_cons_succ]
  refine take_val 2 (.pointer (some ⟨g, off, none⟩)) rfl (by kernel_rfl) (by kernel_rfl) (by kernel_rfl) (fun _ _ _ _ h => h) (by rfl) rfl (fun w _ => by go_simp) HS0.out ?_
  try simp only [List.set_cons_zero, List.set_cons_succ]
  refine take_row 3 rfl (by kernel_rfl) (by kernel_rfl) (by kernel_rfl) (fun _ _ _ _ h => h) (by rfl) rfl rfl rfl (fun _ hS => hS) huI rfl HICI.out HS0.out ?_
  try simp only [List.set_cons_zero, List.set_cons_succ]
  have D1 := Lib.hid (cells_new_at wd wd.heap.size rfl #[.string y1, .int .i64 y2, .int .i64 y3, .int .i64 y4, .string y5] 60 (iC (y1, y2, y3, y4, y5)) rfl)
  have D2 : Hid (∀ u ∈ (iC (y1, y2, y3, y4, y5)), u.oneCell' = true) := fun u hu => iC_one _ u hu
  have D3 : Hid (l.length + 1 ≤ maxLen) := by show _ ≤ _; unfold maxLen; omega
  have D4 : Hid ((l.length + 1) * 56 ≤ 140737488355328) := by show _ ≤ _; omega
  have D5 : Hid (B + 1 ≤ (wd.alloc (.cells #[.string y1, .int .i64 y2, .int .i64 y3, .int .i64 y4, .string y5] 60)).heap.size) := by show _ ≤ _; rw [World.size_alloc]; have := lt_of_block HB.out; omega
  have hbA : Below wd.heap.size wd (wd.alloc (.cells #[.string y1, .int .i64 y2, .int .i64 y3, .int .i64 y4, .string y5] 60)) := (Below.refl _ _).alloc (Nat.le_refl _) _
  have hgb := HBL.out.size
  have HSA : Hid ((fun w' => w'.rangeAt g off [.string y1, .int .i64 y2, .int .i64 y3, .int .i64 y4, .string y5]) (wd.alloc (.cells #[.string y1, .int .i64 y2, .int .i64 y3, .int .i64 y4, .string y5] 60))) := range_move hS0 (fun j => hbA.cell (p := ⟨g, _, none⟩) (by show g < wd.heap.size; omega))
  have HVA : Hid ((wd.alloc (.cells #[.string y1, .int .i64 y2, .int .i64 y3, .int .i64 y4, .string y5] 60)).heap[B]? = some (.cells #[.slice oa l.length oc] 53 (0, 0))) := (Below.heap_alloc wd _ B (lt_of_block HB.out)).trans HB.out
  have va := cell_of_row _ _ 0 _ _ _ HVA.out
  simp only [List.getElem?_toArray, List.getElem?_cons_zero] at va
  have HNE : Hid (∀ k, (Value.slice oa l.length oc).ownBlock = some k → B + 1 ≤ k) := fun k hk => (HOWN.out.lt k hk).1
  have HVAR : Hid (∀ w', (wd.alloc (.cells #[.string y1, .int .i64 y2, .int .i64 y3, .int .i64 y4, .string y5] 60)).grownBy w' (Value.slice oa l.length oc).ownBlock → w'.heap[B]? = some (.cells #[.slice oa l.length oc] 53 (0, 0))) := fun w' hg' => (hg'.block B (lt_of_block HVA.out) (fun e => by have := HNE.out B e.symm; omega)).trans HVA.out
  have HKEEP : Hid (∀ w', (wd.alloc (.cells #[.string y1, .int .i64 y2, .int .i64 y3, .int .i64 y4, .string y5] 60)).grownBy w' (Value.slice oa l.length oc).ownBlock → (fun w' => w'.rangeAt g off [.string y1, .int .i64 y2, .int .i64 y3, .int .i64 y4, .string y5]) w') := fun w' hg' => range_move HSA.out (fun j => World.cell?_of_block (hg'.block g (by rw [World.size_alloc]; omega) (fun e => by have := HNE.out g e.symm; omega)))
  have HKS : Hid (∀ w' v, (wd.alloc (.cells #[.string y1, .int .i64 y2, .int .i64 y3, .int .i64 y4, .string y5] 60)).grownBy w' (Value.slice oa l.length oc).ownBlock → (fun w' => w'.rangeAt g off [.string y1, .int .i64 y2, .int .i64 y3, .int .i64 y4, .string y5]) (w'.setCell ⟨B, 0, none⟩ v)) := fun w' v hg' => range_move (HKEEP.out w' hg') (fun j => World.cell?_setCell_far w' ⟨B, 0, none⟩ ⟨g, _, none⟩ v (by show B ≠ g; omega))
  clear hbA hgb hS0
  refine two_ready 0 4 (by kernel_rfl) rfl rfl (by rfl) (by rfl) (fun K hK => ?_) (fun K hK => ?_)
  · go_simp
    refine hK.out _ _ HS0.out ?_
    clear hK K
    try simp only [Act.put, List.setIfInBounds_toArray]
    try simp only [List.set_cons_zero, List.set_cons_succ]
    refine one_ready 4 (by kernel_rfl) rfl (by rfl) (fun K hK => ?_)
    go_simp
    refine hK.out _ _ HSA.out ?_
    clear hK K
    try simp only [Act.put, List.setIfInBounds_toArray]
    try simp only [List.set_cons_zero, List.set_cons_succ]
    refine one_ready 5 (by kernel_rfl) rfl (by rfl) (fun K hK => ?_)
    refine wp_append_own _ _ _ 53 rfl (B + 1) 60 i0 (.agg (iC zIt).toArray) 5 56 Tryd.underlying53 hi0 hz0 hz1 hz2 rfl (by decide) _ _ _ rfl (HOWN.out.alloc _) ⟨wd.heap.size, 0, none⟩ 1 1 (iC (y1, y2, y3, y4, y5)) rfl rfl D1.out D2.out D3.out D4.out D5.out ?_
    intro v' w' hown' hgrow _
    obtain ⟨oa', oc', rfl⟩ := own_form' hown'
    refine hK.out _ _ (HKEEP.out w' hgrow) ?_
    clear hK K
    try simp only [Act.put, List.setIfInBounds_toArray]
    try simp only [List.set_cons_zero, List.set_cons_succ]
    have hv1 := HVAR.out w' hgrow
    have hv2 := cell_of_row _ _ 0 _ _ _ hv1
    have hv3 := frozen_of_row _ _ 0 _ _ hv1
    simp only [List.getElem?_toArray, List.getElem?_cons_zero] at hv2
    refine one_ready 6 (by kernel_rfl) rfl (by rfl) (fun K hK => ?_)
    go_simp
    refine hK.out _ _ (HKS.out w' _ hgrow) ?_
    clear hK K
    refine wpAnyH_done (by kernel_rfl) ?_ _
    refine NoPanic.normal ?_
    have HF := Lib.hid (OV.push h0 hv1 HOWN.out HBL.out _ hgrow hown')
    go_wp2_with fail
    go_end0
    exact ⟨rfl, HF.out⟩
  · go_simp
    refine hK.out _ _ HSA.out ?_
    clear hK K
    try simp only [Act.put, List.setIfInBounds_toArray]
    try simp only [List.set_cons_zero, List.set_cons_succ]
    refine one_ready 0 (by kernel_rfl) rfl (by rfl) (fun K hK => ?_)
    go_simp
    refine hK.out _ _ HSA.out ?_
    clear hK K
    try simp only [Act.put, List.setIfInBounds_toArray]
    try simp only [List.set_cons_zero, List.set_cons_succ]
    refine one_ready 5 (by kernel_rfl) rfl (by rfl) (fun K hK => ?_)
    refine wp_append_own _ _ _ 53 rfl (B + 1) 60 i0 (.agg (iC zIt).toArray) 5 56 Tryd.underlying53 hi0 hz0 hz1 hz2 rfl (by decide) _ _ _ rfl (HOWN.out.alloc _) ⟨wd.heap.size, 0, none⟩ 1 1 (iC (y1, y2, y3, y4, y5)) rfl rfl D1.out D2.out D3.out D4.out D5.out ?_
    intro v' w' hown' hgrow _
    obtain ⟨oa', oc', rfl⟩ := own_form' hown'
    refine hK.out _ _ (HKEEP.out w' hgrow) ?_
    clear hK K
    try simp only [Act.put, List.setIfInBounds_toArray]
    try simp only [List.set_cons_zero, List.set_cons_succ]
    have hv1 := HVAR.out w' hgrow
    have hv2 := cell_of_row _ _ 0 _ _ _ hv1
    have hv3 := frozen_of_row _ _ 0 _ _ hv1
    simp only [List.getElem?_toArray, List.getElem?_cons_zero] at hv2
    refine one_ready 6 (by kernel_rfl) rfl (by rfl) (fun K hK => ?_)
    go_simp
    refine hK.out _ _ (HKS.out w' _ hgrow) ?_
    clear hK K
    refine wpAnyH_done (by kernel_rfl) ?_ _
    refine NoPanic.normal ?_
    have HF := Lib.hid (OV.push h0 hv1 HOWN.out HBL.out _ hgrow hown')
    go_wp2_with fail
    go_end0
    exact ⟨rfl, HF.out⟩
set_option maxRecDepth 100000 in
set_option maxHeartbeats 4000000 in
theorem apply1_put (xv : Value) (p y1 : ByteArray) (y2 y3 y4 : Int) (y5 : ByteArray) (g off : Nat) (w0 w : World) (B : Nat) (l : List It) (h0 : w0.heap.size ≤ B) (hv : IV w0 B l w) (hg : g < w0.heap.size) (hy : w0.rangeAt g off [.string p, .bool false, .string y1, .int .i64 y2, .int .i64 y3, .int .i64 y4, .string y5]) (hl : l.length ≤ 1000) :
    Calls Tryd.prog 85 #[xv, .pointer (some ⟨g, off, none⟩), .pointer (some ⟨B, 0, none⟩)] w fun e w' => e = .returned (.tuple #[]) ∧ IV w0 B (l ++ [(y1, y2, y3, y4, y5)]) w' := by
  obtain ⟨i0, hi0, hz0, hz1, hz2⟩ := info_it
  have icI : (Tryd.prog.info? 60).map (·.size) = some 5 := by kernel_rfl
  have icE : (Tryd.prog.info? 72).map (·.size) = some 7 := by kernel_rfl
  have huI := Tryd.underlying60
  have huE := Tryd.underlying72
  have HICI := Lib.hid icI
  have HICE := Lib.hid icE
  obtain ⟨oa, oc, hb, hown, hbl⟩ := hv
  have HB := Lib.hid hb
  have HOWN := Lib.hid hown
  have HBL := Lib.hid hbl
  clear hb hown icI icE
  have hy' := below_range hbl hg hy
  have HY : Hid (w.rangeAt g (off + 2) [.string y1, .int .i64 y2, .int .i64 y3, .int .i64 y4, .string y5]) := fun j u hu => by
    have h := hy' (j + 2) u (by simpa using hu)
    rwa [show off + (j + 2) = off + 2 + j by omega] at h
  have g1 := hy' 1 _ rfl
  clear hbl hy'
  go_enter Tryd.func85, Tryd.ntmps85
  go_wp2_with fail
  clear g1
  refine wp_region_noPanic ?_
  refine wp_region_held_drew (S := fun w' => w'.rangeAt g (off + 2) [.string y1, .int .i64 y2, .int .i64 y3, .int .i64 y4, .string y5]) (by kernel_rfl) HY.out (fun hS0 => ?_)
  have HS0 := Lib.hid hS0
  have HB : Hid (w.drew.heap[B]? = some (.cells #[.slice oa l.length oc] 53 (0, 0))) := HB.out
  have HOWN : Hid (w.drew.ownsRow (B + 1) 60 5 (.slice oa l.length oc) l.length (l.flatMap iC)) := HOWN.out
  have HBL : Hid (Below w0.heap.size w0 w.drew) := HBL.out.drew
  generalize w.drew = wd at *
  have w0' := cell_of_row _ _ 0 _ _ _ HB.out
  simp only [List.getElem?_toArray, List.getElem?_cons_zero] at w0'
  refine take_val 1 (.pointer (some ⟨g, off, none⟩)) rfl (by kernel_rfl) (by kernel_rfl) (by kernel_rfl) (fun _ _ _ _ h => h) (by rfl) rfl (fun w _ => by go_simp) HS0.out ?_
  try simp only [List.set_cons_zero, List.set_cons_succ]
  refine take_val 2 (.pointer (some ⟨g, off, none⟩)) rfl (by kernel_rfl) (by kernel_rfl) (by kernel_rfl) (fun _ _ _ _ h => h) (by rfl) rfl (fun w _ => by go_simp) HS0.out ?_
  try simp only [List.set_cons_zero, List.set_cons_succ]
  refine take_val 3 (.pointer (some ⟨g, off + 2, none⟩)) rfl (by kernel_rfl) (by kernel_rfl) (by kernel_rfl) (fun _ _ _ _ h => h) (by rfl) rfl (fun w _ => by go_simp) HS0.out ?_
  try simp only [List.set_cons_zero, List.set_cons_succ]
  refine take_row 4 rfl (by kernel_rfl) (by kernel_rfl) (by kernel_rfl) (fun _ _ _ _ h => h) (by rfl) rfl rfl rfl (fun _ hS => hS) huI rfl HICI.out HS0.out ?_
  try simp only [List.set_cons_zero, List.set_cons_succ]
  have D1 := Lib.hid (cells_new_at wd wd.heap.size rfl #[.string y1, .int .i64 y2, .int .i64 y3, .int .i64 y4, .string y5] 60 (iC (y1, y2, y3, y4, y5)) rfl)
  have D2 : Hid (∀ u ∈ (iC (y1, y2, y3, y4, y5)), u.oneCell' = true) := fun u hu => iC_one _ u hu
  have D3 : Hid (l.length + 1 ≤ maxLen) := by show _ ≤ _; unfold maxLen; omega
  have D4 : Hid ((l.length + 1) * 56 ≤ 140737488355328) := by show _ ≤ _; omega
  have D5 : Hid (B + 1 ≤ (wd.alloc (.cells #[.string y1, .int .i64 y2, .int .i64 y3, .int .i64 y4, .string y5] 60)).heap.size) := by show _ ≤ _; rw [World.size_alloc]; have := lt_of_block HB.out; omega
  have hbA : Below wd.heap.size wd (wd.alloc (.cells #[.string y1, .int .i64 y2, .int .i64 y3, .int .i64 y4, .string y5] 60)) := (Below.refl _ _).alloc (Nat.le_refl _) _
  have hgb := HBL.out.size
  have HSA : Hid ((fun w' => w'.rangeAt g (off + 2) [.string y1, .int .i64 y2, .int .i64 y3, .int .i64 y4, .string y5]) (wd.alloc (.cells #[.string y1, .int .i64 y2, .int .i64 y3, .int .i64 y4, .string y5] 60))) := range_move hS0 (fun j => hbA.cell (p := ⟨g, _, none⟩) (by show g < wd.heap.size; omega))
  have HVA : Hid ((wd.alloc (.cells #[.string y1, .int .i64 y2, .int .i64 y3, .int .i64 y4, .string y5] 60)).heap[B]? = some (.cells #[.slice oa l.length oc] 53 (0, 0))) := (Below.heap_alloc wd _ B (lt_of_block HB.out)).trans HB.out
  have va := cell_of_row _ _ 0 _ _ _ HVA.out
  simp only [List.getElem?_toArray, List.getElem?_cons_zero] at va
  have HNE : Hid (∀ k, (Value.slice oa l.length oc).ownBlock = some k → B + 1 ≤ k) := fun k hk => (HOWN.out.lt k hk).1
  have HVAR : Hid (∀ w', (wd.alloc (.cells #[.string y1, .int .i64 y2, .int .i64 y3, .int .i64 y4, .string y5] 60)).grownBy w' (Value.slice oa l.length oc).ownBlock → w'.heap[B]? = some (.cells #[.slice oa l.length oc] 53 (0, 0))) := fun w' hg' => (hg'.block B (lt_of_block HVA.out) (fun e => by have := HNE.out B e.symm; omega)).trans HVA.out
  have HKEEP : Hid (∀ w', (wd.alloc (.cells #[.string y1, .int .i64 y2, .int .i64 y3, .int .i64 y4, .string y5] 60)).grownBy w' (Value.slice oa l.length oc).ownBlock → (fun w' => w'.rangeAt g (off + 2) [.string y1, .int .i64 y2, .int .i64 y3, .int .i64 y4, .string y5]) w') := fun w' hg' => range_move HSA.out (fun j => World.cell?_of_block (hg'.block g (by rw [World.size_alloc]; omega) (fun e => by have := HNE.out g e.symm; omega)))
  have HKS : Hid (∀ w' v, (wd.alloc (.cells #[.string y1, .int .i64 y2, .int .i64 y3, .int .i64 y4, .string y5] 60)).grownBy w' (Value.slice oa l.length oc).ownBlock → (fun w' => w'.rangeAt g (off + 2) [.string y1, .int .i64 y2, .int .i64 y3, .int .i64 y4, .string y5]) (w'.setCell ⟨B, 0, none⟩ v)) := fun w' v hg' => range_move (HKEEP.out w' hg') (fun j => World.cell?_setCell_far w' ⟨B, 0, none⟩ ⟨g, _, none⟩ v (by show B ≠ g; omega))
  clear hbA hgb hS0
  refine two_ready 0 5 (by kernel_rfl) rfl rfl (by rfl) (by rfl) (fun K hK => ?_) (fun K hK => ?_)
  · go_simp
    refine hK.out _ _ HS0.out ?_
    clear hK K
    try simp only [Act.put, List.setIfInBounds_toArray]
    try simp only [List.set_cons_zero, List.set_cons_succ]
    refine one_ready 5 (by kernel_rfl) rfl (by rfl) (fun K hK => ?_)
    go_simp
    refine hK.out _ _ HSA.out ?_
    clear hK K
    try simp only [Act.put, List.setIfInBounds_toArray]
    try simp only [List.set_cons_zero, List.set_cons_succ]
    refine one_ready 6 (by kernel_rfl) rfl (by rfl) (fun K hK => ?_)
    refine wp_append_own _ _ _ 53 rfl (B + 1) 60 i0 (.agg (iC zIt).toArray) 5 56 Tryd.underlying53 hi0 hz0 hz1 hz2 rfl (by decide) _ _ _ rfl (HOWN.out.alloc _) ⟨wd.heap.size, 0, none⟩ 1 1 (iC (y1, y2, y3, y4, y5)) rfl rfl D1.out D2.out D3.out D4.out D5.out ?_
    intro v' w' hown' hgrow _
    obtain ⟨oa', oc', rfl⟩ := own_form' hown'
    refine hK.out _ _ (HKEEP.out w' hgrow) ?_
    clear hK K
    try simp only [Act.put, List.setIfInBounds_toArray]
    try simp only [List.set_cons_zero, List.set_cons_succ]
    have hv1 := HVAR.out w' hgrow
    have hv2 := cell_of_row _ _ 0 _ _ _ hv1
    have hv3 := frozen_of_row _ _ 0 _ _ hv1
    simp only [List.getElem?_toArray, List.getElem?_cons_zero] at hv2
    refine one_ready 7 (by kernel_rfl) rfl (by rfl) (fun K hK => ?_)
    go_simp
    refine hK.out _ _ (HKS.out w' _ hgrow) ?_
    clear hK K
    refine wpAnyH_done (by kernel_rfl) ?_ _
    refine NoPanic.normal ?_
    have HF := Lib.hid (OV.push h0 hv1 HOWN.out HBL.out _ hgrow hown')
    go_wp2_with fail
    go_end0
    exact ⟨rfl, HF.out⟩
  · go_simp
    refine hK.out _ _ HSA.out ?_
    clear hK K
    try simp only [Act.put, List.setIfInBounds_toArray]
    try simp only [List.set_cons_zero, List.set_cons_succ]
    refine one_ready 0 (by kernel_rfl) rfl (by rfl) (fun K hK => ?_)
    go_simp
    refine hK.out _ _ HSA.out ?_
    clear hK K
    try simp only [Act.put, List.setIfInBounds_toArray]
    try simp only [List.set_cons_zero, List.set_cons_succ]
    refine one_ready 6 (by kernel_rfl) rfl (by rfl) (fun K hK => ?_)
    refine wp_append_own _ _ _ 53 rfl (B + 1) 60 i0 (.agg (iC zIt).toArray) 5 56 Tryd.underlying53 hi0 hz0 hz1 hz2 rfl (by decide) _ _ _ rfl (HOWN.out.alloc _) ⟨wd.heap.size, 0, none⟩ 1 1 (iC (y1, y2, y3, y4, y5)) rfl rfl D1.out D2.out D3.out D4.out D5.out ?_
    intro v' w' hown' hgrow _
    obtain ⟨oa', oc', rfl⟩ := own_form' hown'
    refine hK.out _ _ (HKEEP.out w' hgrow) ?_
    clear hK K
    try simp only [Act.put, List.setIfInBounds_toArray]
    try simp only [List.set_cons_zero, List.set_cons_succ]
    have hv1 := HVAR.out w' hgrow
    have hv2 := cell_of_row _ _ 0 _ _ _ hv1
    have hv3 := frozen_of_row _ _ 0 _ _ hv1
    simp only [List.getElem?_toArray, List.getElem?_cons_zero] at hv2
    refine one_ready 7 (by kernel_rfl) rfl (by rfl) (fun K hK => ?_)
    go_simp
    refine hK.out _ _ (HKS.out w' _ hgrow) ?_
    clear hK K
    refine wpAnyH_done (by kernel_rfl) ?_ _
    refine NoPanic.normal ?_
    have HF := Lib.hid (OV.push h0 hv1 HOWN.out HBL.out _ hgrow hown')
    go_wp2_with fail
    go_end0
    exact ⟨rfl, HF.out⟩
set_option maxRecDepth 100000 in
set_option maxHeartbeats 4000000 in
theorem apply1_gone (xv : Value) (p y1 : ByteArray) (y2 y3 y4 : Int) (y5 : ByteArray) (g off : Nat) (w0 w : World) (B : Nat) (l : List It) (hv : IV w0 B l w) (hg : g < w0.heap.size) (hy : w0.rangeAt g off [.string p, .bool true, .string y1, .int .i64 y2, .int .i64 y3, .int .i64 y4, .string y5]) :
    Calls Tryd.prog 85 #[xv, .pointer (some ⟨g, off, none⟩), .pointer (some ⟨B, 0, none⟩)] w fun e w' => e = .returned (.tuple #[]) ∧ IV w0 B l w' := by
  have HV := Lib.hid hv
  obtain ⟨oa, oc, hb, hown, hbl⟩ := hv
  have g1 := below_range hbl hg hy 1 _ rfl
  clear hb hown hbl hy
  go_enter Tryd.func85, Tryd.ntmps85
  go_wp2_with fail
  go_end0
  exact ⟨rfl, HV.out⟩
set_option maxRecDepth 100000 in
set_option maxHeartbeats 4000000 in
theorem join1_left (p : ByteArray) (gone : Bool) (y1 : ByteArray) (y2 y3 y4 : Int) (y5 : ByteArray) (g off : Nat) (w0 w : World) (B : Nat) (l : List Ed) (h0 : w0.heap.size ≤ B) (hv : EV w0 B l w) (hg : g < w0.heap.size) (hy : w0.rangeAt g off [.string p, .bool gone, .string y1, .int .i64 y2, .int .i64 y3, .int .i64 y4, .string y5]) (hl : l.length ≤ 1000) :
    Calls Tryd.prog 65 #[.pointer (some ⟨g, off, none⟩), .pointer none, .pointer (some ⟨B, 0, none⟩)] w fun e w' => e = .returned (.tuple #[]) ∧ EV w0 B (l ++ [(p, gone, (y1, y2, y3, y4, y5))]) w' := by
  obtain ⟨i0, hi0, hz0, hz1, hz2⟩ := info_ed
  have icI : (Tryd.prog.info? 60).map (·.size) = some 5 := by kernel_rfl
  have icE : (Tryd.prog.info? 72).map (·.size) = some 7 := by kernel_rfl
  have huI := Tryd.underlying60
  have huE := Tryd.underlying72
  have HICI := Lib.hid icI
  have HICE := Lib.hid icE
  obtain ⟨oa, oc, hb, hown, hbl⟩ := hv
  have HB := Lib.hid hb
  have HOWN := Lib.hid hown
  have HBL := Lib.hid hbl
  clear hb hown icI icE
  have HY := Lib.hid (below_range hbl hg hy)
  clear hbl
  go_enter Tryd.func65, Tryd.ntmps65
  go_wp2_with fail
  refine wp_region_noPanic ?_
  refine wp_region_held_drew (S := fun w' => w'.rangeAt g off [.string p, .bool gone, .string y1, .int .i64 y2, .int .i64 y3, .int .i64 y4, .string y5]) (by kernel_rfl) HY.out (fun hS0 => ?_)
  have HS0 := Lib.hid hS0
  have HB : Hid (w.drew.heap[B]? = some (.cells #[.slice oa l.length oc] 54 (0, 0))) := HB.out
  have HOWN : Hid (w.drew.ownsRow (B + 1) 72 7 (.slice oa l.length oc) l.length (l.flatMap eC)) := HOWN.out
  have HBL : Hid (Below w0.heap.size w0 w.drew) := HBL.out.drew
  generalize w.drew = wd at *
  have w0' := cell_of_row _ _ 0 _ _ _ HB.out
  simp only [List.getElem?_toArray, List.getElem?_cons_zero] at w0'
  refine take_val 1 (.pointer (some ⟨g, off, none⟩)) rfl (by kernel_rfl) (by kernel_rfl) (by kernel_rfl) (fun _ _ _ _ h => h) (by rfl) rfl (fun w _ => by go_simp) HS0.out ?_
  try simp only [List.set_cons_zero, List.set_cons_succ]
  refine take_val 2 (.pointer (some ⟨g, off, none⟩)) rfl (by kernel_rfl) (by kernel_rfl) (by kernel_rfl) (fun _ _ _ _ h => h) (by rfl) rfl (fun w _ => by go_simp) HS0.out ?_
  try simp only [List.set_cons_zero, List.set_cons_succ]
  refine take_row 3 rfl (by kernel_rfl) (by kernel_rfl) (by kernel_rfl) (fun _ _ _ _ h => h) (by rfl) rfl rfl rfl (fun _ hS => hS) huE rfl HICE.out HS0.out ?_
  try simp only [List.set_cons_zero, List.set_cons_succ]
  have D1 := Lib.hid (cells_new_at wd wd.heap.size rfl #[.string p, .bool gone, .string y1, .int .i64 y2, .int .i64 y3, .int .i64 y4, .string y5] 72 (eC (p, gone, (y1, y2, y3, y4, y5))) rfl)
  have D2 : Hid (∀ u ∈ (eC (p, gone, (y1, y2, y3, y4, y5))), u.oneCell' = true) := fun u hu => eC_one _ u hu
  have D3 : Hid (l.length + 1 ≤ maxLen) := by show _ ≤ _; unfold maxLen; omega
  have D4 : Hid ((l.length + 1) * 80 ≤ 140737488355328) := by show _ ≤ _; omega
  have D5 : Hid (B + 1 ≤ (wd.alloc (.cells #[.string p, .bool gone, .string y1, .int .i64 y2, .int .i64 y3, .int .i64 y4, .string y5] 72)).heap.size) := by show _ ≤ _; rw [World.size_alloc]; have := lt_of_block HB.out; omega
  have hbA : Below wd.heap.size wd (wd.alloc (.cells #[.string p, .bool gone, .string y1, .int .i64 y2, .int .i64 y3, .int .i64 y4, .string y5] 72)) := (Below.refl _ _).alloc (Nat.le_refl _) _
  have hgb := HBL.out.size
  have HSA : Hid ((fun w' => w'.rangeAt g off [.string p, .bool gone, .string y1, .int .i64 y2, .int .i64 y3, .int .i64 y4, .string y5]) (wd.alloc (.cells #[.string p, .bool gone, .string y1, .int .i64 y2, .int .i64 y3, .int .i64 y4, .string y5] 72))) := range_move hS0 (fun j => hbA.cell (p := ⟨g, _, none⟩) (by show g < wd.heap.size; omega))
  have HVA : Hid ((wd.alloc (.cells #[.string p, .bool gone, .string y1, .int .i64 y2, .int .i64 y3, .int .i64 y4, .string y5] 72)).heap[B]? = some (.cells #[.slice oa l.length oc] 54 (0, 0))) := (Below.heap_alloc wd _ B (lt_of_block HB.out)).trans HB.out
  have va := cell_of_row _ _ 0 _ _ _ HVA.out
  simp only [List.getElem?_toArray, List.getElem?_cons_zero] at va
  have HNE : Hid (∀ k, (Value.slice oa l.length oc).ownBlock = some k → B + 1 ≤ k) := fun k hk => (HOWN.out.lt k hk).1
  have HVAR : Hid (∀ w', (wd.alloc (.cells #[.string p, .bool gone, .string y1, .int .i64 y2, .int .i64 y3, .int .i64 y4, .string y5] 72)).grownBy w' (Value.slice oa l.length oc).ownBlock → w'.heap[B]? = some (.cells #[.slice oa l.length oc] 54 (0, 0))) := fun w' hg' => (hg'.block B (lt_of_block HVA.out) (fun e => by have := HNE.out B e.symm; omega)).trans HVA.out
  have HKEEP : Hid (∀ w', (wd.alloc (.cells #[.string p, .bool gone, .string y1, .int .i64 y2, .int .i64 y3, .int .i64 y4, .string y5] 72)).grownBy w' (Value.slice oa l.length oc).ownBlock → (fun w' => w'.rangeAt g off [.string p, .bool gone, .string y1, .int .i64 y2, .int .i64 y3, .int .i64 y4, .string y5]) w') := fun w' hg' => range_move HSA.out (fun j => World.cell?_of_block (hg'.block g (by rw [World.size_alloc]; omega) (fun e => by have := HNE.out g e.symm; omega)))
  have HKS : Hid (∀ w' v, (wd.alloc (.cells #[.string p, .bool gone, .string y1, .int .i64 y2, .int .i64 y3, .int .i64 y4, .string y5] 72)).grownBy w' (Value.slice oa l.length oc).ownBlock → (fun w' => w'.rangeAt g off [.string p, .bool gone, .string y1, .int .i64 y2, .int .i64 y3, .int .i64 y4, .string y5]) (w'.setCell ⟨B, 0, none⟩ v)) := fun w' v hg' => range_move (HKEEP.out w' hg') (fun j => World.cell?_setCell_far w' ⟨B, 0, none⟩ ⟨g, _, none⟩ v (by show B ≠ g; omega))
  clear hbA hgb hS0
  refine two_ready 0 4 (by kernel_rfl) rfl rfl (by rfl) (by rfl) (fun K hK => ?_) (fun K hK => ?_)
  · go_simp
    refine hK.out _ _ HS0.out ?_
    clear hK K
    try simp only [Act.put, List.setIfInBounds_toArray]
    try simp only [List.set_cons_zero, List.set_cons_succ]
    refine one_ready 4 (by kernel_rfl) rfl (by rfl) (fun K hK => ?_)
    go_simp
    refine hK.out _ _ HSA.out ?_
    clear hK K
    try simp only [Act.put, List.setIfInBounds_toArray]
    try simp only [List.set_cons_zero, List.set_cons_succ]
    refine one_ready 5 (by kernel_rfl) rfl (by rfl) (fun K hK => ?_)
    refine wp_append_own _ _ _ 54 rfl (B + 1) 72 i0 (.agg (eC (⟨#[]⟩, false, zIt)).toArray) 7 80 Tryd.underlying54 hi0 hz0 hz1 hz2 rfl (by decide) _ _ _ rfl (HOWN.out.alloc _) ⟨wd.heap.size, 0, none⟩ 1 1 (eC (p, gone, (y1, y2, y3, y4, y5))) rfl rfl D1.out D2.out D3.out D4.out D5.out ?_
    intro v' w' hown' hgrow _
    obtain ⟨oa', oc', rfl⟩ := own_form' hown'
    refine hK.out _ _ (HKEEP.out w' hgrow) ?_
    clear hK K
    try simp only [Act.put, List.setIfInBounds_toArray]
    try simp only [List.set_cons_zero, List.set_cons_succ]
    have hv1 := HVAR.out w' hgrow
    have hv2 := cell_of_row _ _ 0 _ _ _ hv1
    have hv3 := frozen_of_row _ _ 0 _ _ hv1
    simp only [List.getElem?_toArray, List.getElem?_cons_zero] at hv2
    refine one_ready 6 (by kernel_rfl) rfl (by rfl) (fun K hK => ?_)
    go_simp
    refine hK.out _ _ (HKS.out w' _ hgrow) ?_
    clear hK K
    refine wpAnyH_done (by kernel_rfl) ?_ _
    refine NoPanic.normal ?_
    have HF := Lib.hid (OV.push h0 hv1 HOWN.out HBL.out _ hgrow hown')
    go_wp2_with fail
    go_end0
    exact ⟨rfl, HF.out⟩
  · go_simp
    refine hK.out _ _ HSA.out ?_
    clear hK K
    try simp only [Act.put, List.setIfInBounds_toArray]
    try simp only [List.set_cons_zero, List.set_cons_succ]
    refine one_ready 0 (by kernel_rfl) rfl (by rfl) (fun K hK => ?_)
    go_simp
    refine hK.out _ _ HSA.out ?_
    clear hK K
    try simp only [Act.put, List.setIfInBounds_toArray]
    try simp only [List.set_cons_zero, List.set_cons_succ]
    refine one_ready 5 (by kernel_rfl) rfl (by rfl) (fun K hK => ?_)
    refine wp_append_own _ _ _ 54 rfl (B + 1) 72 i0 (.agg (eC (⟨#[]⟩, false, zIt)).toArray) 7 80 Tryd.underlying54 hi0 hz0 hz1 hz2 rfl (by decide) _ _ _ rfl (HOWN.out.alloc _) ⟨wd.heap.size, 0, none⟩ 1 1 (eC (p, gone, (y1, y2, y3, y4, y5))) rfl rfl D1.out D2.out D3.out D4.out D5.out ?_
    intro v' w' hown' hgrow _
    obtain ⟨oa', oc', rfl⟩ := own_form' hown'
    refine hK.out _ _ (HKEEP.out w' hgrow) ?_
    clear hK K
    try simp only [Act.put, List.setIfInBounds_toArray]
    try simp only [List.set_cons_zero, List.set_cons_succ]
    have hv1 := HVAR.out w' hgrow
    have hv2 := cell_of_row _ _ 0 _ _ _ hv1
    have hv3 := frozen_of_row _ _ 0 _ _ hv1
    simp only [List.getElem?_toArray, List.getElem?_cons_zero] at hv2
    refine one_ready 6 (by kernel_rfl) rfl (by rfl) (fun K hK => ?_)
    go_simp
    refine hK.out _ _ (HKS.out w' _ hgrow) ?_
    clear hK K
    refine wpAnyH_done (by kernel_rfl) ?_ _
    refine NoPanic.normal ?_
    have HF := Lib.hid (OV.push h0 hv1 HOWN.out HBL.out _ hgrow hown')
    go_wp2_with fail
    go_end0
    exact ⟨rfl, HF.out⟩
set_option maxRecDepth 100000 in
set_option maxHeartbeats 4000000 in
theorem join1_right (xv : Value) (p : ByteArray) (gone : Bool) (y1 : ByteArray) (y2 y3 y4 : Int) (y5 : ByteArray) (g off : Nat) (w0 w : World) (B : Nat) (l : List Ed) (h0 : w0.heap.size ≤ B) (hv : EV w0 B l w) (hg : g < w0.heap.size) (hy : w0.rangeAt g off [.string p, .bool gone, .string y1, .int .i64 y2, .int .i64 y3, .int .i64 y4, .string y5]) (hl : l.length ≤ 1000) :
    Calls Tryd.prog 65 #[xv, .pointer (some ⟨g, off, none⟩), .pointer (some ⟨B, 0, none⟩)] w fun e w' => e = .returned (.tuple #[]) ∧ EV w0 B (l ++ [(p, gone, (y1, y2, y3, y4, y5))]) w' := by
  obtain ⟨i0, hi0, hz0, hz1, hz2⟩ := info_ed
  have icI : (Tryd.prog.info? 60).map (·.size) = some 5 := by kernel_rfl
  have icE : (Tryd.prog.info? 72).map (·.size) = some 7 := by kernel_rfl
  have huI := Tryd.underlying60
  have huE := Tryd.underlying72
  have HICI := Lib.hid icI
  have HICE := Lib.hid icE
  obtain ⟨oa, oc, hb, hown, hbl⟩ := hv
  have HB := Lib.hid hb
  have HOWN := Lib.hid hown
  have HBL := Lib.hid hbl
  clear hb hown icI icE
  have HY := Lib.hid (below_range hbl hg hy)
  clear hbl
  go_enter Tryd.func65, Tryd.ntmps65
  go_wp2_with fail
  refine wp_region_noPanic ?_
  refine wp_region_held_drew (S := fun w' => w'.rangeAt g off [.string p, .bool gone, .string y1, .int .i64 y2, .int .i64 y3, .int .i64 y4, .string y5]) (by kernel_rfl) HY.out (fun hS0 => ?_)
  have HS0 := Lib.hid hS0
  have HB : Hid (w.drew.heap[B]? = some (.cells #[.slice oa l.length oc] 54 (0, 0))) := HB.out
  have HOWN : Hid (w.drew.ownsRow (B + 1) 72 7 (.slice oa l.length oc) l.length (l.flatMap eC)) := HOWN.out
  have HBL : Hid (Below w0.heap.size w0 w.drew) := HBL.out.drew
  generalize w.drew = wd at *
  have w0' := cell_of_row _ _ 0 _ _ _ HB.out
  simp only [List.getElem?_toArray, List.getElem?_cons_zero] at w0'
  refine take_val 1 (.pointer (some ⟨g, off, none⟩)) rfl (by kernel_rfl) (by kernel_rfl) (by kernel_rfl) (fun _ _ _ _ h => h) (by rfl) rfl (fun w _ => by go_simp) HS0.out ?_
  try simp only [List.set_cons_zero, List.set_cons_succ]
  refine take_val 2 (.pointer (some ⟨g, off, none⟩)) rfl (by kernel_rfl) (by kernel_rfl) (by kernel_rfl) (fun _ _ _ _ h => h) (by rfl) rfl (fun w _ => by go_simp) HS0.out ?_
  try simp only [List.set_cons_zero, List.set_cons_succ]
  refine take_row 3 rfl (by kernel_rfl) (by kernel_rfl) (by kernel_rfl) (fun _ _ _ _ h => h) (by rfl) rfl rfl rfl (fun _ hS => hS) huE rfl HICE.out HS0.out ?_
  try simp only [List.set_cons_zero, List.set_cons_succ]
  have D1 := Lib.hid (cells_new_at wd wd.heap.size rfl #[.string p, .bool gone, .string y1, .int .i64 y2, .int .i64 y3, .int .i64 y4, .string y5] 72 (eC (p, gone, (y1, y2, y3, y4, y5))) rfl)
  have D2 : Hid (∀ u ∈ (eC (p, gone, (y1, y2, y3, y4, y5))), u.oneCell' = true) := fun u hu => eC_one _ u hu
  have D3 : Hid (l.length + 1 ≤ maxLen) := by show _ ≤ _; unfold maxLen; omega
  have D4 : Hid ((l.length + 1) * 80 ≤ 140737488355328) := by show _ ≤ _; omega
  have D5 : Hid (B + 1 ≤ (wd.alloc (.cells #[.string p, .bool gone, .string y1, .int .i64 y2, .int .i64 y3, .int .i64 y4, .string y5] 72)).heap.size) := by show _ ≤ _; rw [World.size_alloc]; have := lt_of_block HB.out; omega
  have hbA : Below wd.heap.size wd (wd.alloc (.cells #[.string p, .bool gone, .string y1, .int .i64 y2, .int .i64 y3, .int .i64 y4, .string y5] 72)) := (Below.refl _ _).alloc (Nat.le_refl _) _
  have hgb := HBL.out.size
  have HSA : Hid ((fun w' => w'.rangeAt g off [.string p, .bool gone, .string y1, .int .i64 y2, .int .i64 y3, .int .i64 y4, .string y5]) (wd.alloc (.cells #[.string p, .bool gone, .string y1, .int .i64 y2, .int .i64 y3, .int .i64 y4, .string y5] 72))) := range_move hS0 (fun j => hbA.cell (p := ⟨g, _, none⟩) (by show g < wd.heap.size; omega))
  have HVA : Hid ((wd.alloc (.cells #[.string p, .bool gone, .string y1, .int .i64 y2, .int .i64 y3, .int .i64 y4, .string y5] 72)).heap[B]? = some (.cells #[.slice oa l.length oc] 54 (0, 0))) := (Below.heap_alloc wd _ B (lt_of_block HB.out)).trans HB.out
  have va := cell_of_row _ _ 0 _ _ _ HVA.out
  simp only [List.getElem?_toArray, List.getElem?_cons_zero] at va
  have HNE : Hid (∀ k, (Value.slice oa l.length oc).ownBlock = some k → B + 1 ≤ k) := fun k hk => (HOWN.out.lt k hk).1
  have HVAR : Hid (∀ w', (wd.alloc (.cells #[.string p, .bool gone, .string y1, .int .i64 y2, .int .i64 y3, .int .i64 y4, .string y5] 72)).grownBy w' (Value.slice oa l.length oc).ownBlock → w'.heap[B]? = some (.cells #[.slice oa l.length oc] 54 (0, 0))) := fun w' hg' => (hg'.block B (lt_of_block HVA.out) (fun e => by have := HNE.out B e.symm; omega)).trans HVA.out
  have HKEEP : Hid (∀ w', (wd.alloc (.cells #[.string p, .bool gone, .string y1, .int .i64 y2, .int .i64 y3, .int .i64 y4, .string y5] 72)).grownBy w' (Value.slice oa l.length oc).ownBlock → (fun w' => w'.rangeAt g off [.string p, .bool gone, .string y1, .int .i64 y2, .int .i64 y3, .int .i64 y4, .string y5]) w') := fun w' hg' => range_move HSA.out (fun j => World.cell?_of_block (hg'.block g (by rw [World.size_alloc]; omega) (fun e => by have := HNE.out g e.symm; omega)))
  have HKS : Hid (∀ w' v, (wd.alloc (.cells #[.string p, .bool gone, .string y1, .int .i64 y2, .int .i64 y3, .int .i64 y4, .string y5] 72)).grownBy w' (Value.slice oa l.length oc).ownBlock → (fun w' => w'.rangeAt g off [.string p, .bool gone, .string y1, .int .i64 y2, .int .i64 y3, .int .i64 y4, .string y5]) (w'.setCell ⟨B, 0, none⟩ v)) := fun w' v hg' => range_move (HKEEP.out w' hg') (fun j => World.cell?_setCell_far w' ⟨B, 0, none⟩ ⟨g, _, none⟩ v (by show B ≠ g; omega))
  clear hbA hgb hS0
  refine two_ready 0 4 (by kernel_rfl) rfl rfl (by rfl) (by rfl) (fun K hK => ?_) (fun K hK => ?_)
  · go_simp
    refine hK.out _ _ HS0.out ?_
    clear hK K
    try simp only [Act.put, List.setIfInBounds_toArray]
    try simp only [List.set_cons_zero, List.set_cons_succ]
    refine one_ready 4 (by kernel_rfl) rfl (by rfl) (fun K hK => ?_)
    go_simp
    refine hK.out _ _ HSA.out ?_
    clear hK K
    try simp only [Act.put, List.setIfInBounds_toArray]
    try simp only [List.set_cons_zero, List.set_cons_succ]
    refine one_ready 5 (by kernel_rfl) rfl (by rfl) (fun K hK => ?_)
    refine wp_append_own _ _ _ 54 rfl (B + 1) 72 i0 (.agg (eC (⟨#[]⟩, false, zIt)).toArray) 7 80 Tryd.underlying54 hi0 hz0 hz1 hz2 rfl (by decide) _ _ _ rfl (HOWN.out.alloc _) ⟨wd.heap.size, 0, none⟩ 1 1 (eC (p, gone, (y1, y2, y3, y4, y5))) rfl rfl D1.out D2.out D3.out D4.out D5.out ?_
    intro v' w' hown' hgrow _
    obtain ⟨oa', oc', rfl⟩ := own_form' hown'
    refine hK.out _ _ (HKEEP.out w' hgrow) ?_
    clear hK K
    try simp only [Act.put, List.setIfInBounds_toArray]
    try simp only [List.set_cons_zero, List.set_cons_succ]
    have hv1 := HVAR.out w' hgrow
    have hv2 := cell_of_row _ _ 0 _ _ _ hv1
    have hv3 := frozen_of_row _ _ 0 _ _ hv1
    simp only [List.getElem?_toArray, List.getElem?_cons_zero] at hv2
    refine one_ready 6 (by kernel_rfl) rfl (by rfl) (fun K hK => ?_)
    go_simp
    refine hK.out _ _ (HKS.out w' _ hgrow) ?_
    clear hK K
    refine wpAnyH_done (by kernel_rfl) ?_ _
    refine NoPanic.normal ?_
    have HF := Lib.hid (OV.push h0 hv1 HOWN.out HBL.out _ hgrow hown')
    go_wp2_with fail
    go_end0
    exact ⟨rfl, HF.out⟩
  · go_simp
    refine hK.out _ _ HSA.out ?_
    clear hK K
    try simp only [Act.put, List.setIfInBounds_toArray]
    try simp only [List.set_cons_zero, List.set_cons_succ]
    refine one_ready 0 (by kernel_rfl) rfl (by rfl) (fun K hK => ?_)
    go_simp
    refine hK.out _ _ HSA.out ?_
    clear hK K
    try simp only [Act.put, List.setIfInBounds_toArray]
    try simp only [List.set_cons_zero, List.set_cons_succ]
    refine one_ready 5 (by kernel_rfl) rfl (by rfl) (fun K hK => ?_)
    refine wp_append_own _ _ _ 54 rfl (B + 1) 72 i0 (.agg (eC (⟨#[]⟩, false, zIt)).toArray) 7 80 Tryd.underlying54 hi0 hz0 hz1 hz2 rfl (by decide) _ _ _ rfl (HOWN.out.alloc _) ⟨wd.heap.size, 0, none⟩ 1 1 (eC (p, gone, (y1, y2, y3, y4, y5))) rfl rfl D1.out D2.out D3.out D4.out D5.out ?_
    intro v' w' hown' hgrow _
    obtain ⟨oa', oc', rfl⟩ := own_form' hown'
    refine hK.out _ _ (HKEEP.out w' hgrow) ?_
    clear hK K
    try simp only [Act.put, List.setIfInBounds_toArray]
    try simp only [List.set_cons_zero, List.set_cons_succ]
    have hv1 := HVAR.out w' hgrow
    have hv2 := cell_of_row _ _ 0 _ _ _ hv1
    have hv3 := frozen_of_row _ _ 0 _ _ hv1
    simp only [List.getElem?_toArray, List.getElem?_cons_zero] at hv2
    refine one_ready 6 (by kernel_rfl) rfl (by rfl) (fun K hK => ?_)
    go_simp
    refine hK.out _ _ (HKS.out w' _ hgrow) ?_
    clear hK K
    refine wpAnyH_done (by kernel_rfl) ?_ _
    refine NoPanic.normal ?_
    have HF := Lib.hid (OV.push h0 hv1 HOWN.out HBL.out _ hgrow hown')
    go_wp2_with fail
    go_end0
    exact ⟨rfl, HF.out⟩
end Go.Proofs.YtokckcmkbnhhhaaDoor
