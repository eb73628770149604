/- Joined: DeltaClos, DeltaClos2, DeltaClos3. -/
import Derived.Test.YtbfoonfbhebhfaaGreatDoorKGnG
import Derived.Test.YtbfoonfbhebhfaaGreatDoorKGnJ
import Derived.Test.YtbfoonfbhebhfaaGreatDoorKGnP
import Derived.Test.YtbfoonfbhebhfaaGreatDoorKGnU
namespace Go.Proofs.YtbfoonfbhebhfaaGreatDoor
open Go.RowKit Plain
def OV {α : Type} (c : α → List Value) (n : Nat) (sl el : TypeId) (w0 : World) (B : Nat) (l : List α) (w : World) : Prop :=
 ∃ (oa : Option Addr) (oc : Nat), w.heap[B]? = some (.cells #[.slice oa l.length oc] sl (0, 0)) ∧ w.ownsRow (B + 1) el n (.slice oa l.length oc) l.length (l.flatMap c) ∧ Below w0.heap.size w0 w
def PtrAt {α : Type} (c : α → List Value) (w0 : World) (v : Value) : Option α → Prop
 | none => v = .pointer none
 | some x => ∃ g off, v = .pointer (some ⟨g, off, none⟩) ∧ g < w0.heap.size ∧ w0.rangeAt g off (c x)
theorem below_range {w0 w : World} (hb : Below w0.heap.size w0 w) {g off : Nat} {cs : List Value} (hg : g < w0.heap.size) (h : w0.rangeAt g off cs) : w.rangeAt g off cs := fun j u hu => (hb.cell (p := ⟨g, off + j, none⟩) hg).trans (h j u hu)
theorem OV.push {α : Type} {c : α → List Value} {n : Nat} {sl el : TypeId} {w0 w w' : World} {B : Nat} {l : List α} {x : α} {oa oa' : Option Addr} {oc oc' : Nat} (h0 : w0.heap.size ≤ B) (hB' : w'.heap[B]? = some (.cells #[.slice oa l.length oc] sl (0, 0))) (h2 : w.ownsRow (B + 1) el n (.slice oa l.length oc) l.length (l.flatMap c)) (h3 : Below w0.heap.size w0 w) (o : Obj)
  (hg : (w.alloc o).grownBy w' (Value.slice oa l.length oc).ownBlock) (hw : w'.ownsRow (B + 1) el n (.slice oa' (l.length + 1) oc') (l.length + 1) (l.flatMap c ++ c x)) :
  OV c n sl el w0 B (l ++ [x]) (w'.setCell ⟨B, 0, none⟩ (.slice oa' (l.length + 1) oc')) := by
 have hne : ∀ k, (Value.slice oa l.length oc).ownBlock = some k → B + 1 ≤ k := fun k hk => (h2.lt k hk).1
 have hbl : Below w0.heap.size w0 w' := (h3.alloc (h3.size) o).grown hg (by simp; have := h3.size; omega) (fun k hk => by have := hne k hk; omega)
 refine ⟨oa', oc', ?_, ?_, ?_⟩
 ·
  rw [List.length_append, List.length_singleton]
  exact one_setCell hB'
 ·
  rw [List.length_append, List.length_singleton, List.flatMap_append]
  simp only [List.flatMap_cons, List.flatMap_nil, List.append_nil]
  exact ownsRow_setCell_other hw (fun e => by have := (hw.lt B e).1; omega) _
 ·
  exact hbl.setCell h0 _
theorem info_ed : ∃ i, Tryz.prog.info? 65 = some i ∧ i.zero = some (.agg (eC (⟨#[]⟩, false, zIt)).toArray) ∧ i.size = 7 ∧ i.bytes = 80 := info_parts (by kernel_rfl)
theorem info_it : ∃ i, Tryz.prog.info? 40 = some i ∧ i.zero = some (.agg (iC zIt).toArray) ∧ i.size = 5 ∧ i.bytes = 56 := info_parts (by kernel_rfl)
abbrev EV (w0 : World) (B : Nat) (l : List Ed) (w : World) : Prop := OV eC 7 61 65 w0 B l w
abbrev IV (w0 : World) (B : Nat) (l : List It) (w : World) : Prop := OV iC 5 26 40 w0 B l w
set_option maxRecDepth 100000 in
set_option maxHeartbeats 2000000 in
theorem diff1_gone (x : It) (g off : Nat) (w0 w : World) (B : Nat) (l : List Ed) (h0 : w0.heap.size ≤ B) (hv : EV w0 B l w) (hg : g < w0.heap.size) (hx : w0.rangeAt g off (iC x)) (hl : l.length ≤ 1000) :
  Calls Tryz.prog 67 #[.pointer (some ⟨g, off, none⟩), .pointer none, .pointer (some ⟨B, 0, none⟩)] w fun e w' => e = .returned (.tuple #[]) ∧ EV w0 B (l ++ [(x.1, true, zIt)]) w' := by
 obtain ⟨i0, hi0, hz0, hz1, hz2⟩ := info_ed
 obtain ⟨oa, oc, hb, hown, hbl⟩ := hv
 have x0 : w.drew.cell? ⟨g, off, none⟩ = some (.string x.1) := by
  have h := (below_range hbl hg hx) 0 _ rfl
  exact h
 have HB : Hid (w.drew.heap[B]? = some (.cells #[.slice oa l.length oc] 61 (0, 0))) := hb
 have HOWN : Hid (w.drew.ownsRow (B + 1) 65 7 (.slice oa l.length oc) l.length (l.flatMap eC)) := hown
 have HBL : Hid (Below w0.heap.size w0 w.drew) := hbl.drew
 clear hb hown hbl hx
 go_enter Tryz.func67, Tryz.ntmps67
 go_wp2_with fail
 refine wp_region_noPanic ?_
 refine wp_region_held_drew (S := fun w' => w'.cell? ⟨g, off, none⟩ = some (.string x.1)) (by kernel_rfl) x0 (fun hS0 => ?_)
 have HS0 := Lib.hid hS0
 generalize w.drew = wd at *
 have w0' := cell_of_row _ _ 0 _ _ _ HB.out
 simp only [List.getElem?_toArray, List.getElem?_cons_zero] at w0'
 refine take_val 1 (.pointer (some ⟨g, off, none⟩)) rfl (by kernel_rfl) (by kernel_rfl) (by kernel_rfl) (fun _ _ _ _ h => h) (by rfl) rfl (fun w _ => by go_simp) HS0.out ?_
 try simp only [List.set_cons_zero, List.set_cons_succ]
 refine take_val 2 (.pointer (some ⟨g, off, none⟩)) rfl (by kernel_rfl) (by kernel_rfl) (by kernel_rfl) (fun _ _ _ _ h => h) (by rfl) rfl (fun w _ => by go_simp) HS0.out ?_
 try simp only [List.set_cons_zero, List.set_cons_succ]
 refine take_val 3 (.pointer (some ⟨g, off, none⟩)) rfl (by kernel_rfl) (by kernel_rfl) (by kernel_rfl) (fun _ _ _ _ h => h) (by rfl) rfl (fun w _ => by go_simp) HS0.out ?_
 try simp only [List.set_cons_zero, List.set_cons_succ]
 refine take_val 4 (.string x.1) rfl (by kernel_rfl) (by kernel_rfl) (by kernel_rfl) (fun _ _ _ _ h => h) (by rfl) rfl (fun w hS => by go_simp) HS0.out ?_
 try simp only [List.set_cons_zero, List.set_cons_succ]
 refine take_val 5 (.agg #[.string x.1, .bool true, .string ⟨#[]⟩, .int .i64 0, .int .i64 0, .int .i64 0, .string ⟨#[]⟩]) rfl (by kernel_rfl) (by kernel_rfl) (by kernel_rfl) (fun _ _ _ _ h => h) (by rfl) rfl (fun w hS => by go_simp) HS0.out ?_
 try simp only [List.set_cons_zero, List.set_cons_succ]
 have D1 := Lib.hid (cells_new_at wd wd.heap.size rfl #[.string x.1, .bool true, .string ⟨#[]⟩, .int .i64 0, .int .i64 0, .int .i64 0, .string ⟨#[]⟩] 65 (eC (x.1, true, zIt)) rfl)
 have D2 : Hid (∀ u ∈ eC (x.1, true, zIt), u.oneCell' = true) := fun u hu => eC_one _ u hu
 have D3 : Hid (l.length + 1 ≤ maxLen) := by show _ ≤ _; unfold maxLen; omega
 have D4 : Hid ((l.length + 1) * 80 ≤ 140737488355328) := by show _ ≤ _; omega
 have D5 : Hid (B + 1 ≤ (wd.alloc (.cells #[.string x.1, .bool true, .string ⟨#[]⟩, .int .i64 0, .int .i64 0, .int .i64 0, .string ⟨#[]⟩] 65)).heap.size) := by show _ ≤ _; rw [World.size_alloc]; have := lt_of_block HB.out; omega
 have hAL : ∀ B', B' < wd.heap.size → (wd.alloc (.cells #[.string x.1, .bool true, .string ⟨#[]⟩, .int .i64 0, .int .i64 0, .int .i64 0, .string ⟨#[]⟩] 65)).heap[B']? = wd.heap[B']? := fun B' h => Below.heap_alloc wd _ B' h
 have HSA : Hid ((wd.alloc (.cells #[.string x.1, .bool true, .string ⟨#[]⟩, .int .i64 0, .int .i64 0, .int .i64 0, .string ⟨#[]⟩] 65)).cell? ⟨g, off, none⟩ = some (.string x.1)) := (((Below.refl wd.heap.size wd).alloc (Nat.le_refl _) _).cell (by show g < wd.heap.size; exact Nat.lt_of_lt_of_le hg HBL.out.size)).trans HS0.out
 have HVA : Hid ((wd.alloc (.cells #[.string x.1, .bool true, .string ⟨#[]⟩, .int .i64 0, .int .i64 0, .int .i64 0, .string ⟨#[]⟩] 65)).heap[B]? = some (.cells #[.slice oa l.length oc] 61 (0, 0))) := (hAL B (lt_of_block HB.out)).trans HB.out
 have va := cell_of_row _ _ 0 _ _ _ HVA.out
 simp only [List.getElem?_toArray, List.getElem?_cons_zero] at va
 have HNE : Hid (∀ k, (Value.slice oa l.length oc).ownBlock = some k → B + 1 ≤ k) := fun k hk => (HOWN.out.lt k hk).1
 have HVAR : Hid (∀ w', (wd.alloc (.cells #[.string x.1, .bool true, .string ⟨#[]⟩, .int .i64 0, .int .i64 0, .int .i64 0, .string ⟨#[]⟩] 65)).grownBy w' (Value.slice oa l.length oc).ownBlock → w'.heap[B]? = some (.cells #[.slice oa l.length oc] 61 (0, 0))) := fun w' hg' => (hg'.block B (lt_of_block HVA.out) (fun e => by have := HNE.out B e.symm; omega)).trans HVA.out
 have HKEEP : Hid (∀ w', (wd.alloc (.cells #[.string x.1, .bool true, .string ⟨#[]⟩, .int .i64 0, .int .i64 0, .int .i64 0, .string ⟨#[]⟩] 65)).grownBy w' (Value.slice oa l.length oc).ownBlock → w'.cell? ⟨g, off, none⟩ = some (.string x.1)) := fun w' hg' => by
  have hgb := HBL.out.size
  have e : w'.heap[g]? = (wd.alloc (.cells #[.string x.1, .bool true, .string ⟨#[]⟩, .int .i64 0, .int .i64 0, .int .i64 0, .string ⟨#[]⟩] 65)).heap[g]? := hg'.block g (by rw [World.size_alloc]; omega) (fun e => by have := HNE.out g e.symm; omega)
  exact (World.cell?_of_block e).trans HSA.out
 have HKS : Hid (∀ w' v, (wd.alloc (.cells #[.string x.1, .bool true, .string ⟨#[]⟩, .int .i64 0, .int .i64 0, .int .i64 0, .string ⟨#[]⟩] 65)).grownBy w' (Value.slice oa l.length oc).ownBlock → (w'.setCell ⟨B, 0, none⟩ v).cell? ⟨g, off, none⟩ = some (.string x.1)) := fun w' v hg' => by
  have hgb := HBL.out.size
  exact (World.cell?_setCell_far w' ⟨B, 0, none⟩ ⟨g, off, none⟩ v (by show B ≠ g; omega)).trans (HKEEP.out w' hg')
 refine two_ready 0 6 (by kernel_rfl) rfl rfl (by rfl) (by rfl) (fun K hK => ?_) (fun K hK => ?_)
 ·
  go_simp
  refine hK.out _ _ HS0.out ?_
  clear hK K
  try simp only [Act.put, List.setIfInBounds_toArray, List.set_cons_zero, List.set_cons_succ]
  refine one_ready 6 (by kernel_rfl) rfl (by rfl) (fun K hK => ?_)
  go_simp
  refine hK.out _ _ HSA.out ?_
  clear hK K
  try simp only [Act.put, List.setIfInBounds_toArray, List.set_cons_zero, List.set_cons_succ]
  refine one_ready 7 (by kernel_rfl) rfl (by rfl) (fun K hK => ?_)
  refine wp_append_own _ _ _ 61 rfl (B + 1) 65 i0 (.agg (eC (⟨#[]⟩, false, zIt)).toArray) 7 80 Tryz.underlying61 hi0 hz0 hz1 hz2 rfl (by decide) _ _ _ rfl (HOWN.out.alloc _) ⟨wd.heap.size, 0, none⟩ 1 1 (eC (x.1, true, zIt)) rfl rfl D1.out D2.out D3.out D4.out D5.out ?_
  intro v' w' hown' hgrow _
  obtain ⟨oa', oc', rfl⟩ := own_form' hown'
  refine hK.out _ _ (HKEEP.out w' hgrow) ?_
  clear hK K
  try simp only [Act.put, List.setIfInBounds_toArray]
  try simp only [List.set_cons_zero, List.set_cons_succ]
  have hv1 := HVAR.out w' hgrow
  have hv2 := cell_of_row _ _ 0 _ _ _ hv1
  have hv3 := frozen_of_row _ _ 0 _ _ hv1
  simp only [List.getElem?_toArray, List.getElem?_cons_zero] at hv2
  refine one_ready 8 (by kernel_rfl) rfl (by rfl) (fun K hK => ?_)
  go_simp
  refine hK.out _ _ (HKS.out w' _ hgrow) ?_
  clear hK K
  refine wpAnyH_done (by kernel_rfl) ?_ _
  refine NoPanic.normal ?_
  have HF := Lib.hid (OV.push h0 hv1 HOWN.out HBL.out _ hgrow hown')
  go_wp2_with fail
  go_end0
  exact ⟨rfl, HF.out⟩
 ·
  go_simp
  refine hK.out _ _ HSA.out ?_
  clear hK K
  try simp only [Act.put, List.setIfInBounds_toArray, List.set_cons_zero, List.set_cons_succ]
  refine one_ready 0 (by kernel_rfl) rfl (by rfl) (fun K hK => ?_)
  go_simp
  refine hK.out _ _ HSA.out ?_
  clear hK K
  try simp only [Act.put, List.setIfInBounds_toArray, List.set_cons_zero, List.set_cons_succ]
  refine one_ready 7 (by kernel_rfl) rfl (by rfl) (fun K hK => ?_)
  refine wp_append_own _ _ _ 61 rfl (B + 1) 65 i0 (.agg (eC (⟨#[]⟩, false, zIt)).toArray) 7 80 Tryz.underlying61 hi0 hz0 hz1 hz2 rfl (by decide) _ _ _ rfl (HOWN.out.alloc _) ⟨wd.heap.size, 0, none⟩ 1 1 (eC (x.1, true, zIt)) rfl rfl D1.out D2.out D3.out D4.out D5.out ?_
  intro v' w' hown' hgrow _
  obtain ⟨oa', oc', rfl⟩ := own_form' hown'
  refine hK.out _ _ (HKEEP.out w' hgrow) ?_
  clear hK K
  try simp only [Act.put, List.setIfInBounds_toArray]
  try simp only [List.set_cons_zero, List.set_cons_succ]
  have hv1 := HVAR.out w' hgrow
  have hv2 := cell_of_row _ _ 0 _ _ _ hv1
  have hv3 := frozen_of_row _ _ 0 _ _ hv1
  simp only [List.getElem?_toArray, List.getElem?_cons_zero] at hv2
  refine one_ready 8 (by kernel_rfl) rfl (by rfl) (fun K hK => ?_)
  go_simp
  refine hK.out _ _ (HKS.out w' _ hgrow) ?_
  clear hK K
  refine wpAnyH_done (by kernel_rfl) ?_ _
  refine NoPanic.normal ?_
  have HF := Lib.hid (OV.push h0 hv1 HOWN.out HBL.out _ hgrow hown')
  go_wp2_with fail
  go_end0
  exact ⟨rfl, HF.out⟩
end Go.Proofs.YtbfoonfbhebhfaaGreatDoor
namespace Go.Proofs.YtbfoonfbhebhfaaGreatDoor
open Go.RowKit Plain
theorem range_move {w w' : World} {g off : Nat} {cs : List Value} (h : w.rangeAt g off cs) (e : ∀ j, w'.cell? ⟨g, off + j, none⟩ = w.cell? ⟨g, off + j, none⟩) : w'.rangeAt g off cs := fun j u hu => (e j).trans (h j u hu)
set_option maxRecDepth 100000 in
set_option maxHeartbeats 4000000 in
theorem diff1_new (y1 : ByteArray) (y2 y3 y4 : Int) (y5 : ByteArray) (g off : Nat) (w0 w : World) (B : Nat) (l : List Ed) (h0 : w0.heap.size ≤ B) (hv : EV w0 B l w) (hg : g < w0.heap.size) (hy : w0.rangeAt g off [.string y1, .int .i64 y2, .int .i64 y3, .int .i64 y4, .string y5]) (hl : l.length ≤ 1000) :
  Calls Tryz.prog 67 #[.pointer none, .pointer (some ⟨g, off, none⟩), .pointer (some ⟨B, 0, none⟩)] w fun e w' => e = .returned (.tuple #[]) ∧ EV w0 B (l ++ [(y1, false, (y1, y2, y3, y4, y5))]) w' := by
 obtain ⟨i0, hi0, hz0, hz1, hz2⟩ := info_ed
 have icI : (Tryz.prog.info? 40).map (·.size) = some 5 := by kernel_rfl
 have icE : (Tryz.prog.info? 65).map (·.size) = some 7 := by kernel_rfl
 have huI := Tryz.underlying40
 have huE := Tryz.underlying65
 have HICI := Lib.hid icI
 have HICE := Lib.hid icE
 obtain ⟨oa, oc, hb, hown, hbl⟩ := hv
 have HB := Lib.hid hb
 have HOWN := Lib.hid hown
 have HBL := Lib.hid hbl
 clear hb hown icI icE
 have HY := Lib.hid (below_range hbl hg hy)
 clear hbl
 go_enter Tryz.func67, Tryz.ntmps67
 go_wp2_with fail
 go_region
 go_wp2_with fail
 refine wp_region_noPanic ?_
 refine wp_region_held_drew (S := fun w' => w'.rangeAt g off [.string y1, .int .i64 y2, .int .i64 y3, .int .i64 y4, .string y5]) (by kernel_rfl) HY.out (fun hS0 => ?_)
 have HS0 := Lib.hid hS0
 have HB : Hid (w.drew.drew.heap[B]? = some (.cells #[.slice oa l.length oc] 61 (0, 0))) := HB.out
 have HOWN : Hid (w.drew.drew.ownsRow (B + 1) 65 7 (.slice oa l.length oc) l.length (l.flatMap eC)) := HOWN.out
 have HBL : Hid (Below w0.heap.size w0 w.drew.drew) := HBL.out.drew.drew
 generalize w.drew.drew = wd at *
 have w0' := cell_of_row _ _ 0 _ _ _ HB.out
 simp only [List.getElem?_toArray, List.getElem?_cons_zero] at w0'
 refine take_val 1 (.pointer (some ⟨g, off, none⟩)) rfl (by kernel_rfl) (by kernel_rfl) (by kernel_rfl) (fun _ _ _ _ h => h) (by rfl) rfl (fun w _ => by go_simp) HS0.out ?_
 try simp only [List.set_cons_zero, List.set_cons_succ]
 refine take_val 2 (.pointer (some ⟨g, off, none⟩)) rfl (by kernel_rfl) (by kernel_rfl) (by kernel_rfl) (fun _ _ _ _ h => h) (by rfl) rfl (fun w _ => by go_simp) HS0.out ?_
 try simp only [List.set_cons_zero, List.set_cons_succ]
 refine take_val 3 (.pointer (some ⟨g, off, none⟩)) rfl (by kernel_rfl) (by kernel_rfl) (by kernel_rfl) (fun _ _ _ _ h => h) (by rfl) rfl (fun w _ => by go_simp) HS0.out ?_
 try simp only [List.set_cons_zero, List.set_cons_succ]
 refine take_val 4 (.string y1) rfl (by kernel_rfl) (by kernel_rfl) (by kernel_rfl) (fun _ _ _ _ h => h) (by rfl) rfl (fun w hS => by have := hS 0 _ rfl; simp only [Nat.add_zero] at this; go_simp) HS0.out ?_
 try simp only [List.set_cons_zero, List.set_cons_succ]
 refine take_val 5 (.pointer (some ⟨g, off, none⟩)) rfl (by kernel_rfl) (by kernel_rfl) (by kernel_rfl) (fun _ _ _ _ h => h) (by rfl) rfl (fun w _ => by go_simp) HS0.out ?_
 try simp only [List.set_cons_zero, List.set_cons_succ]
 refine take_val 6 (.pointer (some ⟨g, off, none⟩)) rfl (by kernel_rfl) (by kernel_rfl) (by kernel_rfl) (fun _ _ _ _ h => h) (by rfl) rfl (fun w _ => by go_simp) HS0.out ?_
 try simp only [List.set_cons_zero, List.set_cons_succ]
 refine take_row 7 rfl (by kernel_rfl) (by kernel_rfl) (by kernel_rfl) (fun _ _ _ _ h => h) (by rfl) rfl rfl rfl (fun _ hS => hS) huI rfl HICI.out HS0.out ?_
 try simp only [List.set_cons_zero, List.set_cons_succ]
 refine take_val 8 (.agg #[.string y1, .bool false, .string y1, .int .i64 y2, .int .i64 y3, .int .i64 y4, .string y5]) rfl (by kernel_rfl) (by kernel_rfl) (by kernel_rfl) (fun _ _ _ _ h => h) (by rfl) rfl (fun w _ => by go_simp) HS0.out ?_
 try simp only [List.set_cons_zero, List.set_cons_succ]
 have D1 := Lib.hid (cells_new_at wd wd.heap.size rfl #[.string y1, .bool false, .string y1, .int .i64 y2, .int .i64 y3, .int .i64 y4, .string y5] 65 (eC (y1, false, (y1, y2, y3, y4, y5))) rfl)
 have D2 : Hid (∀ u ∈ (eC (y1, false, (y1, y2, y3, y4, y5))), u.oneCell' = true) := fun u hu => eC_one _ u hu
 have D3 : Hid (l.length + 1 ≤ maxLen) := by show _ ≤ _; unfold maxLen; omega
 have D4 : Hid ((l.length + 1) * 80 ≤ 140737488355328) := by show _ ≤ _; omega
 have D5 : Hid (B + 1 ≤ (wd.alloc (.cells #[.string y1, .bool false, .string y1, .int .i64 y2, .int .i64 y3, .int .i64 y4, .string y5] 65)).heap.size) := by show _ ≤ _; rw [World.size_alloc]; have := lt_of_block HB.out; omega
 have hbA : Below wd.heap.size wd (wd.alloc (.cells #[.string y1, .bool false, .string y1, .int .i64 y2, .int .i64 y3, .int .i64 y4, .string y5] 65)) := (Below.refl _ _).alloc (Nat.le_refl _) _
 have hgb := HBL.out.size
 have HSA : Hid ((fun w' => w'.rangeAt g off [.string y1, .int .i64 y2, .int .i64 y3, .int .i64 y4, .string y5]) (wd.alloc (.cells #[.string y1, .bool false, .string y1, .int .i64 y2, .int .i64 y3, .int .i64 y4, .string y5] 65))) := range_move hS0 (fun j => hbA.cell (p := ⟨g, _, none⟩) (by show g < wd.heap.size; omega))
 have HVA : Hid ((wd.alloc (.cells #[.string y1, .bool false, .string y1, .int .i64 y2, .int .i64 y3, .int .i64 y4, .string y5] 65)).heap[B]? = some (.cells #[.slice oa l.length oc] 61 (0, 0))) := (Below.heap_alloc wd _ B (lt_of_block HB.out)).trans HB.out
 have va := cell_of_row _ _ 0 _ _ _ HVA.out
 simp only [List.getElem?_toArray, List.getElem?_cons_zero] at va
 have HNE : Hid (∀ k, (Value.slice oa l.length oc).ownBlock = some k → B + 1 ≤ k) := fun k hk => (HOWN.out.lt k hk).1
 have HVAR : Hid (∀ w', (wd.alloc (.cells #[.string y1, .bool false, .string y1, .int .i64 y2, .int .i64 y3, .int .i64 y4, .string y5] 65)).grownBy w' (Value.slice oa l.length oc).ownBlock → w'.heap[B]? = some (.cells #[.slice oa l.length oc] 61 (0, 0))) := fun w' hg' => (hg'.block B (lt_of_block HVA.out) (fun e => by have := HNE.out B e.symm; omega)).trans HVA.out
 have HKEEP : Hid (∀ w', (wd.alloc (.cells #[.string y1, .bool false, .string y1, .int .i64 y2, .int .i64 y3, .int .i64 y4, .string y5] 65)).grownBy w' (Value.slice oa l.length oc).ownBlock → (fun w' => w'.rangeAt g off [.string y1, .int .i64 y2, .int .i64 y3, .int .i64 y4, .string y5]) w') := fun w' hg' => range_move HSA.out (fun j => World.cell?_of_block (hg'.block g (by rw [World.size_alloc]; omega) (fun e => by have := HNE.out g e.symm; omega)))
 have HKS : Hid (∀ w' v, (wd.alloc (.cells #[.string y1, .bool false, .string y1, .int .i64 y2, .int .i64 y3, .int .i64 y4, .string y5] 65)).grownBy w' (Value.slice oa l.length oc).ownBlock → (fun w' => w'.rangeAt g off [.string y1, .int .i64 y2, .int .i64 y3, .int .i64 y4, .string y5]) (w'.setCell ⟨B, 0, none⟩ v)) := fun w' v hg' => range_move (HKEEP.out w' hg') (fun j => World.cell?_setCell_far w' ⟨B, 0, none⟩ ⟨g, _, none⟩ v (by show B ≠ g; omega))
 clear hbA hgb hS0
 refine two_ready 0 9 (by kernel_rfl) rfl rfl (by rfl) (by rfl) (fun K hK => ?_) (fun K hK => ?_)
 ·
  go_simp
  refine hK.out _ _ HS0.out ?_
  clear hK K
  try simp only [Act.put, List.setIfInBounds_toArray]
  try simp only [List.set_cons_zero, List.set_cons_succ]
  refine one_ready 9 (by kernel_rfl) rfl (by rfl) (fun K hK => ?_)
  go_simp
  refine hK.out _ _ HSA.out ?_
  clear hK K
  try simp only [Act.put, List.setIfInBounds_toArray]
  try simp only [List.set_cons_zero, List.set_cons_succ]
  refine one_ready 10 (by kernel_rfl) rfl (by rfl) (fun K hK => ?_)
  refine wp_append_own _ _ _ 61 rfl (B + 1) 65 i0 (.agg (eC (⟨#[]⟩, false, zIt)).toArray) 7 80 Tryz.underlying61 hi0 hz0 hz1 hz2 rfl (by decide) _ _ _ rfl (HOWN.out.alloc _) ⟨wd.heap.size, 0, none⟩ 1 1 (eC (y1, false, (y1, y2, y3, y4, y5))) rfl rfl D1.out D2.out D3.out D4.out D5.out ?_
  intro v' w' hown' hgrow _
  obtain ⟨oa', oc', rfl⟩ := own_form' hown'
  refine hK.out _ _ (HKEEP.out w' hgrow) ?_
  clear hK K
  try simp only [Act.put, List.setIfInBounds_toArray]
  try simp only [List.set_cons_zero, List.set_cons_succ]
  have hv1 := HVAR.out w' hgrow
  have hv2 := cell_of_row _ _ 0 _ _ _ hv1
  have hv3 := frozen_of_row _ _ 0 _ _ hv1
  simp only [List.getElem?_toArray, List.getElem?_cons_zero] at hv2
  refine one_ready 11 (by kernel_rfl) rfl (by rfl) (fun K hK => ?_)
  go_simp
  refine hK.out _ _ (HKS.out w' _ hgrow) ?_
  clear hK K
  refine wpAnyH_done (by kernel_rfl) ?_ _
  refine NoPanic.normal ?_
  have HF := Lib.hid (OV.push h0 hv1 HOWN.out HBL.out _ hgrow hown')
  go_wp2_with fail
  go_end0
  exact ⟨rfl, HF.out⟩
 ·
  go_simp
  refine hK.out _ _ HSA.out ?_
  clear hK K
  try simp only [Act.put, List.setIfInBounds_toArray]
  try simp only [List.set_cons_zero, List.set_cons_succ]
  refine one_ready 0 (by kernel_rfl) rfl (by rfl) (fun K hK => ?_)
  go_simp
  refine hK.out _ _ HSA.out ?_
  clear hK K
  try simp only [Act.put, List.setIfInBounds_toArray]
  try simp only [List.set_cons_zero, List.set_cons_succ]
  refine one_ready 10 (by kernel_rfl) rfl (by rfl) (fun K hK => ?_)
  refine wp_append_own _ _ _ 61 rfl (B + 1) 65 i0 (.agg (eC (⟨#[]⟩, false, zIt)).toArray) 7 80 Tryz.underlying61 hi0 hz0 hz1 hz2 rfl (by decide) _ _ _ rfl (HOWN.out.alloc _) ⟨wd.heap.size, 0, none⟩ 1 1 (eC (y1, false, (y1, y2, y3, y4, y5))) rfl rfl D1.out D2.out D3.out D4.out D5.out ?_
  intro v' w' hown' hgrow _
  obtain ⟨oa', oc', rfl⟩ := own_form' hown'
  refine hK.out _ _ (HKEEP.out w' hgrow) ?_
  clear hK K
  try simp only [Act.put, List.setIfInBounds_toArray]
  try simp only [List.set_cons_zero, List.set_cons_succ]
  have hv1 := HVAR.out w' hgrow
  have hv2 := cell_of_row _ _ 0 _ _ _ hv1
  have hv3 := frozen_of_row _ _ 0 _ _ hv1
  simp only [List.getElem?_toArray, List.getElem?_cons_zero] at hv2
  refine one_ready 11 (by kernel_rfl) rfl (by rfl) (fun K hK => ?_)
  go_simp
  refine hK.out _ _ (HKS.out w' _ hgrow) ?_
  clear hK K
  refine wpAnyH_done (by kernel_rfl) ?_ _
  refine NoPanic.normal ?_
  have HF := Lib.hid (OV.push h0 hv1 HOWN.out HBL.out _ hgrow hown')
  go_wp2_with fail
  go_end0
  exact ⟨rfl, HF.out⟩
set_option maxRecDepth 100000 in
set_option maxHeartbeats 4000000 in
theorem diff1_turn (x1 : ByteArray) (x2 x3 x4 : Int) (x5 : ByteArray) (gx ox : Nat) (y1 : ByteArray) (y2 y3 y4 : Int) (y5 : ByteArray) (g off : Nat) (w0 w : World) (B : Nat) (l : List Ed) (h0 : w0.heap.size ≤ B) (hv : EV w0 B l w) (hg : g < w0.heap.size) (hy : w0.rangeAt g off [.string y1, .int .i64 y2, .int .i64 y3, .int .i64 y4, .string y5]) (hl : l.length ≤ 1000) (hgx : gx < w0.heap.size) (hx0 : w0.rangeAt gx ox [.string x1, .int .i64 x2, .int .i64 x3, .int .i64 x4, .string x5]) (hne : (x1, x2, x3, x4, x5) ≠ (y1, y2, y3, y4, y5)) :
  Calls Tryz.prog 67 #[.pointer (some ⟨gx, ox, none⟩), .pointer (some ⟨g, off, none⟩), .pointer (some ⟨B, 0, none⟩)] w fun e w' => e = .returned (.tuple #[]) ∧ EV w0 B (l ++ [(y1, false, (y1, y2, y3, y4, y5))]) w' := by
 obtain ⟨i0, hi0, hz0, hz1, hz2⟩ := info_ed
 have icI : (Tryz.prog.info? 40).map (·.size) = some 5 := by kernel_rfl
 have icE : (Tryz.prog.info? 65).map (·.size) = some 7 := by kernel_rfl
 have huI := Tryz.underlying40
 have huE := Tryz.underlying65
 have HICI := Lib.hid icI
 have HICE := Lib.hid icE
 obtain ⟨oa, oc, hb, hown, hbl⟩ := hv
 have HB := Lib.hid hb
 have HOWN := Lib.hid hown
 have HBL := Lib.hid hbl
 clear hb hown icI icE
 have HY := Lib.hid (below_range hbl hg hy)
 have hx := below_range hbl hgx hx0
 obtain ⟨_, E2, E3⟩ := eqIt (x1, x2, x3, x4, x5) (y1, y2, y3, y4, y5) false (decide_eq_false hne)
 simp only [iC] at E2 E3
 have x0 := hx 0 _ rfl
 have x1' := hx 1 _ rfl
 have x2' := hx 2 _ rfl
 have x3' := hx 3 _ rfl
 have x4' := hx 4 _ rfl
 have y0 := HY.out 0 _ rfl
 have y1' := HY.out 1 _ rfl
 have y2' := HY.out 2 _ rfl
 have y3' := HY.out 3 _ rfl
 have y4' := HY.out 4 _ rfl
 simp only [Nat.add_zero] at x0 y0
 clear hbl
 go_enter Tryz.func67, Tryz.ntmps67
 go_wp2_with fail
 go_region
 clear x0 x1' x2' x3' x4' y0 y1' y2' y3' y4' hx hx0 E2 E3
 go_wp2_with fail
 refine wp_region_noPanic ?_
 refine wp_region_held_drew (S := fun w' => w'.rangeAt g off [.string y1, .int .i64 y2, .int .i64 y3, .int .i64 y4, .string y5]) (by kernel_rfl) HY.out (fun hS0 => ?_)
 have HS0 := Lib.hid hS0
 have HB : Hid (w.drew.drew.heap[B]? = some (.cells #[.slice oa l.length oc] 61 (0, 0))) := HB.out
 have HOWN : Hid (w.drew.drew.ownsRow (B + 1) 65 7 (.slice oa l.length oc) l.length (l.flatMap eC)) := HOWN.out
 have HBL : Hid (Below w0.heap.size w0 w.drew.drew) := HBL.out.drew.drew
 generalize w.drew.drew = wd at *
 have w0' := cell_of_row _ _ 0 _ _ _ HB.out
 simp only [List.getElem?_toArray, List.getElem?_cons_zero] at w0'
 refine take_val 1 (.pointer (some ⟨g, off, none⟩)) rfl (by kernel_rfl) (by kernel_rfl) (by kernel_rfl) (fun _ _ _ _ h => h) (by rfl) rfl (fun w _ => by go_simp) HS0.out ?_
 try simp only [List.set_cons_zero, List.set_cons_succ]
 refine take_val 2 (.pointer (some ⟨g, off, none⟩)) rfl (by kernel_rfl) (by kernel_rfl) (by kernel_rfl) (fun _ _ _ _ h => h) (by rfl) rfl (fun w _ => by go_simp) HS0.out ?_
 try simp only [List.set_cons_zero, List.set_cons_succ]
 refine take_val 3 (.pointer (some ⟨g, off, none⟩)) rfl (by kernel_rfl) (by kernel_rfl) (by kernel_rfl) (fun _ _ _ _ h => h) (by rfl) rfl (fun w _ => by go_simp) HS0.out ?_
 try simp only [List.set_cons_zero, List.set_cons_succ]
 refine take_val 4 (.string y1) rfl (by kernel_rfl) (by kernel_rfl) (by kernel_rfl) (fun _ _ _ _ h => h) (by rfl) rfl (fun w hS => by have := hS 0 _ rfl; simp only [Nat.add_zero] at this; go_simp) HS0.out ?_
 try simp only [List.set_cons_zero, List.set_cons_succ]
 refine take_val 5 (.pointer (some ⟨g, off, none⟩)) rfl (by kernel_rfl) (by kernel_rfl) (by kernel_rfl) (fun _ _ _ _ h => h) (by rfl) rfl (fun w _ => by go_simp) HS0.out ?_
 try simp only [List.set_cons_zero, List.set_cons_succ]
 refine take_val 6 (.pointer (some ⟨g, off, none⟩)) rfl (by kernel_rfl) (by kernel_rfl) (by kernel_rfl) (fun _ _ _ _ h => h) (by rfl) rfl (fun w _ => by go_simp) HS0.out ?_
 try simp only [List.set_cons_zero, List.set_cons_succ]
 refine take_row 7 rfl (by kernel_rfl) (by kernel_rfl) (by kernel_rfl) (fun _ _ _ _ h => h) (by rfl) rfl rfl rfl (fun _ hS => hS) huI rfl HICI.out HS0.out ?_
 try simp only [List.set_cons_zero, List.set_cons_succ]
 refine take_val 8 (.agg #[.string y1, .bool false, .string y1, .int .i64 y2, .int .i64 y3, .int .i64 y4, .string y5]) rfl (by kernel_rfl) (by kernel_rfl) (by kernel_rfl) (fun _ _ _ _ h => h) (by rfl) rfl (fun w _ => by go_simp) HS0.out ?_
 try simp only [List.set_cons_zero, List.set_cons_succ]
 have D1 := Lib.hid (cells_new_at wd wd.heap.size rfl #[.string y1, .bool false, .string y1, .int .i64 y2, .int .i64 y3, .int .i64 y4, .string y5] 65 (eC (y1, false, (y1, y2, y3, y4, y5))) rfl)
 have D2 : Hid (∀ u ∈ (eC (y1, false, (y1, y2, y3, y4, y5))), u.oneCell' = true) := fun u hu => eC_one _ u hu
 have D3 : Hid (l.length + 1 ≤ maxLen) := by show _ ≤ _; unfold maxLen; omega
 have D4 : Hid ((l.length + 1) * 80 ≤ 140737488355328) := by show _ ≤ _; omega
 have D5 : Hid (B + 1 ≤ (wd.alloc (.cells #[.string y1, .bool false, .string y1, .int .i64 y2, .int .i64 y3, .int .i64 y4, .string y5] 65)).heap.size) := by show _ ≤ _; rw [World.size_alloc]; have := lt_of_block HB.out; omega
 have hbA : Below wd.heap.size wd (wd.alloc (.cells #[.string y1, .bool false, .string y1, .int .i64 y2, .int .i64 y3, .int .i64 y4, .string y5] 65)) := (Below.refl _ _).alloc (Nat.le_refl _) _
 have hgb := HBL.out.size
 have HSA : Hid ((fun w' => w'.rangeAt g off [.string y1, .int .i64 y2, .int .i64 y3, .int .i64 y4, .string y5]) (wd.alloc (.cells #[.string y1, .bool false, .string y1, .int .i64 y2, .int .i64 y3, .int .i64 y4, .string y5] 65))) := range_move hS0 (fun j => hbA.cell (p := ⟨g, _, none⟩) (by show g < wd.heap.size; omega))
 have HVA : Hid ((wd.alloc (.cells #[.string y1, .bool false, .string y1, .int .i64 y2, .int .i64 y3, .int .i64 y4, .string y5] 65)).heap[B]? = some (.cells #[.slice oa l.length oc] 61 (0, 0))) := (Below.heap_alloc wd _ B (lt_of_block HB.out)).trans HB.out
 have va := cell_of_row _ _ 0 _ _ _ HVA.out
 simp only [List.getElem?_toArray, List.getElem?_cons_zero] at va
 have HNE : Hid (∀ k, (Value.slice oa l.length oc).ownBlock = some k → B + 1 ≤ k) := fun k hk => (HOWN.out.lt k hk).1
 have HVAR : Hid (∀ w', (wd.alloc (.cells #[.string y1, .bool false, .string y1, .int .i64 y2, .int .i64 y3, .int .i64 y4, .string y5] 65)).grownBy w' (Value.slice oa l.length oc).ownBlock → w'.heap[B]? = some (.cells #[.slice oa l.length oc] 61 (0, 0))) := fun w' hg' => (hg'.block B (lt_of_block HVA.out) (fun e => by have := HNE.out B e.symm; omega)).trans HVA.out
 have HKEEP : Hid (∀ w', (wd.alloc (.cells #[.string y1, .bool false, .string y1, .int .i64 y2, .int .i64 y3, .int .i64 y4, .string y5] 65)).grownBy w' (Value.slice oa l.length oc).ownBlock → (fun w' => w'.rangeAt g off [.string y1, .int .i64 y2, .int .i64 y3, .int .i64 y4, .string y5]) w') := fun w' hg' => range_move HSA.out (fun j => World.cell?_of_block (hg'.block g (by rw [World.size_alloc]; omega) (fun e => by have := HNE.out g e.symm; omega)))
 have HKS : Hid (∀ w' v, (wd.alloc (.cells #[.string y1, .bool false, .string y1, .int .i64 y2, .int .i64 y3, .int .i64 y4, .string y5] 65)).grownBy w' (Value.slice oa l.length oc).ownBlock → (fun w' => w'.rangeAt g off [.string y1, .int .i64 y2, .int .i64 y3, .int .i64 y4, .string y5]) (w'.setCell ⟨B, 0, none⟩ v)) := fun w' v hg' => range_move (HKEEP.out w' hg') (fun j => World.cell?_setCell_far w' ⟨B, 0, none⟩ ⟨g, _, none⟩ v (by show B ≠ g; omega))
 clear hbA hgb hS0
 refine two_ready 0 9 (by kernel_rfl) rfl rfl (by rfl) (by rfl) (fun K hK => ?_) (fun K hK => ?_)
 ·
  go_simp
  refine hK.out _ _ HS0.out ?_
  clear hK K
  try simp only [Act.put, List.setIfInBounds_toArray]
  try simp only [List.set_cons_zero, List.set_cons_succ]
  refine one_ready 9 (by kernel_rfl) rfl (by rfl) (fun K hK => ?_)
  go_simp
  refine hK.out _ _ HSA.out ?_
  clear hK K
  try simp only [Act.put, List.setIfInBounds_toArray]
  try simp only [List.set_cons_zero, List.set_cons_succ]
  refine one_ready 10 (by kernel_rfl) rfl (by rfl) (fun K hK => ?_)
  refine wp_append_own _ _ _ 61 rfl (B + 1) 65 i0 (.agg (eC (⟨#[]⟩, false, zIt)).toArray) 7 80 Tryz.underlying61 hi0 hz0 hz1 hz2 rfl (by decide) _ _ _ rfl (HOWN.out.alloc _) ⟨wd.heap.size, 0, none⟩ 1 1 (eC (y1, false, (y1, y2, y3, y4, y5))) rfl rfl D1.out D2.out D3.out D4.out D5.out ?_
  intro v' w' hown' hgrow _
  obtain ⟨oa', oc', rfl⟩ := own_form' hown'
  refine hK.out _ _ (HKEEP.out w' hgrow) ?_
  clear hK K
  try simp only [Act.put, List.setIfInBounds_toArray]
  try simp only [List.set_cons_zero, List.set_cons_succ]
  have hv1 := HVAR.out w' hgrow
  have hv2 := cell_of_row _ _ 0 _ _ _ hv1
  have hv3 := frozen_of_row _ _ 0 _ _ hv1
  simp only [List.getElem?_toArray, List.getElem?_cons_zero] at hv2
  refine one_ready 11 (by kernel_rfl) rfl (by rfl) (fun K hK => ?_)
  go_simp
  refine hK.out _ _ (HKS.out w' _ hgrow) ?_
  clear hK K
  refine wpAnyH_done (by kernel_rfl) ?_ _
  refine NoPanic.normal ?_
  have HF := Lib.hid (OV.push h0 hv1 HOWN.out HBL.out _ hgrow hown')
  go_wp2_with fail
  go_end0
  exact ⟨rfl, HF.out⟩
 ·
  go_simp
  refine hK.out _ _ HSA.out ?_
  clear hK K
  try simp only [Act.put, List.setIfInBounds_toArray]
  try simp only [List.set_cons_zero, List.set_cons_succ]
  refine one_ready 0 (by kernel_rfl) rfl (by rfl) (fun K hK => ?_)
  go_simp
  refine hK.out _ _ HSA.out ?_
  clear hK K
  try simp only [Act.put, List.setIfInBounds_toArray]
  try simp only [List.set_cons_zero, List.set_cons_succ]
  refine one_ready 10 (by kernel_rfl) rfl (by rfl) (fun K hK => ?_)
  refine wp_append_own _ _ _ 61 rfl (B + 1) 65 i0 (.agg (eC (⟨#[]⟩, false, zIt)).toArray) 7 80 Tryz.underlying61 hi0 hz0 hz1 hz2 rfl (by decide) _ _ _ rfl (HOWN.out.alloc _) ⟨wd.heap.size, 0, none⟩ 1 1 (eC (y1, false, (y1, y2, y3, y4, y5))) rfl rfl D1.out D2.out D3.out D4.out D5.out ?_
  intro v' w' hown' hgrow _
  obtain ⟨oa', oc', rfl⟩ := own_form' hown'
  refine hK.out _ _ (HKEEP.out w' hgrow) ?_
  clear hK K
  try simp only [Act.put, List.setIfInBounds_toArray]
  try simp only [List.set_cons_zero, List.set_cons_succ]
  have hv1 := HVAR.out w' hgrow
  have hv2 := cell_of_row _ _ 0 _ _ _ hv1
  have hv3 := frozen_of_row _ _ 0 _ _ hv1
  simp only [List.getElem?_toArray, List.getElem?_cons_zero] at hv2
  refine one_ready 11 (by kernel_rfl) rfl (by rfl) (fun K hK => ?_)
  go_simp
  refine hK.out _ _ (HKS.out w' _ hgrow) ?_
  clear hK K
  refine wpAnyH_done (by kernel_rfl) ?_ _
  refine NoPanic.normal ?_
  have HF := Lib.hid (OV.push h0 hv1 HOWN.out HBL.out _ hgrow hown')
  go_wp2_with fail
  go_end0
  exact ⟨rfl, HF.out⟩
set_option maxRecDepth 100000 in
set_option maxHeartbeats 4000000 in
theorem diff1_same (x1 : ByteArray) (x2 x3 x4 : Int) (x5 : ByteArray) (gx ox g off : Nat) (w0 w : World) (B : Nat) (l : List Ed) (hv : EV w0 B l w) (hgx : gx < w0.heap.size) (hg : g < w0.heap.size) (hx0 : w0.rangeAt gx ox [.string x1, .int .i64 x2, .int .i64 x3, .int .i64 x4, .string x5]) (hy0 : w0.rangeAt g off [.string x1, .int .i64 x2, .int .i64 x3, .int .i64 x4, .string x5]) :
  Calls Tryz.prog 67 #[.pointer (some ⟨gx, ox, none⟩), .pointer (some ⟨g, off, none⟩), .pointer (some ⟨B, 0, none⟩)] w fun e w' => e = .returned (.tuple #[]) ∧ EV w0 B l w' := by
 have HV := Lib.hid hv
 obtain ⟨oa, oc, hb, hown, hbl⟩ := hv
 have hx := below_range hbl hgx hx0
 have hy := below_range hbl hg hy0
 obtain ⟨_, E2, E3⟩ := eqIt (x1, x2, x3, x4, x5) (x1, x2, x3, x4, x5) true (decide_eq_true rfl)
 simp only [iC] at E2 E3
 have x0 := hx 0 _ rfl
 have x1' := hx 1 _ rfl
 have x2' := hx 2 _ rfl
 have x3' := hx 3 _ rfl
 have x4' := hx 4 _ rfl
 have y0 := hy 0 _ rfl
 have y1' := hy 1 _ rfl
 have y2' := hy 2 _ rfl
 have y3' := hy 3 _ rfl
 have y4' := hy 4 _ rfl
 simp only [Nat.add_zero] at x0 y0
 have HF : Hid (EV w0 B l w.drew) := ⟨oa, oc, hb, hown, hbl.drew⟩
 clear hb hown hbl hx hy hx0 hy0 HV
 go_enter Tryz.func67, Tryz.ntmps67
 go_wp2_with fail
 go_region
 go_wp2_with fail
 go_end0
 exact ⟨rfl, HF.out⟩
set_option maxRecDepth 100000 in
set_option maxHeartbeats 4000000 in
theorem apply1_keep (y1 : ByteArray) (y2 y3 y4 : Int) (y5 : ByteArray) (g off : Nat) (w0 w : World) (B : Nat) (l : List It) (h0 : w0.heap.size ≤ B) (hv : IV w0 B l w) (hg : g < w0.heap.size) (hy : w0.rangeAt g off [.string y1, .int .i64 y2, .int .i64 y3, .int .i64 y4, .string y5]) (hl : l.length ≤ 1000) :
  Calls Tryz.prog 71 #[.pointer (some ⟨g, off, none⟩), .pointer none, .pointer (some ⟨B, 0, none⟩)] w fun e w' => e = .returned (.tuple #[]) ∧ IV w0 B (l ++ [(y1, y2, y3, y4, y5)]) w' := by
 obtain ⟨i0, hi0, hz0, hz1, hz2⟩ := info_it
 have icI : (Tryz.prog.info? 40).map (·.size) = some 5 := by kernel_rfl
 have icE : (Tryz.prog.info? 65).map (·.size) = some 7 := by kernel_rfl
 have huI := Tryz.underlying40
 have huE := Tryz.underlying65
 have HICI := Lib.hid icI
 have HICE := Lib.hid icE
 obtain ⟨oa, oc, hb, hown, hbl⟩ := hv
 have HB := Lib.hid hb
 have HOWN := Lib.hid hown
 have HBL := Lib.hid hbl
 clear hb hown icI icE
 have HY := Lib.hid (below_range hbl hg hy)
 clear hbl
 go_enter Tryz.func71, Tryz.ntmps71
 go_wp2_with fail
 refine wp_region_noPanic ?_
 refine wp_region_held_drew (S := fun w' => w'.rangeAt g off [.string y1, .int .i64 y2, .int .i64 y3, .int .i64 y4, .string y5]) (by kernel_rfl) HY.out (fun hS0 => ?_)
 have HS0 := Lib.hid hS0
 have HB : Hid (w.drew.heap[B]? = some (.cells #[.slice oa l.length oc] 26 (0, 0))) := HB.out
 have HOWN : Hid (w.drew.ownsRow (B + 1) 40 5 (.slice oa l.length oc) l.length (l.flatMap iC)) := HOWN.out
 have HBL : Hid (Below w0.heap.size w0 w.drew) := HBL.out.drew
 generalize w.drew = wd at *
 have w0' := cell_of_row _ _ 0 _ _ _ HB.out
 simp only [List.getElem?_toArray, List.getElem?_cons_zero] at w0'
 refine take_val 1 (.pointer (some ⟨g, off, none⟩)) rfl (by kernel_rfl) (by kernel_rfl) (by kernel_rfl) (fun _ _ _ _ h => h) (by rfl) rfl (fun w _ => by go_simp) HS0.out ?_
 try simp only [List.set_cons_zero, List.set_cons_succ]
 refine take_val 2 (.pointer (some ⟨g, off, none⟩)) rfl (by kernel_rfl) (by kernel_rfl) (by kernel_rfl) (fun _ _ _ _ h => h) (by rfl) rfl (fun w _ => by go_simp) HS0.out ?_
 try simp only [List.set_cons_zero, List.set_cons_succ]
 refine take_row 3 rfl (by kernel_rfl) (by kernel_rfl) (by kernel_rfl) (fun _ _ _ _ h => h) (by rfl) rfl rfl rfl (fun _ hS => hS) huI rfl HICI.out HS0.out ?_
 try simp only [List.set_cons_zero, List.set_cons_succ]
 have D1 := Lib.hid (cells_new_at wd wd.heap.size rfl #[.string y1, .int .i64 y2, .int .i64 y3, .int .i64 y4, .string y5] 40 (iC (y1, y2, y3, y4, y5)) rfl)
 have D2 : Hid (∀ u ∈ (iC (y1, y2, y3, y4, y5)), u.oneCell' = true) := fun u hu => iC_one _ u hu
 have D3 : Hid (l.length + 1 ≤ maxLen) := by show _ ≤ _; unfold maxLen; omega
 have D4 : Hid ((l.length + 1) * 56 ≤ 140737488355328) := by show _ ≤ _; omega
 have D5 : Hid (B + 1 ≤ (wd.alloc (.cells #[.string y1, .int .i64 y2, .int .i64 y3, .int .i64 y4, .string y5] 40)).heap.size) := by show _ ≤ _; rw [World.size_alloc]; have := lt_of_block HB.out; omega
 have hbA : Below wd.heap.size wd (wd.alloc (.cells #[.string y1, .int .i64 y2, .int .i64 y3, .int .i64 y4, .string y5] 40)) := (Below.refl _ _).alloc (Nat.le_refl _) _
 have hgb := HBL.out.size
 have HSA : Hid ((fun w' => w'.rangeAt g off [.string y1, .int .i64 y2, .int .i64 y3, .int .i64 y4, .string y5]) (wd.alloc (.cells #[.string y1, .int .i64 y2, .int .i64 y3, .int .i64 y4, .string y5] 40))) := range_move hS0 (fun j => hbA.cell (p := ⟨g, _, none⟩) (by show g < wd.heap.size; omega))
 have HVA : Hid ((wd.alloc (.cells #[.string y1, .int .i64 y2, .int .i64 y3, .int .i64 y4, .string y5] 40)).heap[B]? = some (.cells #[.slice oa l.length oc] 26 (0, 0))) := (Below.heap_alloc wd _ B (lt_of_block HB.out)).trans HB.out
 have va := cell_of_row _ _ 0 _ _ _ HVA.out
 simp only [List.getElem?_toArray, List.getElem?_cons_zero] at va
 have HNE : Hid (∀ k, (Value.slice oa l.length oc).ownBlock = some k → B + 1 ≤ k) := fun k hk => (HOWN.out.lt k hk).1
 have HVAR : Hid (∀ w', (wd.alloc (.cells #[.string y1, .int .i64 y2, .int .i64 y3, .int .i64 y4, .string y5] 40)).grownBy w' (Value.slice oa l.length oc).ownBlock → w'.heap[B]? = some (.cells #[.slice oa l.length oc] 26 (0, 0))) := fun w' hg' => (hg'.block B (lt_of_block HVA.out) (fun e => by have := HNE.out B e.symm; omega)).trans HVA.out
 have HKEEP : Hid (∀ w', (wd.alloc (.cells #[.string y1, .int .i64 y2, .int .i64 y3, .int .i64 y4, .string y5] 40)).grownBy w' (Value.slice oa l.length oc).ownBlock → (fun w' => w'.rangeAt g off [.string y1, .int .i64 y2, .int .i64 y3, .int .i64 y4, .string y5]) w') := fun w' hg' => range_move HSA.out (fun j => World.cell?_of_block (hg'.block g (by rw [World.size_alloc]; omega) (fun e => by have := HNE.out g e.symm; omega)))
 have HKS : Hid (∀ w' v, (wd.alloc (.cells #[.string y1, .int .i64 y2, .int .i64 y3, .int .i64 y4, .string y5] 40)).grownBy w' (Value.slice oa l.length oc).ownBlock → (fun w' => w'.rangeAt g off [.string y1, .int .i64 y2, .int .i64 y3, .int .i64 y4, .string y5]) (w'.setCell ⟨B, 0, none⟩ v)) := fun w' v hg' => range_move (HKEEP.out w' hg') (fun j => World.cell?_setCell_far w' ⟨B, 0, none⟩ ⟨g, _, none⟩ v (by show B ≠ g; omega))
 clear hbA hgb hS0
 refine two_ready 0 4 (by kernel_rfl) rfl rfl (by rfl) (by rfl) (fun K hK => ?_) (fun K hK => ?_)
 ·
  go_simp
  refine hK.out _ _ HS0.out ?_
  clear hK K
  try simp only [Act.put, List.setIfInBounds_toArray]
  try simp only [List.set_cons_zero, List.set_cons_succ]
  refine one_ready 4 (by kernel_rfl) rfl (by rfl) (fun K hK => ?_)
  go_simp
  refine hK.out _ _ HSA.out ?_
  clear hK K
  try simp only [Act.put, List.setIfInBounds_toArray]
  try simp only [List.set_cons_zero, List.set_cons_succ]
  refine one_ready 5 (by kernel_rfl) rfl (by rfl) (fun K hK => ?_)
  refine wp_append_own _ _ _ 26 rfl (B + 1) 40 i0 (.agg (iC zIt).toArray) 5 56 Tryz.underlying26 hi0 hz0 hz1 hz2 rfl (by decide) _ _ _ rfl (HOWN.out.alloc _) ⟨wd.heap.size, 0, none⟩ 1 1 (iC (y1, y2, y3, y4, y5)) rfl rfl D1.out D2.out D3.out D4.out D5.out ?_
  intro v' w' hown' hgrow _
  obtain ⟨oa', oc', rfl⟩ := own_form' hown'
  refine hK.out _ _ (HKEEP.out w' hgrow) ?_
  clear hK K
  try simp only [Act.put, List.setIfInBounds_toArray]
  try simp only [List.set_cons_zero, List.set_cons_succ]
  have hv1 := HVAR.out w' hgrow
  have hv2 := cell_of_row _ _ 0 _ _ _ hv1
  have hv3 := frozen_of_row _ _ 0 _ _ hv1
  simp only [List.getElem?_toArray, List.getElem?_cons_zero] at hv2
  refine one_ready 6 (by kernel_rfl) rfl (by rfl) (fun K hK => ?_)
  go_simp
  refine hK.out _ _ (HKS.out w' _ hgrow) ?_
  clear hK K
  refine wpAnyH_done (by kernel_rfl) ?_ _
  refine NoPanic.normal ?_
  have HF := Lib.hid (OV.push h0 hv1 HOWN.out HBL.out _ hgrow hown')
  go_wp2_with fail
  go_end0
  exact ⟨rfl, HF.out⟩
 ·
  go_simp
  refine hK.out _ _ HSA.out ?_
  clear hK K
  try simp only [Act.put, List.setIfInBounds_toArray]
  try simp only [List.set_cons_zero, List.set_cons_succ]
  refine one_ready 0 (by kernel_rfl) rfl (by rfl) (fun K hK => ?_)
  go_simp
  refine hK.out _ _ HSA.out ?_
  clear hK K
  try simp only [Act.put, List.setIfInBounds_toArray]
  try simp only [List.set_cons_zero, List.set_cons_succ]
  refine one_ready 5 (by kernel_rfl) rfl (by rfl) (fun K hK => ?_)
  refine wp_append_own _ _ _ 26 rfl (B + 1) 40 i0 (.agg (iC zIt).toArray) 5 56 Tryz.underlying26 hi0 hz0 hz1 hz2 rfl (by decide) _ _ _ rfl (HOWN.out.alloc _) ⟨wd.heap.size, 0, none⟩ 1 1 (iC (y1, y2, y3, y4, y5)) rfl rfl D1.out D2.out D3.out D4.out D5.out ?_
  intro v' w' hown' hgrow _
  obtain ⟨oa', oc', rfl⟩ := own_form' hown'
  refine hK.out _ _ (HKEEP.out w' hgrow) ?_
  clear hK K
  try simp only [Act.put, List.setIfInBounds_toArray]
  try simp only [List.set_cons_zero, List.set_cons_succ]
  have hv1 := HVAR.out w' hgrow
  have hv2 := cell_of_row _ _ 0 _ _ _ hv1
  have hv3 := frozen_of_row _ _ 0 _ _ hv1
  simp only [List.getElem?_toArray, List.getElem?_cons_zero] at hv2
  refine one_ready 6 (by kernel_rfl) rfl (by rfl) (fun K hK => ?_)
  go_simp
  refine hK.out _ _ (HKS.out w' _ hgrow) ?_
  clear hK K
  refine wpAnyH_done (by kernel_rfl) ?_ _
  refine NoPanic.normal ?_
  have HF := Lib.hid (OV.push h0 hv1 HOWN.out HBL.out _ hgrow hown')
  go_wp2_with fail
  go_end0
  exact ⟨rfl, HF.out⟩
set_option maxRecDepth 100000 in
set_option maxHeartbeats 4000000 in
theorem apply1_put (xv : Value) (p y1 : ByteArray) (y2 y3 y4 : Int) (y5 : ByteArray) (g off : Nat) (w0 w : World) (B : Nat) (l : List It) (h0 : w0.heap.size ≤ B) (hv : IV w0 B l w) (hg : g < w0.heap.size) (hy : w0.rangeAt g off [.string p, .bool false, .string y1, .int .i64 y2, .int .i64 y3, .int .i64 y4, .string y5]) (hl : l.length ≤ 1000) :
  Calls Tryz.prog 71 #[xv, .pointer (some ⟨g, off, none⟩), .pointer (some ⟨B, 0, none⟩)] w fun e w' => e = .returned (.tuple #[]) ∧ IV w0 B (l ++ [(y1, y2, y3, y4, y5)]) w' := by
 obtain ⟨i0, hi0, hz0, hz1, hz2⟩ := info_it
 have icI : (Tryz.prog.info? 40).map (·.size) = some 5 := by kernel_rfl
 have icE : (Tryz.prog.info? 65).map (·.size) = some 7 := by kernel_rfl
 have huI := Tryz.underlying40
 have huE := Tryz.underlying65
 have HICI := Lib.hid icI
 have HICE := Lib.hid icE
 obtain ⟨oa, oc, hb, hown, hbl⟩ := hv
 have HB := Lib.hid hb
 have HOWN := Lib.hid hown
 have HBL := Lib.hid hbl
 clear hb hown icI icE
 have hy' := below_range hbl hg hy
 have HY : Hid (w.rangeAt g (off + 2) [.string y1, .int .i64 y2, .int .i64 y3, .int .i64 y4, .string y5]) := fun j u hu => by
  have h := hy' (j + 2) u (by simpa using hu)
  rwa [show off + (j + 2) = off + 2 + j by omega] at h
 have g1 := hy' 1 _ rfl
 clear hbl hy'
 go_enter Tryz.func71, Tryz.ntmps71
 go_wp2_with fail
 clear g1
 refine wp_region_noPanic ?_
 refine wp_region_held_drew (S := fun w' => w'.rangeAt g (off + 2) [.string y1, .int .i64 y2, .int .i64 y3, .int .i64 y4, .string y5]) (by kernel_rfl) HY.out (fun hS0 => ?_)
 have HS0 := Lib.hid hS0
 have HB : Hid (w.drew.heap[B]? = some (.cells #[.slice oa l.length oc] 26 (0, 0))) := HB.out
 have HOWN : Hid (w.drew.ownsRow (B + 1) 40 5 (.slice oa l.length oc) l.length (l.flatMap iC)) := HOWN.out
 have HBL : Hid (Below w0.heap.size w0 w.drew) := HBL.out.drew
 generalize w.drew = wd at *
 have w0' := cell_of_row _ _ 0 _ _ _ HB.out
 simp only [List.getElem?_toArray, List.getElem?_cons_zero] at w0'
 refine take_val 1 (.pointer (some ⟨g, off, none⟩)) rfl (by kernel_rfl) (by kernel_rfl) (by kernel_rfl) (fun _ _ _ _ h => h) (by rfl) rfl (fun w _ => by go_simp) HS0.out ?_
 try simp only [List.set_cons_zero, List.set_cons_succ]
 refine take_val 2 (.pointer (some ⟨g, off, none⟩)) rfl (by kernel_rfl) (by kernel_rfl) (by kernel_rfl) (fun _ _ _ _ h => h) (by rfl) rfl (fun w _ => by go_simp) HS0.out ?_
 try simp only [List.set_cons_zero, List.set_cons_succ]
 refine take_val 3 (.pointer (some ⟨g, off + 2, none⟩)) rfl (by kernel_rfl) (by kernel_rfl) (by kernel_rfl) (fun _ _ _ _ h => h) (by rfl) rfl (fun w _ => by go_simp) HS0.out ?_
 try simp only [List.set_cons_zero, List.set_cons_succ]
 refine take_row 4 rfl (by kernel_rfl) (by kernel_rfl) (by kernel_rfl) (fun _ _ _ _ h => h) (by rfl) rfl rfl rfl (fun _ hS => hS) huI rfl HICI.out HS0.out ?_
 try simp only [List.set_cons_zero, List.set_cons_succ]
 have D1 := Lib.hid (cells_new_at wd wd.heap.size rfl #[.string y1, .int .i64 y2, .int .i64 y3, .int .i64 y4, .string y5] 40 (iC (y1, y2, y3, y4, y5)) rfl)
 have D2 : Hid (∀ u ∈ (iC (y1, y2, y3, y4, y5)), u.oneCell' = true) := fun u hu => iC_one _ u hu
 have D3 : Hid (l.length + 1 ≤ maxLen) := by show _ ≤ _; unfold maxLen; omega
 have D4 : Hid ((l.length + 1) * 56 ≤ 140737488355328) := by show _ ≤ _; omega
 have D5 : Hid (B + 1 ≤ (wd.alloc (.cells #[.string y1, .int .i64 y2, .int .i64 y3, .int .i64 y4, .string y5] 40)).heap.size) := by show _ ≤ _; rw [World.size_alloc]; have := lt_of_block HB.out; omega
 have hbA : Below wd.heap.size wd (wd.alloc (.cells #[.string y1, .int .i64 y2, .int .i64 y3, .int .i64 y4, .string y5] 40)) := (Below.refl _ _).alloc (Nat.le_refl _) _
 have hgb := HBL.out.size
 have HSA : Hid ((fun w' => w'.rangeAt g (off + 2) [.string y1, .int .i64 y2, .int .i64 y3, .int .i64 y4, .string y5]) (wd.alloc (.cells #[.string y1, .int .i64 y2, .int .i64 y3, .int .i64 y4, .string y5] 40))) := range_move hS0 (fun j => hbA.cell (p := ⟨g, _, none⟩) (by show g < wd.heap.size; omega))
 have HVA : Hid ((wd.alloc (.cells #[.string y1, .int .i64 y2, .int .i64 y3, .int .i64 y4, .string y5] 40)).heap[B]? = some (.cells #[.slice oa l.length oc] 26 (0, 0))) := (Below.heap_alloc wd _ B (lt_of_block HB.out)).trans HB.out
 have va := cell_of_row _ _ 0 _ _ _ HVA.out
 simp only [List.getElem?_toArray, List.getElem?_cons_zero] at va
 have HNE : Hid (∀ k, (Value.slice oa l.length oc).ownBlock = some k → B + 1 ≤ k) := fun k hk => (HOWN.out.lt k hk).1
 have HVAR : Hid (∀ w', (wd.alloc (.cells #[.string y1, .int .i64 y2, .int .i64 y3, .int .i64 y4, .string y5] 40)).grownBy w' (Value.slice oa l.length oc).ownBlock → w'.heap[B]? = some (.cells #[.slice oa l.length oc] 26 (0, 0))) := fun w' hg' => (hg'.block B (lt_of_block HVA.out) (fun e => by have := HNE.out B e.symm; omega)).trans HVA.out
 have HKEEP : Hid (∀ w', (wd.alloc (.cells #[.string y1, .int .i64 y2, .int .i64 y3, .int .i64 y4, .string y5] 40)).grownBy w' (Value.slice oa l.length oc).ownBlock → (fun w' => w'.rangeAt g (off + 2) [.string y1, .int .i64 y2, .int .i64 y3, .int .i64 y4, .string y5]) w') := fun w' hg' => range_move HSA.out (fun j => World.cell?_of_block (hg'.block g (by rw [World.size_alloc]; omega) (fun e => by have := HNE.out g e.symm; omega)))
 have HKS : Hid (∀ w' v, (wd.alloc (.cells #[.string y1, .int .i64 y2, .int .i64 y3, .int .i64 y4, .string y5] 40)).grownBy w' (Value.slice oa l.length oc).ownBlock → (fun w' => w'.rangeAt g (off + 2) [.string y1, .int .i64 y2, .int .i64 y3, .int .i64 y4, .string y5]) (w'.setCell ⟨B, 0, none⟩ v)) := fun w' v hg' => range_move (HKEEP.out w' hg') (fun j => World.cell?_setCell_far w' ⟨B, 0, none⟩ ⟨g, _, none⟩ v (by show B ≠ g; omega))
 clear hbA hgb hS0
 refine two_ready 0 5 (by kernel_rfl) rfl rfl (by rfl) (by rfl) (fun K hK => ?_) (fun K hK => ?_)
 ·
  go_simp
  refine hK.out _ _ HS0.out ?_
  clear hK K
  try simp only [Act.put, List.setIfInBounds_toArray]
  try simp only [List.set_cons_zero, List.set_cons_succ]
  refine one_ready 5 (by kernel_rfl) rfl (by rfl) (fun K hK => ?_)
  go_simp
  refine hK.out _ _ HSA.out ?_
  clear hK K
  try simp only [Act.put, List.setIfInBounds_toArray]
  try simp only [List.set_cons_zero, List.set_cons_succ]
  refine one_ready 6 (by kernel_rfl) rfl (by rfl) (fun K hK => ?_)
  refine wp_append_own _ _ _ 26 rfl (B + 1) 40 i0 (.agg (iC zIt).toArray) 5 56 Tryz.underlying26 hi0 hz0 hz1 hz2 rfl (by decide) _ _ _ rfl (HOWN.out.alloc _) ⟨wd.heap.size, 0, none⟩ 1 1 (iC (y1, y2, y3, y4, y5)) rfl rfl D1.out D2.out D3.out D4.out D5.out ?_
  intro v' w' hown' hgrow _
  obtain ⟨oa', oc', rfl⟩ := own_form' hown'
  refine hK.out _ _ (HKEEP.out w' hgrow) ?_
  clear hK K
  try simp only [Act.put, List.setIfInBounds_toArray]
  try simp only [List.set_cons_zero, List.set_cons_succ]
  have hv1 := HVAR.out w' hgrow
  have hv2 := cell_of_row _ _ 0 _ _ _ hv1
  have hv3 := frozen_of_row _ _ 0 _ _ hv1
  simp only [List.getElem?_toArray, List.getElem?_cons_zero] at hv2
  refine one_ready 7 (by kernel_rfl) rfl (by rfl) (fun K hK => ?_)
  go_simp
  refine hK.out _ _ (HKS.out w' _ hgrow) ?_
  clear hK K
  refine wpAnyH_done (by kernel_rfl) ?_ _
  refine NoPanic.normal ?_
  have HF := Lib.hid (OV.push h0 hv1 HOWN.out HBL.out _ hgrow hown')
  go_wp2_with fail
  go_end0
  exact ⟨rfl, HF.out⟩
 ·
  go_simp
  refine hK.out _ _ HSA.out ?_
  clear hK K
  try simp only [Act.put, List.setIfInBounds_toArray]
  try simp only [List.set_cons_zero, List.set_cons_succ]
  refine one_ready 0 (by kernel_rfl) rfl (by rfl) (fun K hK => ?_)
  go_simp
  refine hK.out _ _ HSA.out ?_
  clear hK K
  try simp only [Act.put, List.setIfInBounds_toArray]
  try simp only [List.set_cons_zero, List.set_cons_succ]
  refine one_ready 6 (by kernel_rfl) rfl (by rfl) (fun K hK => ?_)
  refine wp_append_own _ _ _ 26 rfl (B + 1) 40 i0 (.agg (iC zIt).toArray) 5 56 Tryz.underlying26 hi0 hz0 hz1 hz2 rfl (by decide) _ _ _ rfl (HOWN.out.alloc _) ⟨wd.heap.size, 0, none⟩ 1 1 (iC (y1, y2, y3, y4, y5)) rfl rfl D1.out D2.out D3.out D4.out D5.out ?_
  intro v' w' hown' hgrow _
  obtain ⟨oa', oc', rfl⟩ := own_form' hown'
  refine hK.out _ _ (HKEEP.out w' hgrow) ?_
  clear hK K
  try simp only [Act.put, List.setIfInBounds_toArray]
  try simp only [List.set_cons_zero, List.set_cons_succ]
  have hv1 := HVAR.out w' hgrow
  have hv2 := cell_of_row _ _ 0 _ _ _ hv1
  have hv3 := frozen_of_row _ _ 0 _ _ hv1
  simp only [List.getElem?_toArray, List.getElem?_cons_zero] at hv2
  refine one_ready 7 (by kernel_rfl) rfl (by rfl) (fun K hK => ?_)
  go_simp
  refine hK.out _ _ (HKS.out w' _ hgrow) ?_
  clear hK K
  refine wpAnyH_done (by kernel_rfl) ?_ _
  refine NoPanic.normal ?_
  have HF := Lib.hid (OV.push h0 hv1 HOWN.out HBL.out _ hgrow hown')
  go_wp2_with fail
  go_end0
  exact ⟨rfl, HF.out⟩
set_option maxRecDepth 100000 in
set_option maxHeartbeats 4000000 in
theorem apply1_gone (xv : Value) (p y1 : ByteArray) (y2 y3 y4 : Int) (y5 : ByteArray) (g off : Nat) (w0 w : World) (B : Nat) (l : List It) (hv : IV w0 B l w) (hg : g < w0.heap.size) (hy : w0.rangeAt g off [.string p, .bool true, .string y1, .int .i64 y2, .int .i64 y3, .int .i64 y4, .string y5]) :
  Calls Tryz.prog 71 #[xv, .pointer (some ⟨g, off, none⟩), .pointer (some ⟨B, 0, none⟩)] w fun e w' => e = .returned (.tuple #[]) ∧ IV w0 B l w' := by
 have HV := Lib.hid hv
 obtain ⟨oa, oc, hb, hown, hbl⟩ := hv
 have g1 := below_range hbl hg hy 1 _ rfl
 clear hb hown hbl hy
 go_enter Tryz.func71, Tryz.ntmps71
 go_wp2_with fail
 go_end0
 exact ⟨rfl, HV.out⟩
set_option maxRecDepth 100000 in
set_option maxHeartbeats 4000000 in
theorem join1_left (p : ByteArray) (gone : Bool) (y1 : ByteArray) (y2 y3 y4 : Int) (y5 : ByteArray) (g off : Nat) (w0 w : World) (B : Nat) (l : List Ed) (h0 : w0.heap.size ≤ B) (hv : EV w0 B l w) (hg : g < w0.heap.size) (hy : w0.rangeAt g off [.string p, .bool gone, .string y1, .int .i64 y2, .int .i64 y3, .int .i64 y4, .string y5]) (hl : l.length ≤ 1000) :
  Calls Tryz.prog 73 #[.pointer (some ⟨g, off, none⟩), .pointer none, .pointer (some ⟨B, 0, none⟩)] w fun e w' => e = .returned (.tuple #[]) ∧ EV w0 B (l ++ [(p, gone, (y1, y2, y3, y4, y5))]) w' := by
 obtain ⟨i0, hi0, hz0, hz1, hz2⟩ := info_ed
 have icI : (Tryz.prog.info? 40).map (·.size) = some 5 := by kernel_rfl
 have icE : (Tryz.prog.info? 65).map (·.size) = some 7 := by kernel_rfl
 have huI := Tryz.underlying40
 have huE := Tryz.underlying65
 have HICI := Lib.hid icI
 have HICE := Lib.hid icE
 obtain ⟨oa, oc, hb, hown, hbl⟩ := hv
 have HB := Lib.hid hb
 have HOWN := Lib.hid hown
 have HBL := Lib.hid hbl
 clear hb hown icI icE
 have HY := Lib.hid (below_range hbl hg hy)
 clear hbl
 go_enter Tryz.func73, Tryz.ntmps73
 go_wp2_with fail
 refine wp_region_noPanic ?_
 refine wp_region_held_drew (S := fun w' => w'.rangeAt g off [.string p, .bool gone, .string y1, .int .i64 y2, .int .i64 y3, .int .i64 y4, .string y5]) (by kernel_rfl) HY.out (fun hS0 => ?_)
 have HS0 := Lib.hid hS0
 have HB : Hid (w.drew.heap[B]? = some (.cells #[.slice oa l.length oc] 61 (0, 0))) := HB.out
 have HOWN : Hid (w.drew.ownsRow (B + 1) 65 7 (.slice oa l.length oc) l.length (l.flatMap eC)) := HOWN.out
 have HBL : Hid (Below w0.heap.size w0 w.drew) := HBL.out.drew
 generalize w.drew = wd at *
 have w0' := cell_of_row _ _ 0 _ _ _ HB.out
 simp only [List.getElem?_toArray, List.getElem?_cons_zero] at w0'
 refine take_val 1 (.pointer (some ⟨g, off, none⟩)) rfl (by kernel_rfl) (by kernel_rfl) (by kernel_rfl) (fun _ _ _ _ h => h) (by rfl) rfl (fun w _ => by go_simp) HS0.out ?_
 try simp only [List.set_cons_zero, List.set_cons_succ]
 refine take_val 2 (.pointer (some ⟨g, off, none⟩)) rfl (by kernel_rfl) (by kernel_rfl) (by kernel_rfl) (fun _ _ _ _ h => h) (by rfl) rfl (fun w _ => by go_simp) HS0.out ?_
 try simp only [List.set_cons_zero, List.set_cons_succ]
 refine take_row 3 rfl (by kernel_rfl) (by kernel_rfl) (by kernel_rfl) (fun _ _ _ _ h => h) (by rfl) rfl rfl rfl (fun _ hS => hS) huE rfl HICE.out HS0.out ?_
 try simp only [List.set_cons_zero, List.set_cons_succ]
 have D1 := Lib.hid (cells_new_at wd wd.heap.size rfl #[.string p, .bool gone, .string y1, .int .i64 y2, .int .i64 y3, .int .i64 y4, .string y5] 65 (eC (p, gone, (y1, y2, y3, y4, y5))) rfl)
 have D2 : Hid (∀ u ∈ (eC (p, gone, (y1, y2, y3, y4, y5))), u.oneCell' = true) := fun u hu => eC_one _ u hu
 have D3 : Hid (l.length + 1 ≤ maxLen) := by show _ ≤ _; unfold maxLen; omega
 have D4 : Hid ((l.length + 1) * 80 ≤ 140737488355328) := by show _ ≤ _; omega
 have D5 : Hid (B + 1 ≤ (wd.alloc (.cells #[.string p, .bool gone, .string y1, .int .i64 y2, .int .i64 y3, .int .i64 y4, .string y5] 65)).heap.size) := by show _ ≤ _; rw [World.size_alloc]; have := lt_of_block HB.out; omega
 have hbA : Below wd.heap.size wd (wd.alloc (.cells #[.string p, .bool gone, .string y1, .int .i64 y2, .int .i64 y3, .int .i64 y4, .string y5] 65)) := (Below.refl _ _).alloc (Nat.le_refl _) _
 have hgb := HBL.out.size
 have HSA : Hid ((fun w' => w'.rangeAt g off [.string p, .bool gone, .string y1, .int .i64 y2, .int .i64 y3, .int .i64 y4, .string y5]) (wd.alloc (.cells #[.string p, .bool gone, .string y1, .int .i64 y2, .int .i64 y3, .int .i64 y4, .string y5] 65))) := range_move hS0 (fun j => hbA.cell (p := ⟨g, _, none⟩) (by show g < wd.heap.size; omega))
 have HVA : Hid ((wd.alloc (.cells #[.string p, .bool gone, .string y1, .int .i64 y2, .int .i64 y3, .int .i64 y4, .string y5] 65)).heap[B]? = some (.cells #[.slice oa l.length oc] 61 (0, 0))) := (Below.heap_alloc wd _ B (lt_of_block HB.out)).trans HB.out
 have va := cell_of_row _ _ 0 _ _ _ HVA.out
 simp only [List.getElem?_toArray, List.getElem?_cons_zero] at va
 have HNE : Hid (∀ k, (Value.slice oa l.length oc).ownBlock = some k → B + 1 ≤ k) := fun k hk => (HOWN.out.lt k hk).1
 have HVAR : Hid (∀ w', (wd.alloc (.cells #[.string p, .bool gone, .string y1, .int .i64 y2, .int .i64 y3, .int .i64 y4, .string y5] 65)).grownBy w' (Value.slice oa l.length oc).ownBlock → w'.heap[B]? = some (.cells #[.slice oa l.length oc] 61 (0, 0))) := fun w' hg' => (hg'.block B (lt_of_block HVA.out) (fun e => by have := HNE.out B e.symm; omega)).trans HVA.out
 have HKEEP : Hid (∀ w', (wd.alloc (.cells #[.string p, .bool gone, .string y1, .int .i64 y2, .int .i64 y3, .int .i64 y4, .string y5] 65)).grownBy w' (Value.slice oa l.length oc).ownBlock → (fun w' => w'.rangeAt g off [.string p, .bool gone, .string y1, .int .i64 y2, .int .i64 y3, .int .i64 y4, .string y5]) w') := fun w' hg' => range_move HSA.out (fun j => World.cell?_of_block (hg'.block g (by rw [World.size_alloc]; omega) (fun e => by have := HNE.out g e.symm; omega)))
 have HKS : Hid (∀ w' v, (wd.alloc (.cells #[.string p, .bool gone, .string y1, .int .i64 y2, .int .i64 y3, .int .i64 y4, .string y5] 65)).grownBy w' (Value.slice oa l.length oc).ownBlock → (fun w' => w'.rangeAt g off [.string p, .bool gone, .string y1, .int .i64 y2, .int .i64 y3, .int .i64 y4, .string y5]) (w'.setCell ⟨B, 0, none⟩ v)) := fun w' v hg' => range_move (HKEEP.out w' hg') (fun j => World.cell?_setCell_far w' ⟨B, 0, none⟩ ⟨g, _, none⟩ v (by show B ≠ g; omega))
 clear hbA hgb hS0
 refine two_ready 0 4 (by kernel_rfl) rfl rfl (by rfl) (by rfl) (fun K hK => ?_) (fun K hK => ?_)
 ·
  go_simp
  refine hK.out _ _ HS0.out ?_
  clear hK K
  try simp only [Act.put, List.setIfInBounds_toArray]
  try simp only [List.set_cons_zero, List.set_cons_succ]
  refine one_ready 4 (by kernel_rfl) rfl (by rfl) (fun K hK => ?_)
  go_simp
  refine hK.out _ _ HSA.out ?_
  clear hK K
  try simp only [Act.put, List.setIfInBounds_toArray]
  try simp only [List.set_cons_zero, List.set_cons_succ]
  refine one_ready 5 (by kernel_rfl) rfl (by rfl) (fun K hK => ?_)
  refine wp_append_own _ _ _ 61 rfl (B + 1) 65 i0 (.agg (eC (⟨#[]⟩, false, zIt)).toArray) 7 80 Tryz.underlying61 hi0 hz0 hz1 hz2 rfl (by decide) _ _ _ rfl (HOWN.out.alloc _) ⟨wd.heap.size, 0, none⟩ 1 1 (eC (p, gone, (y1, y2, y3, y4, y5))) rfl rfl D1.out D2.out D3.out D4.out D5.out ?_
  intro v' w' hown' hgrow _
  obtain ⟨oa', oc', rfl⟩ := own_form' hown'
  refine hK.out _ _ (HKEEP.out w' hgrow) ?_
  clear hK K
  try simp only [Act.put, List.setIfInBounds_toArray]
  try simp only [List.set_cons_zero, List.set_cons_succ]
  have hv1 := HVAR.out w' hgrow
  have hv2 := cell_of_row _ _ 0 _ _ _ hv1
  have hv3 := frozen_of_row _ _ 0 _ _ hv1
  simp only [List.getElem?_toArray, List.getElem?_cons_zero] at hv2
  refine one_ready 6 (by kernel_rfl) rfl (by rfl) (fun K hK => ?_)
  go_simp
  refine hK.out _ _ (HKS.out w' _ hgrow) ?_
  clear hK K
  refine wpAnyH_done (by kernel_rfl) ?_ _
  refine NoPanic.normal ?_
  have HF := Lib.hid (OV.push h0 hv1 HOWN.out HBL.out _ hgrow hown')
  go_wp2_with fail
  go_end0
  exact ⟨rfl, HF.out⟩
 ·
  go_simp
  refine hK.out _ _ HSA.out ?_
  clear hK K
  try simp only [Act.put, List.setIfInBounds_toArray]
  try simp only [List.set_cons_zero, List.set_cons_succ]
  refine one_ready 0 (by kernel_rfl) rfl (by rfl) (fun K hK => ?_)
  go_simp
  refine hK.out _ _ HSA.out ?_
  clear hK K
  try simp only [Act.put, List.setIfInBounds_toArray]
  try simp only [List.set_cons_zero, List.set_cons_succ]
  refine one_ready 5 (by kernel_rfl) rfl (by rfl) (fun K hK => ?_)
  refine wp_append_own _ _ _ 61 rfl (B + 1) 65 i0 (.agg (eC (⟨#[]⟩, false, zIt)).toArray) 7 80 Tryz.underlying61 hi0 hz0 hz1 hz2 rfl (by decide) _ _ _ rfl (HOWN.out.alloc _) ⟨wd.heap.size, 0, none⟩ 1 1 (eC (p, gone, (y1, y2, y3, y4, y5))) rfl rfl D1.out D2.out D3.out D4.out D5.out ?_
  intro v' w' hown' hgrow _
  obtain ⟨oa', oc', rfl⟩ := own_form' hown'
  refine hK.out _ _ (HKEEP.out w' hgrow) ?_
  clear hK K
  try simp only [Act.put, List.setIfInBounds_toArray]
  try simp only [List.set_cons_zero, List.set_cons_succ]
  have hv1 := HVAR.out w' hgrow
  have hv2 := cell_of_row _ _ 0 _ _ _ hv1
  have hv3 := frozen_of_row _ _ 0 _ _ hv1
  simp only [List.getElem?_toArray, List.getElem?_cons_zero] at hv2
  refine one_ready 6 (by kernel_rfl) rfl (by rfl) (fun K hK => ?_)
  go_simp
  refine hK.out _ _ (HKS.out w' _ hgrow) ?_
  clear hK K
  refine wpAnyH_done (by kernel_rfl) ?_ _
  refine NoPanic.normal ?_
  have HF := Lib.hid (OV.push h0 hv1 HOWN.out HBL.out _ hgrow hown')
  go_wp2_with fail
  go_end0
  exact ⟨rfl, HF.out⟩
set_option maxRecDepth 100000 in
set_option maxHeartbeats 4000000 in
theorem join1_right (xv : Value) (p : ByteArray) (gone : Bool) (y1 : ByteArray) (y2 y3 y4 : Int) (y5 : ByteArray) (g off : Nat) (w0 w : World) (B : Nat) (l : List Ed) (h0 : w0.heap.size ≤ B) (hv : EV w0 B l w) (hg : g < w0.heap.size) (hy : w0.rangeAt g off [.string p, .bool gone, .string y1, .int .i64 y2, .int .i64 y3, .int .i64 y4, .string y5]) (hl : l.length ≤ 1000) :
  Calls Tryz.prog 73 #[xv, .pointer (some ⟨g, off, none⟩), .pointer (some ⟨B, 0, none⟩)] w fun e w' => e = .returned (.tuple #[]) ∧ EV w0 B (l ++ [(p, gone, (y1, y2, y3, y4, y5))]) w' := by
 obtain ⟨i0, hi0, hz0, hz1, hz2⟩ := info_ed
 have icI : (Tryz.prog.info? 40).map (·.size) = some 5 := by kernel_rfl
 have icE : (Tryz.prog.info? 65).map (·.size) = some 7 := by kernel_rfl
 have huI := Tryz.underlying40
 have huE := Tryz.underlying65
 have HICI := Lib.hid icI
 have HICE := Lib.hid icE
 obtain ⟨oa, oc, hb, hown, hbl⟩ := hv
 have HB := Lib.hid hb
 have HOWN := Lib.hid hown
 have HBL := Lib.hid hbl
 clear hb hown icI icE
 have HY := Lib.hid (below_range hbl hg hy)
 clear hbl
 go_enter Tryz.func73, Tryz.ntmps73
 go_wp2_with fail
 refine wp_region_noPanic ?_
 refine wp_region_held_drew (S := fun w' => w'.rangeAt g off [.string p, .bool gone, .string y1, .int .i64 y2, .int .i64 y3, .int .i64 y4, .string y5]) (by kernel_rfl) HY.out (fun hS0 => ?_)
 have HS0 := Lib.hid hS0
 have HB : Hid (w.drew.heap[B]? = some (.cells #[.slice oa l.length oc] 61 (0, 0))) := HB.out
 have HOWN : Hid (w.drew.ownsRow (B + 1) 65 7 (.slice oa l.length oc) l.length (l.flatMap eC)) := HOWN.out
 have HBL : Hid (Below w0.heap.size w0 w.drew) := HBL.out.drew
 generalize w.drew = wd at *
 have w0' := cell_of_row _ _ 0 _ _ _ HB.out
 simp only [List.getElem?_toArray, List.getElem?_cons_zero] at w0'
 refine take_val 1 (.pointer (some ⟨g, off, none⟩)) rfl (by kernel_rfl) (by kernel_rfl) (by kernel_rfl) (fun _ _ _ _ h => h) (by rfl) rfl (fun w _ => by go_simp) HS0.out ?_
 try simp only [List.set_cons_zero, List.set_cons_succ]
 refine take_val 2 (.pointer (some ⟨g, off, none⟩)) rfl (by kernel_rfl) (by kernel_rfl) (by kernel_rfl) (fun _ _ _ _ h => h) (by rfl) rfl (fun w _ => by go_simp) HS0.out ?_
 try simp only [List.set_cons_zero, List.set_cons_succ]
 refine take_row 3 rfl (by kernel_rfl) (by kernel_rfl) (by kernel_rfl) (fun _ _ _ _ h => h) (by rfl) rfl rfl rfl (fun _ hS => hS) huE rfl HICE.out HS0.out ?_
 try simp only [List.set_cons_zero, List.set_cons_succ]
 have D1 := Lib.hid (cells_new_at wd wd.heap.size rfl #[.string p, .bool gone, .string y1, .int .i64 y2, .int .i64 y3, .int .i64 y4, .string y5] 65 (eC (p, gone, (y1, y2, y3, y4, y5))) rfl)
 have D2 : Hid (∀ u ∈ (eC (p, gone, (y1, y2, y3, y4, y5))), u.oneCell' = true) := fun u hu => eC_one _ u hu
 have D3 : Hid (l.length + 1 ≤ maxLen) := by show _ ≤ _; unfold maxLen; omega
 have D4 : Hid ((l.length + 1) * 80 ≤ 140737488355328) := by show _ ≤ _; omega
 have D5 : Hid (B + 1 ≤ (wd.alloc (.cells #[.string p, .bool gone, .string y1, .int .i64 y2, .int .i64 y3, .int .i64 y4, .string y5] 65)).heap.size) := by show _ ≤ _; rw [World.size_alloc]; have := lt_of_block HB.out; omega
 have hbA : Below wd.heap.size wd (wd.alloc (.cells #[.string p, .bool gone, .string y1, .int .i64 y2, .int .i64 y3, .int .i64 y4, .string y5] 65)) := (Below.refl _ _).alloc (Nat.le_refl _) _
 have hgb := HBL.out.size
 have HSA : Hid ((fun w' => w'.rangeAt g off [.string p, .bool gone, .string y1, .int .i64 y2, .int .i64 y3, .int .i64 y4, .string y5]) (wd.alloc (.cells #[.string p, .bool gone, .string y1, .int .i64 y2, .int .i64 y3, .int .i64 y4, .string y5] 65))) := range_move hS0 (fun j => hbA.cell (p := ⟨g, _, none⟩) (by show g < wd.heap.size; omega))
 have HVA : Hid ((wd.alloc (.cells #[.string p, .bool gone, .string y1, .int .i64 y2, .int .i64 y3, .int .i64 y4, .string y5] 65)).heap[B]? = some (.cells #[.slice oa l.length oc] 61 (0, 0))) := (Below.heap_alloc wd _ B (lt_of_block HB.out)).trans HB.out
 have va := cell_of_row _ _ 0 _ _ _ HVA.out
 simp only [List.getElem?_toArray, List.getElem?_cons_zero] at va
 have HNE : Hid (∀ k, (Value.slice oa l.length oc).ownBlock = some k → B + 1 ≤ k) := fun k hk => (HOWN.out.lt k hk).1
 have HVAR : Hid (∀ w', (wd.alloc (.cells #[.string p, .bool gone, .string y1, .int .i64 y2, .int .i64 y3, .int .i64 y4, .string y5] 65)).grownBy w' (Value.slice oa l.length oc).ownBlock → w'.heap[B]? = some (.cells #[.slice oa l.length oc] 61 (0, 0))) := fun w' hg' => (hg'.block B (lt_of_block HVA.out) (fun e => by have := HNE.out B e.symm; omega)).trans HVA.out
 have HKEEP : Hid (∀ w', (wd.alloc (.cells #[.string p, .bool gone, .string y1, .int .i64 y2, .int .i64 y3, .int .i64 y4, .string y5] 65)).grownBy w' (Value.slice oa l.length oc).ownBlock → (fun w' => w'.rangeAt g off [.string p, .bool gone, .string y1, .int .i64 y2, .int .i64 y3, .int .i64 y4, .string y5]) w') := fun w' hg' => range_move HSA.out (fun j => World.cell?_of_block (hg'.block g (by rw [World.size_alloc]; omega) (fun e => by have := HNE.out g e.symm; omega)))
 have HKS : Hid (∀ w' v, (wd.alloc (.cells #[.string p, .bool gone, .string y1, .int .i64 y2, .int .i64 y3, .int .i64 y4, .string y5] 65)).grownBy w' (Value.slice oa l.length oc).ownBlock → (fun w' => w'.rangeAt g off [.string p, .bool gone, .string y1, .int .i64 y2, .int .i64 y3, .int .i64 y4, .string y5]) (w'.setCell ⟨B, 0, none⟩ v)) := fun w' v hg' => range_move (HKEEP.out w' hg') (fun j => World.cell?_setCell_far w' ⟨B, 0, none⟩ ⟨g, _, none⟩ v (by show B ≠ g; omega))
 clear hbA hgb hS0
 refine two_ready 0 4 (by kernel_rfl) rfl rfl (by rfl) (by rfl) (fun K hK => ?_) (fun K hK => ?_)
 ·
  go_simp
  refine hK.out _ _ HS0.out ?_
  clear hK K
  try simp only [Act.put, List.setIfInBounds_toArray]
  try simp only [List.set_cons_zero, List.set_cons_succ]
  refine one_ready 4 (by kernel_rfl) rfl (by rfl) (fun K hK => ?_)
  go_simp
  refine hK.out _ _ HSA.out ?_
  clear hK K
  try simp only [Act.put, List.setIfInBounds_toArray]
  try simp only [List.set_cons_zero, List.set_cons_succ]
  refine one_ready 5 (by kernel_rfl) rfl (by rfl) (fun K hK => ?_)
  refine wp_append_own _ _ _ 61 rfl (B + 1) 65 i0 (.agg (eC (⟨#[]⟩, false, zIt)).toArray) 7 80 Tryz.underlying61 hi0 hz0 hz1 hz2 rfl (by decide) _ _ _ rfl (HOWN.out.alloc _) ⟨wd.heap.size, 0, none⟩ 1 1 (eC (p, gone, (y1, y2, y3, y4, y5))) rfl rfl D1.out D2.out D3.out D4.out D5.out ?_
  intro v' w' hown' hgrow _
  obtain ⟨oa', oc', rfl⟩ := own_form' hown'
  refine hK.out _ _ (HKEEP.out w' hgrow) ?_
  clear hK K
  try simp only [Act.put, List.setIfInBounds_toArray]
  try simp only [List.set_cons_zero, List.set_cons_succ]
  have hv1 := HVAR.out w' hgrow
  have hv2 := cell_of_row _ _ 0 _ _ _ hv1
  have hv3 := frozen_of_row _ _ 0 _ _ hv1
  simp only [List.getElem?_toArray, List.getElem?_cons_zero] at hv2
  refine one_ready 6 (by kernel_rfl) rfl (by rfl) (fun K hK => ?_)
  go_simp
  refine hK.out _ _ (HKS.out w' _ hgrow) ?_
  clear hK K
  refine wpAnyH_done (by kernel_rfl) ?_ _
  refine NoPanic.normal ?_
  have HF := Lib.hid (OV.push h0 hv1 HOWN.out HBL.out _ hgrow hown')
  go_wp2_with fail
  go_end0
  exact ⟨rfl, HF.out⟩
 ·
  go_simp
  refine hK.out _ _ HSA.out ?_
  clear hK K
  try simp only [Act.put, List.setIfInBounds_toArray]
  try simp only [List.set_cons_zero, List.set_cons_succ]
  refine one_ready 0 (by kernel_rfl) rfl (by rfl) (fun K hK => ?_)
  go_simp
  refine hK.out _ _ HSA.out ?_
  clear hK K
  try simp only [Act.put, List.setIfInBounds_toArray]
  try simp only [List.set_cons_zero, List.set_cons_succ]
  refine one_ready 5 (by kernel_rfl) rfl (by rfl) (fun K hK => ?_)
  refine wp_append_own _ _ _ 61 rfl (B + 1) 65 i0 (.agg (eC (⟨#[]⟩, false, zIt)).toArray) 7 80 Tryz.underlying61 hi0 hz0 hz1 hz2 rfl (by decide) _ _ _ rfl (HOWN.out.alloc _) ⟨wd.heap.size, 0, none⟩ 1 1 (eC (p, gone, (y1, y2, y3, y4, y5))) rfl rfl D1.out D2.out D3.out D4.out D5.out ?_
  intro v' w' hown' hgrow _
  obtain ⟨oa', oc', rfl⟩ := own_form' hown'
  refine hK.out _ _ (HKEEP.out w' hgrow) ?_
  clear hK K
  try simp only [Act.put, List.setIfInBounds_toArray]
  try simp only [List.set_cons_zero, List.set_cons_succ]
  have hv1 := HVAR.out w' hgrow
  have hv2 := cell_of_row _ _ 0 _ _ _ hv1
  have hv3 := frozen_of_row _ _ 0 _ _ hv1
  simp only [List.getElem?_toArray, List.getElem?_cons_zero] at hv2
  refine one_ready 6 (by kernel_rfl) rfl (by rfl) (fun K hK => ?_)
  go_simp
  refine hK.out _ _ (HKS.out w' _ hgrow) ?_
  clear hK K
  refine wpAnyH_done (by kernel_rfl) ?_ _
  refine NoPanic.normal ?_
  have HF := Lib.hid (OV.push h0 hv1 HOWN.out HBL.out _ hgrow hown')
  go_wp2_with fail
  go_end0
  exact ⟨rfl, HF.out⟩
end Go.Proofs.YtbfoonfbhebhfaaGreatDoor
namespace Go.Proofs.YtbfoonfbhebhfaaGreatDoor
open Go.RowKit Plain
theorem OV.below {α : Type} {c : α → List Value} {n : Nat} {sl el : TypeId} {w0 w w' : World} {B : Nat} {l : List α} (h : OV c n sl el w0 B l w) (hb : Below w.heap.size w w') : OV c n sl el w0 B l w' := by
 obtain ⟨oa, oc, h1, h2, h3⟩ := h
 exact ⟨oa, oc, (hb.block B (lt_of_block h1)).trans h1, own_below' h2 hb, Below.step h3 hb⟩
theorem OV.drew {α : Type} {c : α → List Value} {n : Nat} {sl el : TypeId} {w0 w : World} {B : Nat} {l : List α} (h : OV c n sl el w0 B l w) : OV c n sl el w0 B l w.drew := by
 obtain ⟨oa, oc, h1, h2, h3⟩ := h
 exact ⟨oa, oc, h1, h2, h3.drew⟩
theorem OV.bel {α : Type} {c : α → List Value} {n : Nat} {sl el : TypeId} {w0 w : World} {B : Nat} {l : List α} (h : OV c n sl el w0 B l w) : Below w0.heap.size w0 w := by
 obtain ⟨oa, oc, h1, h2, h3⟩ := h
 exact h3
theorem SAt.tail {α : Type} {n : Nat} {c : α → List Value} {w : World} {g off : Nat} {x : α} {l : List α} (h : SAt n c w (some ⟨g, off, none⟩) (x :: l)) : SAt n c w (some ⟨g, off + n, none⟩) l := by
 intro i hi
 obtain ⟨g', off', e, hg, hr⟩ := h (i + 1) (by simpa using hi)
 cases e
 refine ⟨_, _, rfl, hg, ?_⟩
 intro j u hu
 have := hr j u hu
 rw [show off + (i + 1) * n + j = off + n + i * n + j by rw [Nat.succ_mul]; omega] at this
 exact this
theorem SAt.head {α : Type} {n : Nat} {c : α → List Value} {w : World} {a : Option Addr} {x : α} {l : List α} (h : SAt n c w a (x :: l)) : ∃ g off, a = some ⟨g, off, none⟩ ∧ g < w.heap.size ∧ w.rangeAt g off (c x) := by
 obtain ⟨g, off, e, hg, hr⟩ := h 0 (by simp)
 rw [Nat.zero_mul, Nat.add_zero] at hr
 exact ⟨g, off, e, hg, hr⟩
theorem diff1_any (p : Option It × Option It) (hp : p ≠ (none, none)) (vx vy : Value) (w0 w : World) (B : Nat) (l : List Ed) (h0 : w0.heap.size ≤ B) (hv : EV w0 B l w) (hx : PtrAt iC w0 vx p.1) (hy : PtrAt iC w0 vy p.2) (hl : l.length ≤ 1000) :
  Calls Tryz.prog 67 #[vx, vy, .pointer (some ⟨B, 0, none⟩)] w fun e w' => e = .returned (.tuple #[]) ∧ EV w0 B (l ++ (diffF Prod.fst zIt p).toList) w' := by
 match p, hp, hx, hy with
 | (none, none), hp, _, _ => exact absurd rfl hp
 | (some x, none), _, ⟨g, off, e, hg, hr⟩, hy => rw [e, hy]; exact diff1_gone x g off w0 w B l h0 hv hg hr hl
 | (none, some (y1, y2, y3, y4, y5)), _, hx, ⟨g, off, e, hg, hr⟩ => rw [e, hx]; exact diff1_new y1 y2 y3 y4 y5 g off w0 w B l h0 hv hg hr hl
 | (some (x1, x2, x3, x4, x5), some (y1, y2, y3, y4, y5)), _, ⟨gx, ox, e, hgx, hrx⟩, ⟨g, off, f, hg, hr⟩ =>
  rw [e, f]
  by_cases hne : ((x1, x2, x3, x4, x5) : It) = (y1, y2, y3, y4, y5)
  ·
   have hd : diffF (P := ByteArray) Prod.fst zIt (some ((x1, x2, x3, x4, x5) : It), some (y1, y2, y3, y4, y5)) = none := if_pos hne
   rw [hd]
   cases hne
   rw [Option.toList_none, List.append_nil]
   exact diff1_same x1 x2 x3 x4 x5 gx ox g off w0 w B l hv hgx hg hrx hr
  ·
   have hd : diffF (P := ByteArray) Prod.fst zIt (some ((x1, x2, x3, x4, x5) : It), some (y1, y2, y3, y4, y5)) = some (y1, false, y1, y2, y3, y4, y5) := if_neg hne
   rw [hd]
   exact diff1_turn x1 x2 x3 x4 x5 gx ox y1 y2 y3 y4 y5 g off w0 w B l h0 hv hg hr hl hgx hrx hne
theorem apply1_any (p : Option It × Option Ed) (hp : p ≠ (none, none)) (vx vy : Value) (w0 w : World) (B : Nat) (l : List It) (h0 : w0.heap.size ≤ B) (hv : IV w0 B l w) (hx : PtrAt iC w0 vx p.1) (hy : PtrAt eC w0 vy p.2) (hl : l.length ≤ 1000) :
  Calls Tryz.prog 71 #[vx, vy, .pointer (some ⟨B, 0, none⟩)] w fun e w' => e = .returned (.tuple #[]) ∧ IV w0 B (l ++ (applyF p).toList) w' := by
 match p, hp, hx, hy with
 | (none, none), hp, _, _ => exact absurd rfl hp
 | (some (y1, y2, y3, y4, y5), none), _, ⟨g, off, e, hg, hr⟩, hy => rw [e, hy]; exact apply1_keep y1 y2 y3 y4 y5 g off w0 w B l h0 hv hg hr hl
 | (x, some (p1, true, y1, y2, y3, y4, y5)), _, hx, ⟨g, off, e, hg, hr⟩ =>
  rw [e]
  have h := apply1_gone vx p1 y1 y2 y3 y4 y5 g off w0 w B l hv hg hr
  cases x <;> simpa [applyF] using h
 | (x, some (p1, false, y1, y2, y3, y4, y5)), _, hx, ⟨g, off, e, hg, hr⟩ =>
  rw [e]
  have h := apply1_put vx p1 y1 y2 y3 y4 y5 g off w0 w B l h0 hv hg hr hl
  cases x <;> simpa [applyF] using h
theorem join1_any (p : Option Ed × Option Ed) (hp : p ≠ (none, none)) (vx vy : Value) (w0 w : World) (B : Nat) (l : List Ed) (h0 : w0.heap.size ≤ B) (hv : EV w0 B l w) (hx : PtrAt eC w0 vx p.1) (hy : PtrAt eC w0 vy p.2) (hl : l.length ≤ 1000) :
  Calls Tryz.prog 73 #[vx, vy, .pointer (some ⟨B, 0, none⟩)] w fun e w' => e = .returned (.tuple #[]) ∧ EV w0 B (l ++ (joinF p).toList) w' := by
 match p, hp, hx, hy with
 | (none, none), hp, _, _ => exact absurd rfl hp
 | (some (p1, b, y1, y2, y3, y4, y5), none), _, ⟨g, off, e, hg, hr⟩, hy => rw [e, hy]; exact join1_left p1 b y1 y2 y3 y4 y5 g off w0 w B l h0 hv hg hr hl
 | (x, some (p1, b, y1, y2, y3, y4, y5)), _, hx, ⟨g, off, e, hg, hr⟩ =>
  rw [e]
  have h := join1_right vx p1 b y1 y2 y3 y4 y5 g off w0 w B l h0 hv hg hr hl
  cases x <;> simpa [joinF] using h
theorem filter_snoc {α β : Type} (f : α → Option β) (M : List α) (p : α) : M.filterMap f ++ (f p).toList = (M ++ [p]).filterMap f := by
 rw [List.filterMap_append]
 cases h : f p <;> simp [h]
set_option maxRecDepth 100000 in
theorem itemPath_any (x : It) (w : World) : Calls Tryz.prog 66 #[.agg (iC x).toArray] w fun e w' => e = .returned (.string x.1) ∧ Below w.heap.size w w' := by
 have HB : Hid (Below w.heap.size w (w.alloc (.cells (iC x).toArray 40))) := (Below.refl _ _).alloc (Nat.le_refl _) _
 have HC := heap_alloc_new w (.cells (iC x).toArray 40)
 have c0 := cell_of_row _ _ 0 _ _ _ HC
 obtain ⟨p, k, md, tm, by_⟩ := x
 unfold iC at *
 dsimp only at *
 simp only [List.getElem?_toArray, List.getElem?_cons_zero] at c0
 clear HC
 go_enter Tryz.func66, Tryz.ntmps66
 go_wp2_with fail
 go_ret
 exact ⟨rfl, HB.out⟩
set_option maxRecDepth 100000 in
theorem editPath_any (x : Ed) (w : World) : Calls Tryz.prog 70 #[.agg (eC x).toArray] w fun e w' => e = .returned (.string x.1) ∧ Below w.heap.size w w' := by
 have HB : Hid (Below w.heap.size w (w.alloc (.cells (eC x).toArray 65))) := (Below.refl _ _).alloc (Nat.le_refl _) _
 have HC := heap_alloc_new w (.cells (eC x).toArray 65)
 have c0 := cell_of_row _ _ 0 _ _ _ HC
 obtain ⟨p, b, q, k, md, tm, by_⟩ := x
 unfold eC at *
 dsimp only at *
 simp only [List.getElem?_toArray, List.getElem?_cons_zero] at c0
 clear HC
 go_enter Tryz.func70, Tryz.ntmps70
 go_wp2_with fail
 go_ret
 exact ⟨rfl, HB.out⟩
end Go.Proofs.YtbfoonfbhebhfaaGreatDoor
