/- The closures of delta: what they append to the captured variable. -/
import Derived.Test.YtokckcmkbnhhhaaDoorWalkCheck
import Derived.Test.YtokckcmkbnhhhaaDoorDrawn
import Derived.Test.YtokckcmkbnhhhaaDoorAppendSat
import Derived.Test.YtokckcmkbnhhhaaDoorEnterW
namespace Go.Proofs.YtokckcmkbnhhhaaDoor
open Go.RowKit Plain
/-- the captured variable at B and its row -/
def OV {α : Type} (c : α → List Value) (n : Nat) (sl el : TypeId) (w0 : World) (B : Nat) (l : List α) (w : World) : Prop :=
  ∃ (oa : Option Addr) (oc : Nat), w.heap[B]? = some (.cells #[.slice oa l.length oc] sl (0, 0)) ∧ w.ownsRow (B + 1) el n (.slice oa l.length oc) l.length (l.flatMap c) ∧ Below w0.heap.size w0 w
/-- a pointer to an element that came in, or nil -/
def PtrAt {α : Type} (c : α → List Value) (w0 : World) (v : Value) : Option α → Prop
  | none => v = .pointer none
  | some x => ∃ g off, v = .pointer (some ⟨g, off, none⟩) ∧ g < w0.heap.size ∧ w0.rangeAt g off (c x)
theorem below_range {w0 w : World} (hb : Below w0.heap.size w0 w) {g off : Nat} {cs : List Value} (hg : g < w0.heap.size) (h : w0.rangeAt g off cs) : w.rangeAt g off cs := fun j u hu => (hb.cell (p := ⟨g, off + j, none⟩) hg).trans (h j u hu)
theorem OV.push {α : Type} {c : α → List Value} {n : Nat} {sl el : TypeId} {w0 w w' : World} {B : Nat} {l : List α} {x : α} {oa oa' : Option Addr} {oc oc' : Nat} (h0 : w0.heap.size ≤ B) (hB' : w'.heap[B]? = some (.cells #[.slice oa l.length oc] sl (0, 0))) (h2 : w.ownsRow (B + 1) el n (.slice oa l.length oc) l.length (l.flatMap c)) (h3 : Below w0.heap.size w0 w) (o : Obj)
    (hg : (w.alloc o).grownBy w' (Value.slice oa l.length oc).ownBlock) (hw : w'.ownsRow (B + 1) el n (.slice oa' (l.length + 1) oc') (l.length + 1) (l.flatMap c ++ c x)) :
    OV c n sl el w0 B (l ++ [x]) (w'.setCell ⟨B, 0, none⟩ (.slice oa' (l.length + 1) oc')) := by
  have hne : ∀ k, (Value.slice oa l.length oc).ownBlock = some k → B + 1 ≤ k := fun k hk => (h2.lt k hk).1
  have hbl : Below w0.heap.size w0 w' := (h3.alloc (h3.size) o).grown hg (by simp; have := h3.size; omega) (fun k hk => by have := hne k hk; omega)
  refine ⟨oa', oc', ?_, ?_, ?_⟩
  · rw [List.length_append, List.length_singleton]
    exact one_setCell hB'
  · rw [List.length_append, List.length_singleton, List.flatMap_append]
    simp only [List.flatMap_cons, List.flatMap_nil, List.append_nil]
    exact ownsRow_setCell_other hw (fun e => by have := (hw.lt B e).1; omega) _
  · exact hbl.setCell h0 _
theorem info_ed : ∃ i, Tryd.prog.info? 72 = some i ∧ i.zero = some (.agg (eC (⟨#[]⟩, false, zIt)).toArray) ∧ i.size = 7 ∧ i.bytes = 80 := info_parts (by kernel_rfl)
theorem info_it : ∃ i, Tryd.prog.info? 60 = some i ∧ i.zero = some (.agg (iC zIt).toArray) ∧ i.size = 5 ∧ i.bytes = 56 := info_parts (by kernel_rfl)
abbrev EV (w0 : World) (B : Nat) (l : List Ed) (w : World) : Prop := OV eC 7 54 72 w0 B l w
abbrev IV (w0 : World) (B : Nat) (l : List It) (w : World) : Prop := OV iC 5 53 60 w0 B l w
set_option maxRecDepth 100000 in
set_option maxHeartbeats 2000000 in
theorem diff1_gone (x : It) (g off : Nat) (w0 w : World) (B : Nat) (l : List Ed) (h0 : w0.heap.size ≤ B) (hv : EV w0 B l w) (hg : g < w0.heap.size) (hx : w0.rangeAt g off (iC x)) (hl : l.length ≤ 1000) :
    Calls Tryd.prog 57 #[.pointer (some ⟨g, off, none⟩), .pointer none, .pointer (some ⟨B, 0, none⟩)] w fun e w' => e = .returned (.tuple #[]) ∧ EV w0 B (l ++ [(x.1, true, zIt)]) w' := by
  obtain ⟨i0, hi0, hz0, hz1, hz2⟩ := info_ed
  obtain ⟨oa, oc, hb, hown, hbl⟩ := hv
  have x0 : w.drew.cell? ⟨g, off, none⟩ = some (.string x.1) := by
    have h := (below_range hbl hg hx) 0 _ rfl
    exact h
  have HB : Hid (w.drew.heap[B]? = some (.cells #[.slice oa l.length oc] 54 (0, 0))) := hb
  have HOWN : Hid (w.drew.ownsRow (B + 1) 72 7 (.slice oa l.length oc) l.length (l.flatMap eC)) := hown
  have HBL : Hid (Below w0.heap.size w0 w.drew) := hbl.drew
  clear hb hown hbl hx
  go_enter Tryd.func57, Tryd.ntmps57
  go_wp2_with fail
  refine wp_region_noPanic ?_
  refine wp_region_held_drew (S := fun w' => w'.cell? ⟨g, off, none⟩ = some (.string x.1)) (by kernel_rfl) x0 (fun hS0 => ?_)
  have HS0 := Lib.hid hS0
  generalize w.drew = wd at *
  have w0' := cell_of_row _ _ 0 _ _ _ HB.out
  simp only [List.getElem?_toArray, List.getElem?_cons_zero] at w0'
  refine take_val 1 (.pointer (some ⟨g, off, none⟩)) rfl (by kernel_rfl) (by kernel_rfl) (by kernel_rfl) (fun _ _ _ _ h => h) (by rfl) rfl (fun w _ => by go_simp) HS0.out ?_
  try simp only [List.set_cons_zero, List.set_cons_succ]
  refine take_val 2 (.pointer (some ⟨g, off, none⟩)) rfl (by kernel_rfl) (by kernel_rfl) (by kernel_rfl) (fun _ _ _ _ h => h) (by rfl) rfl (fun w _ => by go_simp) HS0.out ?_
  try simp only [List.set_cons_zero, List.set_cons_succ]
  refine take_val 3 (.pointer (some ⟨g, off, none⟩)) rfl (by kernel_rfl) (by kernel_rfl) (by kernel_rfl) (fun _ _ _ _ h => h) (by rfl) rfl (fun w _ => by go_simp) HS0.out ?_
  try simp only [List.set_cons_zero, List.set_cons_succ]
  refine take_val 4 (.string x.1) rfl (by kernel_rfl) (by kernel_rfl) (by kernel_rfl) (fun _ _ _ _ h => h) (by rfl) rfl (fun w hS => by go_simp) HS0.out ?_
  try simp only [List.set_cons_zero, List.set_cons_succ]
  refine take_val 5 (.agg #[.string x.1, .bool true, .string ⟨#[]⟩, .int .i64 0, .int .i64 0, .int .i64 0, .string ⟨#[]⟩]) rfl (by kernel_rfl) (by kernel_rfl) (by kernel_rfl) (fun _ _ _ _ h => h) (by rfl) rfl (fun w hS => by go_simp) HS0.out ?_
  try simp only [List.set_cons_zero, List.set_cons_succ]
  have D1 := Lib.hid (cells_new_at wd wd.heap.size rfl #[.string x.1, .bool true, .string ⟨#[]⟩, .int .i64 0, .int .i64 0, .int .i64 0, .string ⟨#[]⟩] 72 (eC (x.1, true, zIt)) rfl)
  have D2 : Hid (∀ u ∈ eC (x.1, true, zIt), u.oneCell' = true) := fun u hu => eC_one _ u hu
  have D3 : Hid (l.length + 1 ≤ maxLen) := by show _ ≤ _; unfold maxLen; omega
  have D4 : Hid ((l.length + 1) * 80 ≤ 140737488355328) := by show _ ≤ _; omega
  have D5 : Hid (B + 1 ≤ (wd.alloc (.cells #[.string x.1, .bool true, .string ⟨#[]⟩, .int .i64 0, .int .i64 0, .int .i64 0, .string ⟨#[]⟩] 72)).heap.size) := by show _ ≤ _; rw [World.size_alloc]; have := lt_of_block HB.out; omega
  have hAL : ∀ B', B' < wd.heap.size → (wd.alloc (.cells #[.string x.1, .bool true, .string ⟨#[]⟩, .int .i64 0, .int .i64 0, .int .i64 0, .string ⟨#[]⟩] 72)).heap[B']? = wd.heap[B']? := fun B' h => Below.heap_alloc wd _ B' h
  have HSA : Hid ((wd.alloc (.cells #[.string x.1, .bool true, .string ⟨#[]⟩, .int .i64 0, .int .i64 0, .int .i64 0, .string ⟨#[]⟩] 72)).cell? ⟨g, off, none⟩ = some (.string x.1)) := (((Below.refl wd.heap.size wd).alloc (Nat.le_refl _) _).cell (by show g < wd.heap.size; exact Nat.lt_of_lt_of_le hg HBL.out.size)).trans HS0.out
  have HVA : Hid ((wd.alloc (.cells #[.string x.1, .bool true, .string ⟨#[]⟩, .int .i64 0, .int .i64 0, .int .i64 0, .string ⟨#[]⟩] 72)).heap[B]? = some (.cells #[.slice oa l.length oc] 54 (0, 0))) := (hAL B (lt_of_block HB.out)).trans HB.out
  have va := cell_of_row _ _ 0 _ _ _ HVA.out
  simp only [List.getElem?_toArray, List.getElem?_cons_zero] at va
  have HNE : Hid (∀ k, (Value.slice oa l.length oc).ownBlock = some k → B + 1 ≤ k) := fun k hk => (HOWN.out.lt k hk).1
  have HVAR : Hid (∀ w', (wd.alloc (.cells #[.string x.1, .bool true, .string ⟨#[]⟩, .int .i64 0, .int .i64 0, .int .i64 0, .string ⟨#[]⟩] 72)).grownBy w' (Value.slice oa l.length oc).ownBlock → w'.heap[B]? = some (.cells #[.slice oa l.length oc] 54 (0, 0))) := fun w' hg' => (hg'.block B (lt_of_block HVA.out) (fun e => by have := HNE.out B e.symm; omega)).trans HVA.out
  have HKEEP : Hid (∀ w', (wd.alloc (.cells #[.string x.1, .bool true, .string ⟨#[]⟩, .int .i64 0, .int .i64 0, .int .i64 0, .string ⟨#[]⟩] 72)).grownBy w' (Value.slice oa l.length oc).ownBlock → w'.cell? ⟨g, off, none⟩ = some (.string x.1)) := fun w' hg' => by
    have hgb := HBL.out.size
    have e : w'.heap[g]? = (wd.alloc (.cells #[.string x.1, .bool true, .string ⟨#[]⟩, .int .i64 0, .int .i64 0, .int .i64 0, .string ⟨#[]⟩] 72)).heap[g]? := hg'.block g (by rw [World.size_alloc]; omega) (fun e => by have := HNE.out g e.symm; omega)
    exact (World.cell?_of_block e).trans HSA.out
  have HKS : Hid (∀ w' v, (wd.alloc (.cells #[.string x.1, .bool true, .string ⟨#[]⟩, .int .i64 0, .int .i64 0, .int .i64 0, .string ⟨#[]⟩] 72)).grownBy w' (Value.slice oa l.length oc).ownBlock → (w'.setCell ⟨B, 0, none⟩ v).cell? ⟨g, off, none⟩ = some (.string x.1)) := fun w' v hg' => by
    have hgb := HBL.out.size
    exact (World.cell?_setCell_far w' ⟨B, 0, none⟩ ⟨g, off, none⟩ v (by show B ≠ g; omega)).trans (HKEEP.out w' hg')
  refine two_ready 0 6 (by kernel_rfl) rfl rfl (by rfl) (by rfl) (fun K hK => ?_) (fun K hK => ?_)
  · go_simp
    refine hK.out _ _ HS0.out ?_
    clear hK K
    try simp only [Act.put, List.setIfInBounds_toArray, List.set_cons_zero, List.set_cons_succ]
    refine one_ready 6 (by kernel_rfl) rfl (by rfl) (fun K hK => ?_)
    go_simp
    refine hK.out _ _ HSA.out ?_
    clear hK K
    try simp only [Act.put, List.setIfInBounds_toArray, List.set_cons_zero, List.set_cons_succ]
    refine one_ready 7 (by kernel_rfl) rfl (by rfl) (fun K hK => ?_)
    refine wp_append_own _ _ _ 54 rfl (B + 1) 72 i0 (.agg (eC (⟨#[]⟩, false, zIt)).toArray) 7 80 Tryd.underlying54 hi0 hz0 hz1 hz2 rfl (by decide) _ _ _ rfl (HOWN.out.alloc _) ⟨wd.heap.size, 0, none⟩ 1 1 (eC (x.1, true, zIt)) rfl rfl D1.out D2.out D3.out D4.out D5.out ?_
    intro v' w' hown' hgrow _
    obtain ⟨oa', oc', rfl⟩ := own_form' hown'
    refine hK.out _ _ (HKEEP.out w' hgrow) ?_
    clear hK K
    try simp only [Act.put, List.setIfInBounds_toArray]
    try simp only [List.set_cons_zero, List.set_cons_succ]
    have hv1 := HVAR.out w' hgrow
    have hv2 := cell_of_row _ _ 0 _ _ _ hv1
    have hv3 := frozen_of_row _ _ 0 _ _ hv1
    simp only [List.getElem?_toArray, List.getElem?_cons_zero] at hv2
    refine one_ready 8 (by kernel_rfl) rfl (by rfl) (fun K hK => ?_)
    go_simp
    refine hK.out _ _ (HKS.out w' _ hgrow) ?_
    clear hK K
    refine wpAnyH_done (by kernel_rfl) ?_ _
    refine NoPanic.normal ?_
    have HF := Lib.hid (OV.push h0 hv1 HOWN.out HBL.out _ hgrow hown')
    go_wp2_with fail
    go_end0
    exact ⟨rfl, HF.out⟩
  · go_simp
    refine hK.out _ _ HSA.out ?_
    clear hK K
    try simp only [Act.put, List.setIfInBounds_toArray, List.set_cons_zero, List.set_cons_succ]
    refine one_ready 0 (by kernel_rfl) rfl (by rfl) (fun K hK => ?_)
    go_simp
    refine hK.out _ _ HSA.out ?_
    clear hK K
    try simp only [Act.put, List.setIfInBounds_toArray, List.set_cons_zero, List.set_cons_succ]
    refine one_ready 7 (by kernel_rfl) rfl (by rfl) (fun K hK => ?_)
    refine wp_append_own _ _ _ 54 rfl (B + 1) 72 i0 (.agg (eC (⟨#[]⟩, false, zIt)).toArray) 7 80 Tryd.underlying54 hi0 hz0 hz1 hz2 rfl (by decide) _ _ _ rfl (HOWN.out.alloc _) ⟨wd.heap.size, 0, none⟩ 1 1 (eC (x.1, true, zIt)) rfl rfl D1.out D2.out D3.out D4.out D5.out ?_
    intro v' w' hown' hgrow _
    obtain ⟨oa', oc', rfl⟩ := own_form' hown'
    refine hK.out _ _ (HKEEP.out w' hgrow) ?_
    clear hK K
    try simp only [Act.put, List.setIfInBounds_toArray]
    try simp only [List.set_cons_zero, List.set_cons_succ]
    have hv1 := HVAR.out w' hgrow
    have hv2 := cell_of_row _ _ 0 _ _ _ hv1
    have hv3 := frozen_of_row _ _ 0 _ _ hv1
    simp only [List.getElem?_toArray, List.getElem?_cons_zero] at hv2
    refine one_ready 8 (by kernel_rfl) rfl (by rfl) (fun K hK => ?_)
    go_simp
    refine hK.out _ _ (HKS.out w' _ hgrow) ?_
    clear hK K
    refine wpAnyH_done (by kernel_rfl) ?_ _
    refine NoPanic.normal ?_
    have HF := Lib.hid (OV.push h0 hv1 HOWN.out HBL.out _ hgrow hown')
    go_wp2_with fail
    go_end0
    exact ⟨rfl, HF.out⟩
end Go.Proofs.YtokckcmkbnhhhaaDoor
