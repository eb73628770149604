/- PackTrue: its walk; some blob and its pack. -/
import Derived.Test.YtbfhhnpoogmlnaaDoorPackOne
import Derived.Test.YtbfhhnpoogmlnaaDoorPackMake
namespace Go.Proofs.YtbfhhnpoogmlnaaDoor
open Go.RowKit Plain
set_option linter.unusedVariables false
set_option linter.unusedSimpArgs false
theorem sat_bl1 {w : World} {g : Nat} {b : Bl} {T : TypeId} {fr : Nat × Nat} (h : w.heap[g]? = some (.cells #[.int .i64 b.1, .string b.2] T fr)) : SAt 2 blC w (some ⟨g, 0, none⟩) [b] := fun i hi => by
  have hi0 : i = 0 := by simp only [List.length_singleton] at hi; omega
  subst hi0
  refine ⟨g, 0, rfl, lt_of_block h, fun j u hu => ?_⟩
  rw [cell_of_row _ _ _ _ _ _ h]
  match j, hu with
  | 0, hu => exact hu
  | 1, hu => exact hu
theorem pack_one_size {b : Bl} {ps : List ByteArray} (h : Packd [b] ps) : 20 ≤ (packB [b] ps).length := by
  obtain ⟨t, r, rfl, hp, hr⟩ := h.pr
  have hr : r = [] := hr
  subst hr
  have h1 := hp.1
  have h2 := (numS_sizeP 1 (by decide)).1
  have h3 := (numS_sizeP t.size (by have := h.ok b (by simp); have := (pcode_zero this).2; have := hp.2.1; omega)).1
  have h4 := pidL_length b
  simp only [packB, frontB, bodyB, dirB, entsB, entB, List.zip_cons_cons, List.zip_nil_right, List.flatMap_cons, List.flatMap_nil, List.append_nil, List.length_append, List.length_cons, List.length_nil, strN_length, be8, h4]
  omega
theorem list8 {l : List Nat} (h : l.length = 8) : ∃ b0 b1 b2 b3 b4 b5 b6 b7, l = [b0, b1, b2, b3, b4, b5, b6, b7] := by
  match l, h with
  | [b0, b1, b2, b3, b4, b5, b6, b7], _ => exact ⟨_, _, _, _, _, _, _, _, rfl⟩
def ab : ByteArray := ⟨#[97, 98]⟩
theorem good_ab : GoodL [(1, ab)] := ⟨by decide, fun b hb => by
  rw [List.mem_singleton] at hb
  subst hb
  exact pcode_ok (by decide) (by decide), by simp⟩
def SbEnd (w0 : World) (e : Ending) (w : World) : Prop := Below w0.heap.size w0 w ∧ ∃ t : ByteArray, 20 ≤ t.size ∧ e = .returned (.tuple #[.agg #[.int .i64 1, .string ⟨#[97, 98]⟩], .string t]) ∧ ∃ ps, Packd [(1, ab)] ps ∧ strN t = packB [(1, ab)] ps
set_option maxRecDepth 100000 in
set_option maxHeartbeats 4000000 in
theorem someBlob_any (w : World) : Calls Tryd.prog 27 #[] w (SbEnd w) := by
  have hb0 := (Below.refl w.heap.size w).alloc (Nat.le_refl _) (.cells #[.int .i64 0, .string ⟨#[]⟩] 28)
  have h2 := heap_twoK w (.cells #[.int .i64 0, .string ⟨#[]⟩] 28) (.cells #[.int .i64 1, .string ⟨#[97, 98]⟩] 28)
  have hb1 := hb0.alloc (by simp) (.cells #[.int .i64 1, .string ⟨#[97, 98]⟩] 28)
  have hb2 := hb1.alloc (by simp; omega) (.cells #[.int .i64 1, .string ⟨#[97, 98]⟩] 28)
  have hn := heap_alloc_new ((w.alloc (.cells #[.int .i64 0, .string ⟨#[]⟩] 28)).alloc (.cells #[.int .i64 1, .string ⟨#[97, 98]⟩] 28)) (.cells #[.int .i64 1, .string ⟨#[97, 98]⟩] 28)
  have hr0 := (Below.heap_alloc _ (.cells #[.int .i64 1, .string ⟨#[97, 98]⟩] 28) _ (lt_of_block h2.1)).trans h2.1
  have hr1 := (Below.heap_alloc _ (.cells #[.int .i64 1, .string ⟨#[97, 98]⟩] 28) _ (lt_of_block h2.2)).trans h2.2
  have hmk := make_any (some ⟨w.heap.size + 1 + 1, 0, none⟩) 1 [(1, ab)] (((w.alloc (.cells #[.int .i64 0, .string ⟨#[]⟩] 28)).alloc (.cells #[.int .i64 1, .string ⟨#[97, 98]⟩] 28)).alloc (.cells #[.int .i64 1, .string ⟨#[97, 98]⟩] 28)) (by
    have h := sat_bl1 (b := (1, ab)) hn
    rw [show ((w.alloc (.cells #[.int .i64 0, .string ⟨#[]⟩] 28)).alloc (.cells #[.int .i64 1, .string ⟨#[97, 98]⟩] 28)).heap.size = w.heap.size + 1 + 1 by simp] at h
    exact h) (by decide)
  have HMK := Lib.hid hmk
  have HB2 := Lib.hid hb2
  have HR0 := Lib.hid hr0
  have HR1 := Lib.hid hr1
  clear hb0 h2 hb1 hb2 hn hr0 hr1 hmk
  go_enter Tryd.func27, Tryd.ntmps27
  go_wp2_with fail
  refine HMK.out.mono ?_
  rintro e w3 ⟨hb3, t, c, rfl, ⟨_, _, hn⟩ | ⟨rfl, ps, hps, ht⟩⟩
  · exact absurd good_ab hn
  · have hr3 := (hb3.block _ (lt_of_block HR0.out)).trans HR0.out
    have hs3 := (hb3.block _ (lt_of_block HR1.out)).trans HR1.out
    have HB3 := Lib.hid (HB2.out.trans (hb3.mono HB2.out.size))
    have c0 := cell_of_row _ _ 0 _ _ _ hs3
    have c1 := cell_of_row _ _ 1 _ _ _ hs3
    simp only [List.getElem?_toArray, List.getElem?_cons_succ, List.getElem?_cons_zero] at c0 c1
    have HSZ : Hid (20 ≤ t.size) := by show 20 ≤ _; rw [← strN_length, ht]; exact pack_one_size hps
    have HPS := Lib.hid hps
    have HT := Lib.hid ht
    have HTH : Hid (w3.there w.heap.size 0 (#[.int .i64 1, .string ⟨#[97, 98]⟩] : Array Value).size) := there_part hr3 (by show 0 + 2 ≤ 2; omega)
    have HI2 : Hid ((Tryd.prog.info? 28).map (·.size) = some (#[.int .i64 1, .string ⟨#[97, 98]⟩] : Array Value).size) := by show (Tryd.prog.info? 28).map (·.size) = some 2; kernel_rfl
    have HO2 : Hid ((#[.int .i64 1, .string ⟨#[97, 98]⟩] : Array Value).all (·.oneCell') = true) := by show _ = _; simp [Value.oneCell']
    have HRW : Hid ((w3.setCells w.heap.size 0 [.int .i64 1, .string ⟨#[97, 98]⟩]).heap[w.heap.size]? = some (.cells #[.int .i64 1, .string ⟨#[97, 98]⟩] 28 (0, 0))) := row_full (ns := #[.int .i64 1, .string ⟨#[97, 98]⟩]) hr3 rfl
    have HBW : Hid (Below w.heap.size w (w3.setCells w.heap.size 0 [.int .i64 1, .string ⟨#[97, 98]⟩])) := below_setCells (Nat.le_refl _) _ _ HB3.out
    clear hb3 hr3 hs3 hps ht
    go_wp2_with (with_reducible refine wpList_store_mid rfl 28 (.tmp 0) (.tmp 12) rfl w.heap.size 0 #[.int .i64 1, .string ⟨#[97, 98]⟩] rfl rfl HTH.out HI2.out HO2.out ?_)
    refine bodyPost_ret (results_row_tmp1 rfl _ _ w.heap.size 28 _ (0, 0) _ rfl HRW.out Tryd.underlying28 rfl HI2.out) rfl ?_
    exact ⟨HBW.out, t, HSZ.out, rfl, ps, HPS.out, HT.out⟩
set_option maxRecDepth 100000 in
set_option maxHeartbeats 8000000 in
theorem packTrue_any (s : ByteArray) (id : List Nat) (k a n : Int) (w : World) (hid : id.length = 8) (hs : s.size ≤ 9223372036854775807) :
    Calls Tryd.prog 9 #[.string s, .agg (enA id k a n)] w fun e w' => e = .returned (.bool true) ∧ Below w.heap.size w w' := by
  have hes : (enA id k a n).size = 11 := enA_size hid
  have HE0 := Lib.hid (heap_alloc_new w (.cells (enA id k a n) 51))
  have HB0 := Lib.hid ((Below.refl w.heap.size w).alloc (Nat.le_refl _) (.cells (enA id k a n) 51))
  have HON := Lib.hid fun wx => one_any s id k a n wx hid hs
  have HIE : Hid ((Tryd.prog.info? 51).map (·.size) = some (enA id k a n).size) := by show (Tryd.prog.info? 51).map (·.size) = _; rw [enA_size hid]; kernel_rfl
  have HID := Lib.hid hid
  clear hid hs
  generalize hen : enA id k a n = E at *
  have HEN := Lib.hid hen
  clear hen
  go_enter Tryd.func9, Tryd.ntmps9
  go_wp2_with fail
  refine (someBlob_any _).mono ?_
  rintro e w1 ⟨hb1, t, ht, rfl, _⟩
  have z20 : ¬ (t.size : Int) < 20 := by omega
  have hb1' := HB0.out.trans (hb1.mono HB0.out.size)
  have he1 := (hb1.block _ (lt_of_block HE0.out)).trans HE0.out
  have HB2 := Lib.hid (hb1'.alloc hb1'.size (.cells #[.int .i64 1, .string ⟨#[97, 98]⟩] 28))
  have HE2 := Lib.hid ((Below.heap_alloc w1 (.cells #[.int .i64 1, .string ⟨#[97, 98]⟩] 28) _ (lt_of_block he1)).trans he1)
  clear hb1 hb1' he1 ht
  go_wp2_with (with_reducible refine wpList_load_row rfl 51 (.tmp 3) rfl w.heap.size rfl 51 E (0, 0) _ HE2.out Tryd.underlying51 rfl HIE.out ?_)
  refine (HON.out _).mono ?_
  rintro e w3 ⟨hb3, ⟨c, hc, rfl, _⟩ | ⟨u, rfl, hpc, hpi, _⟩⟩
  · have hb3' := HB2.out.trans (hb3.mono HB2.out.size)
    have HB3 := Lib.hid (hb3'.alloc hb3'.size (.cells #[.int .i64 0, .string ⟨#[]⟩] 28))
    have z1 : ((c : Int) != 0) = true := by simp; omega
    clear hb3 hb3' hc
    go_wp2_with fail
    go_ret
    exact ⟨rfl, HB3.out⟩
  · have hb3' := HB2.out.trans (hb3.mono HB2.out.size)
    have he3 := (hb3.block _ (lt_of_block HE2.out)).trans HE2.out
    have HB4 := Lib.hid (hb3'.alloc hb3'.size (.cells #[.int .i64 k, .string u] 28))
    have HE4 := Lib.hid ((Below.heap_alloc w3 (.cells #[.int .i64 k, .string u] 28) _ (lt_of_block he3)).trans he3)
    have hn4 := heap_alloc_new w3 (.cells #[.int .i64 k, .string u] 28)
    have HN4 := Lib.hid hn4
    have e0 := cell_of_row _ _ 0 _ _ _ hn4
    have e1 := cell_of_row _ _ 1 _ _ _ hn4
    simp only [List.getElem?_toArray, List.getElem?_cons_succ, List.getElem?_cons_zero] at e0 e1
    have HPC := Lib.hid hpc
    have HPI := Lib.hid hpi
    clear hb3 hb3' he3 hn4 hpc hpi
    go_wp2_with fail
    refine (pid_any (k, u) _).mono ?_
    rintro e w5 ⟨rfl, hb5⟩
    rw [HPC.out, HPI.out]
    have he5 := (hb5.block _ (lt_of_block HE4.out)).trans HE4.out
    have hn5 := (hb5.block _ (lt_of_block HN4.out)).trans HN4.out
    have hb5' := HB4.out.trans (hb5.mono HB4.out.size)
    have hz5 := heap_alloc_new w5 (.cells z8A 49)
    have HTH : Hid ((w5.alloc (.cells z8A 49)).there w5.heap.size 0 (bC id).size) := there_idB hz5 rfl HID.out
    have HIB : Hid ((Tryd.prog.info? 49).map (·.size) = some (bC id).size) := info_idB HID.out
    have HOB : Hid ((bC id).all (·.oneCell') = true) := bC_oneP id
    obtain ⟨w6, hw6⟩ : ∃ w6, (w5.alloc (.cells z8A 49)).setCells w5.heap.size 0 (bC id).toList = w6 := ⟨_, rfl⟩
    have hid6 : w6.heap[w5.heap.size]? = some (.cells (bC id) 49 (0, 0)) := by rw [← hw6]; exact row_idB hz5 rfl HID.out
    have hold : ∀ g, g < w5.heap.size → w6.heap[g]? = w5.heap[g]? := fun g hg => by
      rw [← hw6, heap_setCells_other _ _ (by omega) _ _ _]
      exact Below.heap_alloc w5 _ g hg
    have HW6 := Lib.hid hw6
    have HID6 := Lib.hid hid6
    have he6 := (hold _ (lt_of_block he5)).trans he5
    have hn6 := (hold _ (lt_of_block hn5)).trans hn5
    have HB6 : Hid (Below w.heap.size w w6) := by
      show Below _ _ _
      rw [← hw6]
      exact below_setCells hb5'.size _ _ (hb5'.alloc hb5'.size _)
    have d8 := cell_of_row _ _ 8 _ _ _ he6
    rw [← HEN.out, (enA_get (k := k) (a := a) (n := n) HID.out).1] at d8
    have t0 := cell_of_row _ _ 0 _ _ _ hn6
    have t1 := cell_of_row _ _ 1 _ _ _ hn6
    simp only [List.getElem?_toArray, List.getElem?_cons_succ, List.getElem?_cons_zero] at t0 t1
    have heq := equal_id8 w6 id id HID.out HID.out
    rw [decide_eq_true rfl] at heq
    rw [← HEN.out] at he6
    obtain ⟨b0, b1, b2, b3, b4, b5, b6, b7, hb8⟩ := list8 HID.out
    rw [hb8] at hid6 he6 heq
    have hne : (Op.equalIn 10000 49 (.agg #[.int .u8 (b0 : Int), .int .u8 (b1 : Int), .int .u8 (b2 : Int), .int .u8 (b3 : Int), .int .u8 (b4 : Int), .int .u8 (b5 : Int), .int .u8 (b6 : Int), .int .u8 (b7 : Int)]) (.agg #[.int .u8 (b0 : Int), .int .u8 (b1 : Int), .int .u8 (b2 : Int), .int .u8 (b3 : Int), .int .u8 (b4 : Int), .int .u8 (b5 : Int), .int .u8 (b6 : Int), .int .u8 (b7 : Int)])).run Tryd.prog w6 = .ok true w6 := heq
    have i0 : w6.cell? ⟨w5.heap.size, 0, none⟩ = some (.int .u8 (b0 : Int)) := by rw [cell_of_row _ _ 0 _ _ _ hid6]; rfl
    have j0 : w6.cell? ⟨w.heap.size, 0, none⟩ = some (.int .u8 (b0 : Int)) := by rw [cell_of_row _ _ 0 _ _ _ he6]; rfl
    have i1 : w6.cell? ⟨w5.heap.size, 1, none⟩ = some (.int .u8 (b1 : Int)) := by rw [cell_of_row _ _ 1 _ _ _ hid6]; rfl
    have j1 : w6.cell? ⟨w.heap.size, 1, none⟩ = some (.int .u8 (b1 : Int)) := by rw [cell_of_row _ _ 1 _ _ _ he6]; rfl
    have i2 : w6.cell? ⟨w5.heap.size, 2, none⟩ = some (.int .u8 (b2 : Int)) := by rw [cell_of_row _ _ 2 _ _ _ hid6]; rfl
    have j2 : w6.cell? ⟨w.heap.size, 2, none⟩ = some (.int .u8 (b2 : Int)) := by rw [cell_of_row _ _ 2 _ _ _ he6]; rfl
    have i3 : w6.cell? ⟨w5.heap.size, 3, none⟩ = some (.int .u8 (b3 : Int)) := by rw [cell_of_row _ _ 3 _ _ _ hid6]; rfl
    have j3 : w6.cell? ⟨w.heap.size, 3, none⟩ = some (.int .u8 (b3 : Int)) := by rw [cell_of_row _ _ 3 _ _ _ he6]; rfl
    have i4 : w6.cell? ⟨w5.heap.size, 4, none⟩ = some (.int .u8 (b4 : Int)) := by rw [cell_of_row _ _ 4 _ _ _ hid6]; rfl
    have j4 : w6.cell? ⟨w.heap.size, 4, none⟩ = some (.int .u8 (b4 : Int)) := by rw [cell_of_row _ _ 4 _ _ _ he6]; rfl
    have i5 : w6.cell? ⟨w5.heap.size, 5, none⟩ = some (.int .u8 (b5 : Int)) := by rw [cell_of_row _ _ 5 _ _ _ hid6]; rfl
    have j5 : w6.cell? ⟨w.heap.size, 5, none⟩ = some (.int .u8 (b5 : Int)) := by rw [cell_of_row _ _ 5 _ _ _ he6]; rfl
    have i6 : w6.cell? ⟨w5.heap.size, 6, none⟩ = some (.int .u8 (b6 : Int)) := by rw [cell_of_row _ _ 6 _ _ _ hid6]; rfl
    have j6 : w6.cell? ⟨w.heap.size, 6, none⟩ = some (.int .u8 (b6 : Int)) := by rw [cell_of_row _ _ 6 _ _ _ he6]; rfl
    have i7 : w6.cell? ⟨w5.heap.size, 7, none⟩ = some (.int .u8 (b7 : Int)) := by rw [cell_of_row _ _ 7 _ _ _ hid6]; rfl
    have j7 : w6.cell? ⟨w.heap.size, 7, none⟩ = some (.int .u8 (b7 : Int)) := by rw [cell_of_row _ _ 7 _ _ _ he6]; rfl
    clear hb5 hb5' hz5 hid6 hold he5 hn5 he6 hn6 hw6 e0 e1 heq hb8
    go_wp2_with (with_reducible refine wpList_store_mid rfl 49 (.tmp 9) (.tmp 37) rfl w5.heap.size 0 (bC id) rfl rfl HTH.out HIB.out HOB.out ?_; rw [HW6.out])
    go_ret
    exact ⟨rfl, HB6.out⟩
end Go.Proofs.YtbfhhnpoogmlnaaDoor
