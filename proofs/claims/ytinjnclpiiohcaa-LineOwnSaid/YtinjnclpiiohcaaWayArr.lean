/- The walk of (*way).arrives. -/
import Derived.Test.YtinjnclpiiohcaaWay
import Derived.Test.YtinjnclpiiohcaaLineShort
namespace Go.Proofs.Ytinjnclpiiohcaa
open Go.RowKit Plain
set_option linter.unusedVariables false
set_option linter.unusedSimpArgs false
theorem row_part {w : World} {b : Nat} {full : Array Value} {T : TypeId} {fr : Nat × Nat} (h : w.heap[b]? = some (.cells full T fr)) (o n : Nat) {cs : List Value} (hc : cs = (full.toList.drop o).take n) : w.rangeAt b o cs := by
  intro j u hu
  rw [hc, List.getElem?_take] at hu
  split at hu
  · rw [List.getElem?_drop, Array.getElem?_toList] at hu
    rw [cell_of_row _ _ _ _ _ _ h]
    exact hu
  · cases hu
theorem there_part {w : World} {b o n : Nat} {full : Array Value} {T : TypeId} (h : w.heap[b]? = some (.cells full T (0, 0))) (hn : o + n ≤ full.size) : w.there b o n := fun j hj => by
  refine ⟨?_, frozen_of_row _ _ _ _ _ h⟩
  rw [cell_of_row _ _ _ _ _ _ h, Array.getElem?_eq_getElem (by omega)]
  rfl
theorem LInv.sok {T : List ByteArray} {had : List Bool} {b : Nat} {got : List ByteArray} {held : List PkT} (h : LInv T had b got held) (hT : Short T) : SOk T had (b : Int) := by
  have h1 := h.adv.2.1
  have h2 := h.len
  have h3 := hT.1
  exact ⟨by omega, h2, by omega, by omega, fun j hj => hT.2 _ (List.getElem_mem hj), fun j hj => h.adv.2.2.1 j (Nat.zero_le _) (by omega)⟩
theorem LInv.rok {T : List ByteArray} {had : List Bool} {b : Nat} {got : List ByteArray} {held : List PkT} (h : LInv T had b got held) (hT : Short T) : ROk got.length held := by
  have h1 := h.gle
  have h3 := hT.1
  have h4 := h.held_le
  refine ⟨by omega, by omega, fun j hj => ?_⟩
  split
  · rename_i e
    subst e
    exact (h.hld _ (List.getElem_mem hj)).1
  · exact h.up (j - 1) j (by omega) hj
theorem take_more {α : Type} {e : α} {got got' : List α} {held held' more : List (Pkt α)} {p : Pkt α} (h : Take e got held p got' held' more) : more.length ≤ 1 := by
  rcases h with ⟨_, _, _, rfl⟩ | ⟨_, _, _, _, rfl, _⟩
  · exact Nat.zero_le _
  · exact Nat.le_refl _
theorem more_keep {w w' : World} {wb : Nat} {T : List ByteArray} {s : LSt ByteArray} {ta ha ga la na : Option Addr} {tc hc gc lc nc : Nat} {a : Option Addr} {more : List PkT} (hr : w.heap[wb]? = some (.cells (wayR T s ta tc ha hc ga gc la lc na nc) 57 (0, 0))) (h : SAt 3 pkC w a more) (hs : w.heap.size ≤ w'.heap.size) (hb : ∀ k, k ≠ wb → w'.heap[k]? = w.heap[k]?) : SAt 3 pkC w' a more := fun i hi => by
  obtain ⟨b, off, e, hbl, hc⟩ := h i hi
  have hne : b ≠ wb := by
    rintro rfl
    have h0 := hc 0 _ rfl
    have h1 := hc 1 _ rfl
    rw [cell_of_row _ _ _ _ _ _ hr] at h0 h1
    revert h0 h1
    generalize off + i * 3 = o
    intro h0 h1
    match o with
    | 0 | 1 | 3 | 4 | 5 | 6 => simp at h0
    | 2 => simp at h1
    | o + 7 => simp at h0
  refine ⟨b, off, e, Nat.lt_of_lt_of_le hbl hs, fun j u hu => ?_⟩
  rw [World.cell?_of_block (a := ⟨b, off + i * 3 + j, none⟩) (hb b hne)]
  exact hc j u hu
def ArEnd (B0 wb : Nat) (T : List ByteArray) (p : PkT) (s : LSt ByteArray) (w0 : World) (e : Ending) (w : World) : Prop := e = .returned (.tuple #[]) ∧ Below B0 w0 w ∧ ∃ s' ta tc ha hc ga gc la lc na nc, Arr ⟨#[]⟩ p s s' ∧ WSt B0 wb T s' ta tc ha hc ga gc la lc na nc w
set_option maxRecDepth 100000 in
set_option maxHeartbeats 1600000 in
theorem arrives_any (B0 wb : Nat) (T : List ByteArray) (p : PkT) (s : LSt ByteArray) (ta : Option Addr) (tc : Nat) (ha : Option Addr) (hc : Nat) (ga : Option Addr) (gc : Nat) (la : Option Addr) (lc : Nat) (na : Option Addr) (nc : Nat) (w : World) (hW : WSt B0 wb T s ta tc ha hc ga gc la lc na nc w) (hL : LInv T s.had s.b s.got s.held) (hT : Short T) (hn : s.net.length ≤ 4000) :
    Calls Try.prog 30 #[.pointer (some ⟨wb, 0, none⟩), .agg (pkC p).toArray] w (ArEnd B0 wb T p s w) := by
  obtain ⟨k, q, x⟩ := p
  obtain ⟨i0, hi0, hz0, hz1, hz2⟩ := info_pkM
  have HIS : Hid ((Try.prog.info? 25).map (·.size) = some 3) := by show _ = _; kernel_rfl
  have HIR : Hid ((Try.prog.info? 28).map (·.size) = some 2) := by show _ = _; kernel_rfl
  have HIP : Hid ((Try.prog.info? 30).map (·.size) = some 3) := by show _ = _; kernel_rfl
  have HSOK := Lib.hid (LInv.sok hL hT)
  have HROK := Lib.hid (LInv.rok hL hT)
  have hT1 : T.length ≤ 9223372036854775807 := by have := hT.1; omega
  have hT2 : s.had.length ≤ 9223372036854775807 := by rw [hL.len]; exact hT1
  have hG1 : s.got.length ≤ 9223372036854775807 := by have := hL.gle; omega
  have hG2 : s.held.length ≤ 9223372036854775807 := by have := hL.held_le; omega
  have HLT : Hid (wb < w.heap.size) := lt_of_block hW.row
  have HB0 := Lib.hid hW.base
  have HB := Lib.hid ((Below.refl B0 w).alloc (by have := HLT.out; have := HB0.out; omega) (.cells (pkC (k, q, x)).toArray 30))
  have HW1 := Lib.hid (hW.below ((Below.refl w.heap.size w).alloc (Nat.le_refl _) (.cells (pkC (k, q, x)).toArray 30)))
  have HP1 : Hid ((w.alloc (.cells (pkC (k, q, x)).toArray 30)).heap[w.heap.size]? = some (.cells (pkC (k, q, x)).toArray 30 (0, 0))) := heap_alloc_new w _
  clear hW hL hT
  simp only [pkC] at HB HW1 HP1 ⊢
  go_enter Try.func30, Try.ntmps30
  by_cases hk : k = 2
  · subst hk
    go_wp2_with fail
    refine wp_region_noPanic ?_
    refine wp_region_held_drew (S := fun u => u.heap[w.heap.size]? = some (.cells #[.int .i64 2, .int .i64 q, .string x] 30 (0, 0))) (by kernel_rfl) HP1.out (fun hS0 => ?_)
    have HS0 := Lib.hid hS0
    clear hS0
    have HWD := Lib.hid (HW1.out.below ((Below.refl _ _).drew))
    have HBD := Lib.hid HB.out.drew
    generalize (w.alloc (.cells #[.int .i64 2, .int .i64 q, .string x] 30)).drew = u0 at *
    refine take_val 0 (.pointer (some ⟨wb, 0, none⟩)) rfl (by kernel_rfl) (by kernel_rfl) (by kernel_rfl) (fun _ _ _ _ h => h) (by rfl) rfl (fun wz hS => by go_simp) HS0.out ?_
    try simp only [List.set_cons_zero, List.set_cons_succ]
    refine take_val 1 (.pointer (some ⟨wb, 0, none⟩)) rfl (by kernel_rfl) (by kernel_rfl) (by kernel_rfl) (fun _ _ _ _ h => h) (by rfl) rfl (fun wz hS => by go_simp) HS0.out ?_
    try simp only [List.set_cons_zero, List.set_cons_succ]
    refine take_val 2 (.pointer (some ⟨wb, 0, none⟩)) rfl (by kernel_rfl) (by kernel_rfl) (by kernel_rfl) (fun _ _ _ _ h => h) (by rfl) rfl (fun wz hS => by go_simp) HS0.out ?_
    try simp only [List.set_cons_zero, List.set_cons_succ]
    refine take_val 3 (.pointer (some ⟨wb, 0, none⟩)) rfl (by kernel_rfl) (by kernel_rfl) (by kernel_rfl) (fun _ _ _ _ h => h) (by rfl) rfl (fun wz hS => by go_simp) HS0.out ?_
    try simp only [List.set_cons_zero, List.set_cons_succ]
    refine take_row 5 (cs := [.int .i64 2, .int .i64 q, .string x]) rfl (by kernel_rfl) (by kernel_rfl) (by kernel_rfl) (fun _ _ _ _ h => h) (by rfl) rfl rfl rfl (fun _ hS => row_rangeG hS) Try.underlying30 rfl HIP.out HS0.out ?_
    try simp only [List.set_cons_zero, List.set_cons_succ]
    refine one_ready 4 (by kernel_rfl) rfl (by rfl) (fun K hK => ?_)
    refine wp_load_mid 25 _ rfl wb 0 rfl [.slice ta T.length tc, .slice ha s.had.length hc, .int .i64 (s.b : Int)] _ (row_part HWD.out.row 0 3 rfl) Try.underlying25 rfl HIS.out ?_
    refine hK.out _ _ HS0.out ?_
    clear hK K
    try simp only [Act.put, List.setIfInBounds_toArray]
    try simp only [List.set_cons_zero, List.set_cons_succ]
    refine one_ready 6 (by kernel_rfl) rfl (by rfl) (fun K hK => ?_)
    refine wp_call_run (f := 14) (args := #[.agg #[.slice ta T.length tc, .slice ha s.had.length hc, .int .i64 (s.b : Int)], .agg #[.int .i64 2, .int .i64 q, .string x]]) (by kernel_rfl) (hears_any ta ha tc hc T s.had (s.b : Int) (2, q, x) u0 HWD.out.t.1 HWD.out.h.1 hT1 hT2) ?_
    rintro e u1 ⟨hb1, hr⟩
    have HWE := Lib.hid (HWD.out.below hb1)
    have HBE := Lib.hid (Below.next HBD.out hb1 (Nat.le_trans HB0.out (Nat.le_of_lt HLT.out)))
    have HSE := Lib.hid ((hb1.block _ (lt_of_block HS0.out)).trans HS0.out)
    have HU1 := Lib.hid hb1.size
    rcases hr with ⟨hn, _⟩ | ⟨_, a1, c1, a2, c2, b', rfl, s1, s2, n1, n2, hadv⟩
    · exact absurd HSOK.out hn
    refine ⟨_, rfl, ?_⟩
    refine hK.out _ _ HSE.out ?_
    clear hK K
    try simp only [Act.put, List.setIfInBounds_toArray]
    try simp only [List.set_cons_zero, List.set_cons_succ]
    have hlt1 : wb < u0.heap.size := lt_of_block HWD.out.row
    have hna1 := HWD.out.na_lt
    have HL1 := Lib.hid (LAt.fresh s1 n1 hlt1 hna1)
    have HL2 := Lib.hid (LAt.fresh s2 n2 hlt1 hna1)
    have HADV := Lib.hid hadv
    clear s1 s2 n1 n2 hadv hb1 hlt1 hna1
    have HWS := Lib.hid (HWE.out.sender (b := b') (tc' := c1) (hc' := c2) HL1.out HL2.out)
    refine take_val 7 (.tuple #[.agg #[.slice a1 T.length c1, .slice a2 (hear s.had (2, q, x)).length c2, .int .i64 (b' : Int)], .int .i64 0]) rfl (by kernel_rfl) (by kernel_rfl) (by kernel_rfl) (fun _ _ _ _ h => h) (by rfl) rfl (fun wz hS => by go_simp) HSE.out ?_
    try simp only [List.set_cons_zero, List.set_cons_succ]
    refine take_val 8 (.agg #[.slice a1 T.length c1, .slice a2 (hear s.had (2, q, x)).length c2, .int .i64 (b' : Int)]) rfl (by kernel_rfl) (by kernel_rfl) (by kernel_rfl) (fun _ _ _ _ h => h) (by rfl) rfl (fun wz hS => by go_simp) HSE.out ?_
    try simp only [List.set_cons_zero, List.set_cons_succ]
    refine take_val 9 (.int .i64 0) rfl (by kernel_rfl) (by kernel_rfl) (by kernel_rfl) (fun _ _ _ _ h => h) (by rfl) rfl (fun wz hS => by go_simp) HSE.out ?_
    try simp only [List.set_cons_zero, List.set_cons_succ]
    refine take_val 10 (.pointer (some ⟨wb, 0, none⟩)) rfl (by kernel_rfl) (by kernel_rfl) (by kernel_rfl) (fun _ _ _ _ h => h) (by rfl) rfl (fun wz hS => by go_simp) HSE.out ?_
    try simp only [List.set_cons_zero, List.set_cons_succ]
    refine take_val 11 (.pointer (some ⟨wb, 0, none⟩)) rfl (by kernel_rfl) (by kernel_rfl) (by kernel_rfl) (fun _ _ _ _ h => h) (by rfl) rfl (fun wz hS => by go_simp) HSE.out ?_
    try simp only [List.set_cons_zero, List.set_cons_succ]
    refine one_ready 12 (by kernel_rfl) rfl (by rfl) (fun K hK => ?_)
    refine wp_store_mid 25 _ _ rfl wb 0 #[.slice a1 T.length c1, .slice a2 (hear s.had (2, q, x)).length c2, .int .i64 (b' : Int)] rfl rfl (there_part HWE.out.row (show 0 + 3 ≤ 7 from by decide)) HIS.out (sender_one _ _ _ _ _ _ _) ?_
    have hpk : (u1.setCells wb 0 [.slice a1 T.length c1, .slice a2 (hear s.had (2, q, x)).length c2, .int .i64 (b' : Int)]).heap[w.heap.size]? = some (.cells #[.int .i64 2, .int .i64 q, .string x] 30 (0, 0)) := (heap_setCells_other wb _ (by have := HLT.out; omega) _ _ _).trans HSE.out
    refine hK.out _ _ hpk ?_
    clear hK K
    try simp only [Act.put, List.setIfInBounds_toArray]
    try simp only [List.set_cons_zero, List.set_cons_succ]
    refine take_val 13 (.int .i64 0) rfl (by kernel_rfl) (by kernel_rfl) (by kernel_rfl) (fun _ _ _ _ h => h) (by rfl) rfl (fun wz hS => by go_simp) hpk ?_
    try simp only [List.set_cons_zero, List.set_cons_succ]
    refine wpAnyH_done (by kernel_rfl) ?_ _
    refine NoPanic.normal ?_
    have HBF := Lib.hid (below_setCells HB0.out [.slice a1 T.length c1, .slice a2 (hear s.had (2, q, x)).length c2, .int .i64 (b' : Int)] 0 HBE.out)
    have hsz2 := (below_setCells (Nat.zero_le wb) [.slice a1 T.length c1, .slice a2 (hear s.had (2, q, x)).length c2, .int .i64 (b' : Int)] 0 (Below.refl 0 u1)).size
    have HMF : Hid (True) := trivial
    have HWR := HWS
    clear HWS hpk hsz2
    generalize u1.setCells wb 0 [.slice a1 T.length c1, .slice a2 (hear s.had (2, q, x)).length c2, .int .i64 (b' : Int)] = u2 at *
    have r0 := cell_of_row _ _ 0 _ _ _ HWR.out.row
    have r1 := cell_of_row _ _ 1 _ _ _ HWR.out.row
    have r2 := cell_of_row _ _ 2 _ _ _ HWR.out.row
    have r3 := cell_of_row _ _ 3 _ _ _ HWR.out.row
    have r4 := cell_of_row _ _ 4 _ _ _ HWR.out.row
    have r5 := cell_of_row _ _ 5 _ _ _ HWR.out.row
    have r6 := cell_of_row _ _ 6 _ _ _ HWR.out.row
    have f5 := frozen_of_row _ _ 5 _ _ HWR.out.row
    have f6 := frozen_of_row _ _ 6 _ _ HWR.out.row
    simp only [List.getElem?_toArray, List.getElem?_cons_succ, List.getElem?_cons_zero] at r0 r1 r2 r3 r4 r5 r6
    have HFL := Lib.hid HWR.out.flag
    have HBG : Hid (Below B0 w (u2.setCell ⟨wb, 6, none⟩ (.bool false))) := Lib.hid (below_setCells HB0.out [.bool false] 6 HBF.out)
    have HMG : Hid (SAt 3 pkC (u2.setCell ⟨wb, 6, none⟩ (.bool false)) none ([] : List PkT)) := fun i hi => absurd hi (Nat.not_lt_zero _)
    have hml : (([] : List PkT)).length ≤ 1 := Nat.zero_le _
    have D3 : Hid (s.net.length + (([] : List PkT)).length ≤ maxLen) := by show _ ≤ _; unfold maxLen; omega
    have D4 : Hid ((s.net.length + (([] : List PkT)).length) * 32 ≤ 140737488355328) := by show _ ≤ _; omega
    have hlt := lt_of_block HFL.out.row
    have D5 : Hid (B0 ≤ (u2.setCell ⟨wb, 6, none⟩ (.bool false)).heap.size) := by show _ ≤ _; have := HB0.out; omega
    clear hlt hml
    go_wp2_with (at_builtin; refine wpList_append_sat2 rfl _ _ 26 rfl B0 30 i0 (.agg (pkC ((0, 0, ⟨#[]⟩) : PkT)).toArray) 3 32 Try.underlying26 hi0 hz0 hz1 hz2 rfl (by decide) _ _ _ rfl HFL.out.own none 0 ([] : List PkT) rfl HMG.out pkC_length pkC_one D3.out D4.out D5.out ?_)
    intro v' w3 hown' hgrow hnew
    obtain ⟨na2, nc2, rfl⟩ := own_formK hown'
    have HNA : Hid (NAnew (u2.setCell ⟨wb, 6, none⟩ (.bool false)) na na2) := fun nd e => (na_new hnew nd e).imp id (fun h => by simpa [World.setCell] using h)
    have HG := Lib.hid hgrow
    have HO3 := Lib.hid hown'
    have HFIN := Lib.hid (HFL.out.net HG.out HNA.out HO3.out)
    have hr3 := (HG.out.block wb (lt_of_block HFL.out.row) (own_neqK HFL.out.own HFL.out.row (by decide))).trans HFL.out.row
    have s5 := cell_of_row _ _ 5 _ _ _ hr3
    have g5 := frozen_of_row _ _ 5 _ _ hr3
    simp only [List.getElem?_toArray, List.getElem?_cons_succ, List.getElem?_cons_zero] at s5
    have HBH := Lib.hid (below_setCells HB0.out [.slice na2 (s.net).length nc2] 5 (below_own HBG.out HG.out D5.out HFL.out.own (Nat.le_refl _)))
    clear hown' hgrow hnew hr3
    go_wp2_with fail
    go_end0
    exact ⟨rfl, HBH.out, _, _, _, _, _, _, _, _, _, _, _, .inl ⟨rfl, b', HADV.out, rfl⟩, HFIN.out⟩
  · have hk2 : (k == 2) = false := by rw [beq_eq_false_iff_ne]; exact hk
    have HK := Lib.hid hk
    clear hk
    go_wp2_with fail
    refine wp_region_noPanic ?_
    refine wp_region_held_drew (S := fun u => u.heap[w.heap.size]? = some (.cells #[.int .i64 k, .int .i64 q, .string x] 30 (0, 0))) (by kernel_rfl) HP1.out (fun hS0 => ?_)
    have HS0 := Lib.hid hS0
    clear hS0
    have HWD := Lib.hid (HW1.out.below ((Below.refl _ _).drew))
    have HBD := Lib.hid HB.out.drew
    generalize (w.alloc (.cells #[.int .i64 k, .int .i64 q, .string x] 30)).drew = u0 at *
    refine take_val 0 (.pointer (some ⟨wb, 0, none⟩)) rfl (by kernel_rfl) (by kernel_rfl) (by kernel_rfl) (fun _ _ _ _ h => h) (by rfl) rfl (fun wz hS => by go_simp) HS0.out ?_
    try simp only [List.set_cons_zero, List.set_cons_succ]
    refine take_val 1 (.pointer (some ⟨wb, 0, none⟩)) rfl (by kernel_rfl) (by kernel_rfl) (by kernel_rfl) (fun _ _ _ _ h => h) (by rfl) rfl (fun wz hS => by go_simp) HS0.out ?_
    try simp only [List.set_cons_zero, List.set_cons_succ]
    refine take_val 2 (.pointer (some ⟨wb, 0, none⟩)) rfl (by kernel_rfl) (by kernel_rfl) (by kernel_rfl) (fun _ _ _ _ h => h) (by rfl) rfl (fun wz hS => by go_simp) HS0.out ?_
    try simp only [List.set_cons_zero, List.set_cons_succ]
    refine take_val 3 (.pointer (some ⟨wb, 3, none⟩)) rfl (by kernel_rfl) (by kernel_rfl) (by kernel_rfl) (fun _ _ _ _ h => h) (by rfl) rfl (fun wz hS => by go_simp) HS0.out ?_
    try simp only [List.set_cons_zero, List.set_cons_succ]
    refine take_row 5 (cs := [.int .i64 k, .int .i64 q, .string x]) rfl (by kernel_rfl) (by kernel_rfl) (by kernel_rfl) (fun _ _ _ _ h => h) (by rfl) rfl rfl rfl (fun _ hS => row_rangeG hS) Try.underlying30 rfl HIP.out HS0.out ?_
    try simp only [List.set_cons_zero, List.set_cons_succ]
    refine one_ready 4 (by kernel_rfl) rfl (by rfl) (fun K hK => ?_)
    refine wp_load_mid 28 _ rfl wb 3 rfl [.slice ga s.got.length gc, .slice la s.held.length lc] _ (row_part HWD.out.row 3 2 rfl) Try.underlying28 rfl HIR.out ?_
    refine hK.out _ _ HS0.out ?_
    clear hK K
    try simp only [Act.put, List.setIfInBounds_toArray]
    try simp only [List.set_cons_zero, List.set_cons_succ]
    refine one_ready 6 (by kernel_rfl) rfl (by rfl) (fun K hK => ?_)
    refine wp_call_run (f := 15) (args := #[.agg #[.slice ga s.got.length gc, .slice la s.held.length lc], .agg #[.int .i64 k, .int .i64 q, .string x]]) (by kernel_rfl) (takes_any ga la gc lc s.got s.held (k, q, x) u0 HWD.out.g.1 HWD.out.l.1 hG1 hG2) ?_
    rintro e u1 ⟨hb1, hr⟩
    have HWE := Lib.hid (HWD.out.below hb1)
    have HBE := Lib.hid (Below.next HBD.out hb1 (Nat.le_trans HB0.out (Nat.le_of_lt HLT.out)))
    have HSE := Lib.hid ((hb1.block _ (lt_of_block HS0.out)).trans HS0.out)
    have HU1 := Lib.hid hb1.size
    rcases hr with ⟨hn, _⟩ | ⟨_, got, held, more, a1, c1, a2, c2, a3, c3, rfl, s1, s2, s3, n1, n2, hadv⟩
    · exact absurd HROK.out hn
    refine ⟨_, rfl, ?_⟩
    refine hK.out _ _ HSE.out ?_
    clear hK K
    try simp only [Act.put, List.setIfInBounds_toArray]
    try simp only [List.set_cons_zero, List.set_cons_succ]
    have hlt1 : wb < u0.heap.size := lt_of_block HWD.out.row
    have hna1 := HWD.out.na_lt
    have HL1 := Lib.hid (LAt.fresh s1 n1 hlt1 hna1)
    have HL2 := Lib.hid (LAt.fresh s2 n2 hlt1 hna1)
    have HTK := Lib.hid hadv
    have HMO := Lib.hid s3
    clear s1 s2 s3 n1 n2 hadv hb1 hlt1 hna1
    have HWS := Lib.hid (HWE.out.receiver (gc' := c1) (lc' := c2) HL1.out HL2.out)
    refine take_val 7 (.tuple #[.agg #[.slice a1 got.length c1, .slice a2 held.length c2], .slice a3 more.length c3, .int .i64 0]) rfl (by kernel_rfl) (by kernel_rfl) (by kernel_rfl) (fun _ _ _ _ h => h) (by rfl) rfl (fun wz hS => by go_simp) HSE.out ?_
    try simp only [List.set_cons_zero, List.set_cons_succ]
    refine take_val 8 (.agg #[.slice a1 got.length c1, .slice a2 held.length c2]) rfl (by kernel_rfl) (by kernel_rfl) (by kernel_rfl) (fun _ _ _ _ h => h) (by rfl) rfl (fun wz hS => by go_simp) HSE.out ?_
    try simp only [List.set_cons_zero, List.set_cons_succ]
    refine take_val 9 (.slice a3 more.length c3) rfl (by kernel_rfl) (by kernel_rfl) (by kernel_rfl) (fun _ _ _ _ h => h) (by rfl) rfl (fun wz hS => by go_simp) HSE.out ?_
    try simp only [List.set_cons_zero, List.set_cons_succ]
    refine take_val 10 (.int .i64 0) rfl (by kernel_rfl) (by kernel_rfl) (by kernel_rfl) (fun _ _ _ _ h => h) (by rfl) rfl (fun wz hS => by go_simp) HSE.out ?_
    try simp only [List.set_cons_zero, List.set_cons_succ]
    refine take_val 11 (.pointer (some ⟨wb, 0, none⟩)) rfl (by kernel_rfl) (by kernel_rfl) (by kernel_rfl) (fun _ _ _ _ h => h) (by rfl) rfl (fun wz hS => by go_simp) HSE.out ?_
    try simp only [List.set_cons_zero, List.set_cons_succ]
    refine take_val 12 (.pointer (some ⟨wb, 3, none⟩)) rfl (by kernel_rfl) (by kernel_rfl) (by kernel_rfl) (fun _ _ _ _ h => h) (by rfl) rfl (fun wz hS => by go_simp) HSE.out ?_
    try simp only [List.set_cons_zero, List.set_cons_succ]
    refine one_ready 13 (by kernel_rfl) rfl (by rfl) (fun K hK => ?_)
    refine wp_store_mid 28 _ _ rfl wb 3 #[.slice a1 got.length c1, .slice a2 held.length c2] rfl rfl (there_part HWE.out.row (show 3 + 2 ≤ 7 from by decide)) HIR.out (recv_one _ _ _ _ _ _) ?_
    have hpk : (u1.setCells wb 3 [.slice a1 got.length c1, .slice a2 held.length c2]).heap[w.heap.size]? = some (.cells #[.int .i64 k, .int .i64 q, .string x] 30 (0, 0)) := (heap_setCells_other wb _ (by have := HLT.out; omega) _ _ _).trans HSE.out
    refine hK.out _ _ hpk ?_
    clear hK K
    try simp only [Act.put, List.setIfInBounds_toArray]
    try simp only [List.set_cons_zero, List.set_cons_succ]
    refine take_val 14 (.slice a3 more.length c3) rfl (by kernel_rfl) (by kernel_rfl) (by kernel_rfl) (fun _ _ _ _ h => h) (by rfl) rfl (fun wz hS => by go_simp) hpk ?_
    try simp only [List.set_cons_zero, List.set_cons_succ]
    refine take_val 15 (.int .i64 0) rfl (by kernel_rfl) (by kernel_rfl) (by kernel_rfl) (fun _ _ _ _ h => h) (by rfl) rfl (fun wz hS => by go_simp) hpk ?_
    try simp only [List.set_cons_zero, List.set_cons_succ]
    refine wpAnyH_done (by kernel_rfl) ?_ _
    refine NoPanic.normal ?_
    have HBF := Lib.hid (below_setCells HB0.out [.slice a1 got.length c1, .slice a2 held.length c2] 3 HBE.out)
    have hsz2 := (below_setCells (Nat.zero_le wb) [.slice a1 got.length c1, .slice a2 held.length c2] 3 (Below.refl 0 u1)).size
    have HMF : Hid (SAt 3 pkC (u1.setCells wb 3 [.slice a1 got.length c1, .slice a2 held.length c2]) a3 more) := more_keep HWE.out.row HMO.out hsz2 (fun k hk => heap_setCells_other wb k hk _ _ _)
    have HWR := HWS
    clear HWS hpk hsz2
    generalize u1.setCells wb 3 [.slice a1 got.length c1, .slice a2 held.length c2] = u2 at *
    have r0 := cell_of_row _ _ 0 _ _ _ HWR.out.row
    have r1 := cell_of_row _ _ 1 _ _ _ HWR.out.row
    have r2 := cell_of_row _ _ 2 _ _ _ HWR.out.row
    have r3 := cell_of_row _ _ 3 _ _ _ HWR.out.row
    have r4 := cell_of_row _ _ 4 _ _ _ HWR.out.row
    have r5 := cell_of_row _ _ 5 _ _ _ HWR.out.row
    have r6 := cell_of_row _ _ 6 _ _ _ HWR.out.row
    have f5 := frozen_of_row _ _ 5 _ _ HWR.out.row
    have f6 := frozen_of_row _ _ 6 _ _ HWR.out.row
    simp only [List.getElem?_toArray, List.getElem?_cons_succ, List.getElem?_cons_zero] at r0 r1 r2 r3 r4 r5 r6
    have HFL := Lib.hid HWR.out.flag
    have HBG : Hid (Below B0 w (u2.setCell ⟨wb, 6, none⟩ (.bool false))) := Lib.hid (below_setCells HB0.out [.bool false] 6 HBF.out)
    have HMG : Hid (SAt 3 pkC (u2.setCell ⟨wb, 6, none⟩ (.bool false)) a3 more) := more_keep HWR.out.row HMF.out (by simp [World.setCell]) (fun k hk => heap_setCell_other u2 ⟨wb, 6, none⟩ k _ hk)
    have hml : (more).length ≤ 1 := take_more HTK.out
    have D3 : Hid (s.net.length + (more).length ≤ maxLen) := by show _ ≤ _; unfold maxLen; omega
    have D4 : Hid ((s.net.length + (more).length) * 32 ≤ 140737488355328) := by show _ ≤ _; omega
    have hlt := lt_of_block HFL.out.row
    have D5 : Hid (B0 ≤ (u2.setCell ⟨wb, 6, none⟩ (.bool false)).heap.size) := by show _ ≤ _; have := HB0.out; omega
    clear hlt hml
    go_wp2_with (at_builtin; refine wpList_append_sat2 rfl _ _ 26 rfl B0 30 i0 (.agg (pkC ((0, 0, ⟨#[]⟩) : PkT)).toArray) 3 32 Try.underlying26 hi0 hz0 hz1 hz2 rfl (by decide) _ _ _ rfl HFL.out.own a3 c3 more rfl HMG.out pkC_length pkC_one D3.out D4.out D5.out ?_)
    intro v' w3 hown' hgrow hnew
    obtain ⟨na2, nc2, rfl⟩ := own_formK hown'
    have HNA : Hid (NAnew (u2.setCell ⟨wb, 6, none⟩ (.bool false)) na na2) := fun nd e => (na_new hnew nd e).imp id (fun h => by simpa [World.setCell] using h)
    have HG := Lib.hid hgrow
    have HO3 : Hid (w3.ownsRow B0 30 3 (.slice na2 (s.net ++ more).length nc2) (s.net ++ more).length ((s.net ++ more).flatMap pkC)) := by
      show w3.ownsRow _ _ _ _ _ _
      rw [List.length_append, List.flatMap_append]
      exact hown'
    have HFIN := Lib.hid (HFL.out.net HG.out HNA.out HO3.out)
    have hr3 := (HG.out.block wb (lt_of_block HFL.out.row) (own_neqK HFL.out.own HFL.out.row (by decide))).trans HFL.out.row
    have s5 := cell_of_row _ _ 5 _ _ _ hr3
    have g5 := frozen_of_row _ _ 5 _ _ hr3
    simp only [List.getElem?_toArray, List.getElem?_cons_succ, List.getElem?_cons_zero] at s5
    have HBH := Lib.hid (below_setCells HB0.out [.slice na2 (s.net ++ more).length nc2] 5 (below_own HBG.out HG.out D5.out HFL.out.own (Nat.le_refl _)))
    obtain ⟨NL, hNL⟩ : ∃ NL, s.net.length + more.length = NL := ⟨_, rfl⟩
    rw [hNL]
    have HNL := Lib.hid hNL
    clear hNL
    clear hown' hgrow hnew hr3
    go_wp2_with fail
    go_end0
    obtain rfl : NL = (s.net ++ more).length := by rw [← HNL.out, List.length_append]
    exact ⟨rfl, HBH.out, _, _, _, _, _, _, _, _, _, _, _, .inr ⟨HK.out, got, held, more, HTK.out, rfl⟩, HFIN.out⟩
end Go.Proofs.Ytinjnclpiiohcaa
