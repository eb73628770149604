/- The walk of heap.push. -/
import Derived.Test.YtbfhhnpoogmlnaaDoorHuffHp
namespace Go.Proofs.YtbfhhnpoogmlnaaDoor
open Go.RowKit Plain
set_option linter.unusedVariables false
set_option linter.unusedSimpArgs false
theorem info_tr : (Tryd.prog.info? 179).map (fun i => (i.zero, i.size, i.bytes)) = some (some (.agg #[.int .i64 0, .int .i64 0, .slice none 0 0]), 3, 40) := by kernel_rfl
def PuEnd (B0 hb : Nat) (w0 : World) (L : List TV) (x : TV) (e : Ending) (w : World) : Prop := e = .returned (.tuple #[]) ∧ Below B0 w0 w ∧ Kp w0 w ∧ ∃ A cap L', HpS B0 hb A cap L' w ∧ L'.Perm (L ++ [x]) ∧ Hp leT L'
set_option maxRecDepth 100000 in
set_option maxHeartbeats 4000000 in
theorem push_any (B0 hb : Nat) (A : Option Addr) (cap : Nat) (L : List TV) (x : TV) (w : World) (h : HpS B0 hb A cap L w) (hp : Hp leT L) (hl : L.length ≤ 1000) (hok : ∀ t ∈ L, OkT t) (hx : OkT x) :
    Calls Tryd.prog 108 #[.pointer (some ⟨hb, 0, none⟩), .agg (hC x).toArray] w (PuEnd B0 hb w L x) := by
  obtain ⟨i0, hi0, hz0, hz1, hz2⟩ := info_parts info_tr
  have HIT : Hid ((Tryd.prog.info? 179).map (·.size) = some 3) := by show _ = _; kernel_rfl
  have HIS : Hid ((Tryd.prog.info? 182).map (·.size) = some 1) := by show _ = _; kernel_rfl
  have HLT : Hid (hb < w.heap.size) := lt_of_block h.row
  have HB0 : Hid (B0 ≤ w.heap.size) := Nat.le_trans h.base (Nat.le_of_lt (lt_of_block h.row))
  have HH := Lib.hid (h.below (((Below.refl w.heap.size w).alloc (Nat.le_refl _) (.cells (hC x).toArray 179)).drew))
  have HPB : Hid ((w.alloc (.cells (hC x).toArray 179)).drew.heap[w.heap.size]? = some (.cells (hC x).toArray 179 (0, 0))) := heap_alloc_new w _
  have HBB : Hid (Below B0 w (w.alloc (.cells (hC x).toArray 179)).drew) := ((Below.refl B0 w).alloc HB0.out _).drew
  have HKK : Hid (Kp w (w.alloc (.cells (hC x).toArray 179)).drew) := Kp.below (((Below.refl w.heap.size w).alloc (Nat.le_refl _) _).drew)
  have HHP := Lib.hid hp
  have HBS : Hid (B0 ≤ hb) := h.base
  have HOK : Hid (∀ t ∈ L ++ [x], OkT t) := fun t ht => by
    rcases List.mem_append.1 ht with h | h
    · exact hok t h
    · rw [List.mem_singleton.1 h]; exact hx
  have HG : Hid (∀ g, A = some ⟨g, 0, none⟩ → g < w.heap.size) := fun g e => by
    subst e
    exact (h.own.lt g rfl).2
  clear h hp hok hx
  generalize htc : (hC x).toArray = X at *
  go_enter Tryd.func108, Tryd.ntmps108
  go_wp2_with fail
  subst htc
  refine wp_region_noPanic ?_
  refine wp_region_held_drew (S := fun v => v.heap[w.heap.size]? = some (.cells (hC x).toArray 179 (0, 0))) (by kernel_rfl) HPB.out (fun hS0 => ?_)
  have HS0 := Lib.hid hS0
  clear hS0 HPB
  generalize (w.alloc (.cells (hC x).toArray 179)).drew = u0 at *
  refine take_val 0 (.pointer (some ⟨hb, 0, none⟩)) rfl (by kernel_rfl) (by kernel_rfl) (by kernel_rfl) (fun _ _ _ _ h => h) (by rfl) rfl (fun wz hS => by go_simp) HS0.out ?_
  try simp only [List.set_cons_zero, List.set_cons_succ]
  refine take_val 1 (.pointer (some ⟨hb, 0, none⟩)) rfl (by kernel_rfl) (by kernel_rfl) (by kernel_rfl) (fun _ _ _ _ h => h) (by rfl) rfl (fun wz hS => by go_simp) HS0.out ?_
  try simp only [List.set_cons_zero, List.set_cons_succ]
  refine take_val 2 (.pointer (some ⟨hb, 0, none⟩)) rfl (by kernel_rfl) (by kernel_rfl) (by kernel_rfl) (fun _ _ _ _ h => h) (by rfl) rfl (fun wz hS => by go_simp) HS0.out ?_
  try simp only [List.set_cons_zero, List.set_cons_succ]
  refine take_val 3 (.pointer (some ⟨hb, 0, none⟩)) rfl (by kernel_rfl) (by kernel_rfl) (by kernel_rfl) (fun _ _ _ _ h => h) (by rfl) rfl (fun wz hS => by go_simp) HS0.out ?_
  try simp only [List.set_cons_zero, List.set_cons_succ]
  refine take_row 5 (cs := hC x) rfl (by kernel_rfl) (by kernel_rfl) (by kernel_rfl) (fun _ _ _ _ h => h) (by rfl) rfl rfl rfl (fun _ hS => row_rangeG hS) Tryd.underlying179 rfl HIT.out HS0.out ?_
  try simp only [List.set_cons_zero, List.set_cons_succ]
  refine two_ready 4 6 (by kernel_rfl) rfl rfl (by rfl) (by rfl) (fun K hK => ?_) (fun K hK => ?_)
  · have r0 := cell_of_row _ _ 0 _ _ _ HH.out.row
    simp only [List.getElem?_toArray, List.getElem?_cons_zero] at r0
    refine wp_value_run (v := .slice A L.length cap) (w' := u0) (by go_simp) ?_
    clear r0
    refine hK.out _ _ HS0.out ?_
    clear hK K
    try simp only [Act.put, List.setIfInBounds_toArray]
    try simp only [List.set_cons_zero, List.set_cons_succ]
    refine one_ready 6 (by kernel_rfl) rfl (by rfl) (fun K hK => ?_)
    refine wp_value_run (v := .slice (some ⟨u0.heap.size, 0, none⟩) 1 1) (w' := (u0.alloc (.cells (hC x).toArray 179))) (by go_simp; rfl) ?_
    have HS1 : Hid ((u0.alloc (.cells (hC x).toArray 179)).heap[w.heap.size]? = some (.cells (hC x).toArray 179 (0, 0))) := (Below.heap_alloc u0 _ _ (lt_of_block HS0.out)).trans HS0.out
    have HH1 := Lib.hid (HH.out.below ((Below.refl u0.heap.size u0).alloc (Nat.le_refl _) (.cells (hC x).toArray 179)))
    refine hK.out _ _ HS1.out ?_
    clear hK K
    try simp only [Act.put, List.setIfInBounds_toArray]
    try simp only [List.set_cons_zero, List.set_cons_succ]
    refine one_ready 7 (by kernel_rfl) rfl (by rfl) (fun K hK => ?_)
    obtain ⟨v', w3, hrun, hown, hgr, hnew⟩ := run_append_own2 (P := Tryd.prog) (w := (u0.alloc (.cells (hC x).toArray 179))) B0 182 182 179 i0 (.agg #[.int .i64 0, .int .i64 0, .slice none 0 0]) 3 40 Tryd.underlying182 hi0 hz0 hz1 hz2 rfl (by decide) _ L.length (L.flatMap hC) HH1.out.own ⟨u0.heap.size, 0, none⟩ 1 1 (hC x) rfl (cells_new_at u0 u0.heap.size rfl (hC x).toArray 179 (hC x) rfl) (hC_one x) (by unfold maxLen; omega) (by omega) (Nat.le_trans HB0.out (Nat.le_trans HKK.out.1 ((Below.refl u0.heap.size u0).alloc (Nat.le_refl _) (.cells (hC x).toArray 179)).size))
    refine wp_append_run _ _ 182 rfl rfl rfl hrun ?_
    obtain ⟨A2, cap2, rfl⟩ := own_formK hown
    have HG3 := Lib.hid hgr
    have HO3 : Hid (w3.ownsRow B0 179 3 (.slice A2 (L ++ [x]).length cap2) (L ++ [x]).length ((L ++ [x]).flatMap hC)) := by
      show w3.ownsRow _ _ _ _ _ _
      rw [List.length_append, List.flatMap_append, List.flatMap_singleton]
      exact hown
    have hpb : w3.heap[w.heap.size]? = some (.cells (hC x).toArray 179 (0, 0)) := (hgr.block _ (lt_of_block HS1.out) (fun e => by
      rcases HH1.out.own.2 with ⟨e2, _⟩ | ⟨g, c, cur, e2, _⟩
      · rw [e2] at e; simp [Value.ownBlock] at e
      · injection e2 with e2 _ _
        subst e2
        have := HG.out g rfl
        have e3 : w.heap.size = g := by simpa [Value.ownBlock] using e
        omega)).trans HS1.out
    have HS3 := Lib.hid hpb
    have HK3 := Lib.hid ((HKK.out.trans (Kp.below ((Below.refl u0.heap.size u0).alloc (Nat.le_refl _) (.cells (hC x).toArray 179)))).trans (Kp.grown HH1.out.own hgr))
    have hrow3 : w3.heap[hb]? = some (.cells (hpV A L.length cap) 184 (0, 0)) := (hgr.block hb (lt_of_block HH1.out.row) (own_neqK HH1.out.own HH1.out.row (by decide))).trans HH1.out.row
    have HR3 := Lib.hid hrow3
    have HB3 : Hid (Below B0 w w3) := below_own (Below.trans HBB.out ((Below.refl B0 u0).alloc (Nat.le_trans HB0.out HKK.out.1) (.cells (hC x).toArray 179))) hgr (Nat.le_trans HB0.out (Nat.le_trans HKK.out.1 ((Below.refl u0.heap.size u0).alloc (Nat.le_refl _) (.cells (hC x).toArray 179)).size)) HH1.out.own (Nat.le_refl _)
    clear hrun hown hgr hnew hpb hrow3 HH HH1 HS0 HS1 HKK HBB HG
    refine hK.out _ _ HS3.out ?_
    clear hK K
    try simp only [Act.put, List.setIfInBounds_toArray]
    try simp only [List.set_cons_zero, List.set_cons_succ]
    refine take_val 8 (.pointer (some ⟨hb, 0, none⟩)) rfl (by kernel_rfl) (by kernel_rfl) (by kernel_rfl) (fun _ _ _ _ h => h) (by rfl) rfl (fun wz hS => by go_simp) HS3.out ?_
    try simp only [List.set_cons_zero, List.set_cons_succ]
    refine take_val 9 (.pointer (some ⟨hb, 0, none⟩)) rfl (by kernel_rfl) (by kernel_rfl) (by kernel_rfl) (fun _ _ _ _ h => h) (by rfl) rfl (fun wz hS => by go_simp) HS3.out ?_
    try simp only [List.set_cons_zero, List.set_cons_succ]
    obtain ⟨N, hN⟩ : ∃ N, L.length + 1 = N := ⟨_, rfl⟩
    have hNe : N = (L ++ [x]).length := by rw [← hN]; simp
    refine one_ready 10 (by kernel_rfl) rfl (by rfl) (fun K hK => ?_)
    refine wp_store_one 182 _ _ rfl hb 0 (.slice A2 (L.length + 1) cap2) rfl rfl rfl (by rw [cell_of_row _ _ _ _ _ _ HR3.out]; rfl) (frozen_of_row _ _ _ _ _ HR3.out) HIS.out rfl ?_
    have hh3 : HpS B0 hb A cap L w3 → True := fun _ => trivial
    clear hh3
    have HF : Hid (HpS B0 hb A2 cap2 (L ++ [x]) (w3.setCell ⟨hb, 0, none⟩ (.slice A2 (L.length + 1) cap2))) := by
      have e : L.length + 1 = (L ++ [x]).length := by simp
      rw [e]
      exact ⟨heap_setCell_same w3 hb 0 _ _ _ HR3.out, own_keep HO3.out fun k cs hk _ => heap_setCell_other w3 ⟨hb, 0, none⟩ k _ (type_ne hk HR3.out (by decide)), HBS.out⟩
    have HKF : Hid (Kp w (w3.setCell ⟨hb, 0, none⟩ (.slice A2 (L.length + 1) cap2))) := HK3.out.trans (Kp.set HR3.out (.inr rfl) 0 [.slice A2 (L.length + 1) cap2])
    have HBF : Hid (Below B0 w (w3.setCell ⟨hb, 0, none⟩ (.slice A2 (L.length + 1) cap2))) := below_setCells HBS.out [.slice A2 (L.length + 1) cap2] 0 HB3.out
    refine hK.out _ _ ((heap_setCell_other w3 ⟨hb, 0, none⟩ _ _ (by have := HLT.out; simp only; omega)).trans HS3.out) ?_
    clear hK K
    try simp only [Act.put, List.setIfInBounds_toArray]
    try simp only [List.set_cons_zero, List.set_cons_succ]
    refine wpAnyH_done (by kernel_rfl) ?_ _
    refine NoPanic.normal ?_
    clear HR3 HO3 HG3 HK3 HB3 HS3 hN hNe N
    generalize w3.setCell ⟨hb, 0, none⟩ (.slice A2 (L.length + 1) cap2) = w4 at *
    obtain ⟨L1, hL1⟩ : ∃ L1, L ++ [x] = L1 := ⟨_, rfl⟩
    have HUP0 : Hid (HpUp leT L1 L.length) := by rw [← hL1]; exact HpUp.push HHP.out x
    rw [hL1] at HF HOK
    have HPE : Hid (L1.Perm (L ++ [x])) := by rw [hL1]; exact .refl _
    have HP1 := HPE
    have hn1 : L1.length = L.length + 1 := by rw [← hL1]; simp
    have HN1 := Lib.hid hn1
    have hl1 : L1.length ≤ 1001 := by omega
    have hp1 : 1 ≤ L1.length := by omega
    clear hL1 hn1
    obtain ⟨g, hA, hgB, hgh, _, _, _⟩ := HF.out.addr hp1
    subst hA
    have HGB := Lib.hid hgB
    clear hgB hgh
    have HCMP := Lib.hid fun y z u h1 h2 => cmpT_any y z u h1 h2
    have r0 := cell_of_row _ _ 0 _ _ _ HF.out.row
    simp only [List.getElem?_toArray, List.getElem?_cons_zero] at r0
    go_wp2_with fail
    clear r0
    go_loopw [4] (fun iv wr => ∃ (i : Nat) (L' : List TV), iv = .int .i64 (i : Int) ∧ i < L'.length ∧ Hid (L'.length = L1.length) ∧ Hid (L'.Perm (L ++ [x])) ∧ Hid (HpUp leT L' i) ∧ Hid (HpS B0 hb (some ⟨g, 0, none⟩) cap2 L' wr) ∧ Hid (Kp w wr) ∧ Hid (Below B0 w wr)) (fun iv _ => (intOf iv).toNat)
    case atStart => exact ⟨L1.length - 1, L1, by congr 1; omega, by omega, Lib.hid rfl, HPE, by have h := HUP0.out; have e := HN1.out; exact Lib.hid (by rw [e, Nat.add_sub_cancel]; exact h), HF, HKF, HBF⟩
    case round =>
      clear HF HKF HBF HPE HUP0
      obtain ⟨i, L', rfl, hi, HLN, HPE, HUP, HHS, HKW, HBW⟩ := hrel
      have m0 : (0 : Int) ≤ (i : Int) := Int.natCast_nonneg _
      have HPM : Hid (L'.Perm L1) := HPE.out.trans HP1.out.symm
      have hl' : L'.length ≤ 1001 := by have := HLN.out; omega
      by_cases h0 : 0 < i
      · have m1 : (i : Int) > 0 := by omega
        obtain ⟨p, hpd⟩ : ∃ p, (i - 1) / 2 = p := ⟨_, rfl⟩
        have e1 : ((i : Int) - 1).tdiv 2 = (p : Int) := by rw [Int.tdiv_eq_ediv_of_nonneg (by omega)]; omega
        have HPD := Lib.hid hpd
        have p0 : (0 : Int) ≤ (p : Int) := Int.natCast_nonneg _
        have p1 : (p : Int) < (L'.length : Int) := by omega
        have i1 : (i : Int) < (L'.length : Int) := by omega
        have hpi : p < i := by omega
        clear hpd
        go_wp2_with fail
        refine wp_region_noPanic ?_
        refine wp_region_held_drew (S := fun v => HpS B0 hb (some ⟨g, 0, none⟩) cap2 L' v) (by kernel_rfl) (HHS.out.below (Below.refl _ _).drew) (fun hS0 => ?_)
        have HS0 := Lib.hid hS0
        clear hS0
        have HKD := Lib.hid (HKW.out.trans (Kp.below (Below.refl wr.heap.size wr).drew))
        have HBD := Lib.hid HBW.out.drew
        clear HHS HKW HBW
        generalize wr.drew = u5 at *
        refine take_val 0 (.pointer (some ⟨hb, 0, none⟩)) rfl (by kernel_rfl) (by kernel_rfl) (by kernel_rfl) (fun _ _ _ _ h => h) (by rfl) rfl (fun wz hS => by go_simp) HS0.out ?_
        try simp only [List.set_cons_zero, List.set_cons_succ]
        refine take_val 1 (.pointer (some ⟨hb, 0, none⟩)) rfl (by kernel_rfl) (by kernel_rfl) (by kernel_rfl) (fun _ _ _ _ h => h) (by rfl) rfl (fun wz hS => by go_simp) HS0.out ?_
        try simp only [List.set_cons_zero, List.set_cons_succ]
        refine take_val 2 (.pointer (some ⟨hb, 1, none⟩)) rfl (by kernel_rfl) (by kernel_rfl) (by kernel_rfl) (fun _ _ _ _ h => h) (by rfl) rfl (fun wz hS => by go_simp) HS0.out ?_
        try simp only [List.set_cons_zero, List.set_cons_succ]
        refine take_val 3 (.func (.func 106) #[] #[]) rfl (by kernel_rfl) (by kernel_rfl) (by kernel_rfl) (fun _ _ _ _ h => h) (by rfl) rfl (fun wz hS => by have hz := cell_of_row _ _ 1 _ _ _ hS.row; simp only [List.getElem?_toArray, List.getElem?_cons_succ, List.getElem?_cons_zero] at hz; go_simp) HS0.out ?_
        try simp only [List.set_cons_zero, List.set_cons_succ]
        refine take_val 4 (.pointer (some ⟨hb, 0, none⟩)) rfl (by kernel_rfl) (by kernel_rfl) (by kernel_rfl) (fun _ _ _ _ h => h) (by rfl) rfl (fun wz hS => by go_simp) HS0.out ?_
        try simp only [List.set_cons_zero, List.set_cons_succ]
        refine take_val 5 (.pointer (some ⟨hb, 0, none⟩)) rfl (by kernel_rfl) (by kernel_rfl) (by kernel_rfl) (fun _ _ _ _ h => h) (by rfl) rfl (fun wz hS => by go_simp) HS0.out ?_
        try simp only [List.set_cons_zero, List.set_cons_succ]
        refine take_val 6 (.pointer (some ⟨hb, 0, none⟩)) rfl (by kernel_rfl) (by kernel_rfl) (by kernel_rfl) (fun _ _ _ _ h => h) (by rfl) rfl (fun wz hS => by go_simp) HS0.out ?_
        try simp only [List.set_cons_zero, List.set_cons_succ]
        refine take_val 7 (.slice (some ⟨g, 0, none⟩) L'.length cap2) rfl (by kernel_rfl) (by kernel_rfl) (by kernel_rfl) (fun _ _ _ _ h => h) (by rfl) rfl (fun wz hS => by have hz := cell_of_row _ _ 0 _ _ _ hS.row; simp only [List.getElem?_toArray, List.getElem?_cons_succ, List.getElem?_cons_zero] at hz; go_simp) HS0.out ?_
        try simp only [List.set_cons_zero, List.set_cons_succ]
        refine take_val 8 (.int .i64 (p : Int)) rfl (by kernel_rfl) (by kernel_rfl) (by kernel_rfl) (fun _ _ _ _ h => h) (by rfl) rfl (fun wz hS => by go_simp) HS0.out ?_
        try simp only [List.set_cons_zero, List.set_cons_succ]
        refine take_val 9 (.pointer (some ⟨g, p * 3, none⟩)) rfl (by kernel_rfl) (by kernel_rfl) (by kernel_rfl) (fun _ _ _ _ h => h) (by rfl) rfl (fun wz hS => by go_simp) HS0.out ?_
        try simp only [List.set_cons_zero, List.set_cons_succ]
        refine take_row 10 (cs := hC (L'[p]'(by omega))) rfl (by kernel_rfl) (by kernel_rfl) (by kernel_rfl) (fun _ _ _ _ h => h) (by rfl) rfl rfl rfl (fun _ hS => hS.range p (by omega)) Tryd.underlying179 rfl HIT.out HS0.out ?_
        try simp only [List.set_cons_zero, List.set_cons_succ]
        refine take_val 11 (.pointer (some ⟨hb, 0, none⟩)) rfl (by kernel_rfl) (by kernel_rfl) (by kernel_rfl) (fun _ _ _ _ h => h) (by rfl) rfl (fun wz hS => by go_simp) HS0.out ?_
        try simp only [List.set_cons_zero, List.set_cons_succ]
        refine take_val 12 (.pointer (some ⟨hb, 0, none⟩)) rfl (by kernel_rfl) (by kernel_rfl) (by kernel_rfl) (fun _ _ _ _ h => h) (by rfl) rfl (fun wz hS => by go_simp) HS0.out ?_
        try simp only [List.set_cons_zero, List.set_cons_succ]
        refine take_val 13 (.pointer (some ⟨hb, 0, none⟩)) rfl (by kernel_rfl) (by kernel_rfl) (by kernel_rfl) (fun _ _ _ _ h => h) (by rfl) rfl (fun wz hS => by go_simp) HS0.out ?_
        try simp only [List.set_cons_zero, List.set_cons_succ]
        refine take_val 14 (.slice (some ⟨g, 0, none⟩) L'.length cap2) rfl (by kernel_rfl) (by kernel_rfl) (by kernel_rfl) (fun _ _ _ _ h => h) (by rfl) rfl (fun wz hS => by have hz := cell_of_row _ _ 0 _ _ _ hS.row; simp only [List.getElem?_toArray, List.getElem?_cons_succ, List.getElem?_cons_zero] at hz; go_simp) HS0.out ?_
        try simp only [List.set_cons_zero, List.set_cons_succ]
        refine take_val 15 (.int .i64 (i : Int)) rfl (by kernel_rfl) (by kernel_rfl) (by kernel_rfl) (fun _ _ _ _ h => h) (by rfl) rfl (fun wz hS => by go_simp) HS0.out ?_
        try simp only [List.set_cons_zero, List.set_cons_succ]
        refine take_val 16 (.pointer (some ⟨g, i * 3, none⟩)) rfl (by kernel_rfl) (by kernel_rfl) (by kernel_rfl) (fun _ _ _ _ h => h) (by rfl) rfl (fun wz hS => by go_simp) HS0.out ?_
        try simp only [List.set_cons_zero, List.set_cons_succ]
        refine take_row 17 (cs := hC (L'[i]'(by omega))) rfl (by kernel_rfl) (by kernel_rfl) (by kernel_rfl) (fun _ _ _ _ h => h) (by rfl) rfl rfl rfl (fun _ hS => hS.range i (by omega)) Tryd.underlying179 rfl HIT.out HS0.out ?_
        try simp only [List.set_cons_zero, List.set_cons_succ]
        refine one_ready 18 (by kernel_rfl) rfl (by rfl) (fun K hK => ?_)
        refine wp_call_run (f := 106) (args := #[.agg (hC (L'[p]'(by omega))).toArray, .agg (hC (L'[i]'(by omega))).toArray]) (by kernel_rfl) (HCMP.out _ _ u5 (HOK.out _ (HPM.out.mem_iff.1 (List.getElem_mem _))) (HOK.out _ (HPM.out.mem_iff.1 (List.getElem_mem _)))) ?_
        rintro e u6 ⟨⟨r, rfl, hr⟩, hb6⟩
        have HRR := Lib.hid hr
        have HHS := Lib.hid (HS0.out.below hb6)
        have HKW := Lib.hid (HKD.out.trans (Kp.below hb6))
        have HBW := Lib.hid (Below.trans HBD.out (hb6.mono (Nat.le_trans HB0.out HKD.out.1)))
        clear hr hb6 HS0 HKD HBD
        refine ⟨_, rfl, ?_⟩
        refine hK.out _ _ HHS.out ?_
        clear hK K
        try simp only [Act.put, List.setIfInBounds_toArray]
        try simp only [List.set_cons_zero, List.set_cons_succ]
        refine take_val 19 (.bool (decide (r ≤ 0))) rfl (by kernel_rfl) (by kernel_rfl) (by kernel_rfl) (fun _ _ _ _ h => h) (by rfl) rfl (fun wz hS => by go_simp) HHS.out ?_
        try simp only [List.set_cons_zero, List.set_cons_succ]
        refine wpAnyH_done (by kernel_rfl) ?_ _
        refine NoPanic.normal ?_
        by_cases hle : leT (L'[p]'(by omega)) (L'[i]'hi)
        · have hr0 : decide (r ≤ 0) = true := decide_eq_true (HRR.out.1.2 hle)
          rw [hr0]
          go_wp2_with fail
          first | go_end0 | refine bodyPost_ret (results_none rfl _ _ _) rfl ?_
          refine ⟨rfl, HBW.out, HKW.out, _, _, L', HHS.out, HPE.out, HUP.out.done fun _ hi' => ?_⟩
          have e := HPD.out
          subst e
          exact hle
        · have hr0 : decide (r ≤ 0) = false := decide_eq_false fun h => hle (HRR.out.1.1 h)
          rw [hr0]
          have HNL := Lib.hid hle
          clear hle hr0
          go_wp2_with fail
          refine wp_region_noPanic ?_
          refine wp_region_held_drew (S := fun v => v.heap[hb]? = some (.cells (hpV (some ⟨g, 0, none⟩) L'.length cap2) 184 (0, 0))) (by kernel_rfl) HHS.out.row (fun hS0 => ?_)
          have HS0 := Lib.hid hS0
          clear hS0
          have HH5 := Lib.hid (HHS.out.below (Below.refl _ _).drew)
          have HK5 := Lib.hid (HKW.out.trans (Kp.below (Below.refl u6.heap.size u6).drew))
          have HB5 := Lib.hid HBW.out.drew
          clear HHS HKW HBW
          generalize u6.drew = u6 at *
          refine take_val 0 (.pointer (some ⟨hb, 0, none⟩)) rfl (by kernel_rfl) (by kernel_rfl) (by kernel_rfl) (fun _ _ _ _ h => h) (by rfl) rfl (fun wz hS => by go_simp) HS0.out ?_
          try simp only [List.set_cons_zero, List.set_cons_succ]
          refine take_val 1 (.pointer (some ⟨hb, 0, none⟩)) rfl (by kernel_rfl) (by kernel_rfl) (by kernel_rfl) (fun _ _ _ _ h => h) (by rfl) rfl (fun wz hS => by go_simp) HS0.out ?_
          try simp only [List.set_cons_zero, List.set_cons_succ]
          refine take_val 2 (.pointer (some ⟨hb, 0, none⟩)) rfl (by kernel_rfl) (by kernel_rfl) (by kernel_rfl) (fun _ _ _ _ h => h) (by rfl) rfl (fun wz hS => by go_simp) HS0.out ?_
          try simp only [List.set_cons_zero, List.set_cons_succ]
          refine take_val 3 (.slice (some ⟨g, 0, none⟩) L'.length cap2) rfl (by kernel_rfl) (by kernel_rfl) (by kernel_rfl) (fun _ _ _ _ h => h) (by rfl) rfl (fun wz hS => by have hz := cell_of_row _ _ 0 _ _ _ hS; simp only [List.getElem?_toArray, List.getElem?_cons_succ, List.getElem?_cons_zero] at hz; go_simp) HS0.out ?_
          try simp only [List.set_cons_zero, List.set_cons_succ]
          refine take_val 4 (.int .i64 (p : Int)) rfl (by kernel_rfl) (by kernel_rfl) (by kernel_rfl) (fun _ _ _ _ h => h) (by rfl) rfl (fun wz hS => by go_simp) HS0.out ?_
          try simp only [List.set_cons_zero, List.set_cons_succ]
          refine take_val 5 (.pointer (some ⟨hb, 0, none⟩)) rfl (by kernel_rfl) (by kernel_rfl) (by kernel_rfl) (fun _ _ _ _ h => h) (by rfl) rfl (fun wz hS => by go_simp) HS0.out ?_
          try simp only [List.set_cons_zero, List.set_cons_succ]
          refine take_val 6 (.pointer (some ⟨hb, 0, none⟩)) rfl (by kernel_rfl) (by kernel_rfl) (by kernel_rfl) (fun _ _ _ _ h => h) (by rfl) rfl (fun wz hS => by go_simp) HS0.out ?_
          try simp only [List.set_cons_zero, List.set_cons_succ]
          refine take_val 7 (.pointer (some ⟨hb, 0, none⟩)) rfl (by kernel_rfl) (by kernel_rfl) (by kernel_rfl) (fun _ _ _ _ h => h) (by rfl) rfl (fun wz hS => by go_simp) HS0.out ?_
          try simp only [List.set_cons_zero, List.set_cons_succ]
          refine take_val 8 (.slice (some ⟨g, 0, none⟩) L'.length cap2) rfl (by kernel_rfl) (by kernel_rfl) (by kernel_rfl) (fun _ _ _ _ h => h) (by rfl) rfl (fun wz hS => by have hz := cell_of_row _ _ 0 _ _ _ hS; simp only [List.getElem?_toArray, List.getElem?_cons_succ, List.getElem?_cons_zero] at hz; go_simp) HS0.out ?_
          try simp only [List.set_cons_zero, List.set_cons_succ]
          refine take_val 9 (.int .i64 (i : Int)) rfl (by kernel_rfl) (by kernel_rfl) (by kernel_rfl) (fun _ _ _ _ h => h) (by rfl) rfl (fun wz hS => by go_simp) HS0.out ?_
          try simp only [List.set_cons_zero, List.set_cons_succ]
          refine take_val 10 (.pointer (some ⟨hb, 0, none⟩)) rfl (by kernel_rfl) (by kernel_rfl) (by kernel_rfl) (fun _ _ _ _ h => h) (by rfl) rfl (fun wz hS => by go_simp) HS0.out ?_
          try simp only [List.set_cons_zero, List.set_cons_succ]
          refine take_val 11 (.pointer (some ⟨hb, 0, none⟩)) rfl (by kernel_rfl) (by kernel_rfl) (by kernel_rfl) (fun _ _ _ _ h => h) (by rfl) rfl (fun wz hS => by go_simp) HS0.out ?_
          try simp only [List.set_cons_zero, List.set_cons_succ]
          refine take_val 12 (.pointer (some ⟨hb, 0, none⟩)) rfl (by kernel_rfl) (by kernel_rfl) (by kernel_rfl) (fun _ _ _ _ h => h) (by rfl) rfl (fun wz hS => by go_simp) HS0.out ?_
          try simp only [List.set_cons_zero, List.set_cons_succ]
          refine take_val 13 (.slice (some ⟨g, 0, none⟩) L'.length cap2) rfl (by kernel_rfl) (by kernel_rfl) (by kernel_rfl) (fun _ _ _ _ h => h) (by rfl) rfl (fun wz hS => by have hz := cell_of_row _ _ 0 _ _ _ hS; simp only [List.getElem?_toArray, List.getElem?_cons_succ, List.getElem?_cons_zero] at hz; go_simp) HS0.out ?_
          try simp only [List.set_cons_zero, List.set_cons_succ]
          refine take_val 14 (.int .i64 (i : Int)) rfl (by kernel_rfl) (by kernel_rfl) (by kernel_rfl) (fun _ _ _ _ h => h) (by rfl) rfl (fun wz hS => by go_simp) HS0.out ?_
          try simp only [List.set_cons_zero, List.set_cons_succ]
          refine take_val 15 (.pointer (some ⟨g, i * 3, none⟩)) rfl (by kernel_rfl) (by kernel_rfl) (by kernel_rfl) (fun _ _ _ _ h => h) (by rfl) rfl (fun wz hS => by go_simp) HS0.out ?_
          try simp only [List.set_cons_zero, List.set_cons_succ]
          refine take_val 17 (.pointer (some ⟨hb, 0, none⟩)) rfl (by kernel_rfl) (by kernel_rfl) (by kernel_rfl) (fun _ _ _ _ h => h) (by rfl) rfl (fun wz hS => by go_simp) HS0.out ?_
          try simp only [List.set_cons_zero, List.set_cons_succ]
          refine take_val 18 (.pointer (some ⟨hb, 0, none⟩)) rfl (by kernel_rfl) (by kernel_rfl) (by kernel_rfl) (fun _ _ _ _ h => h) (by rfl) rfl (fun wz hS => by go_simp) HS0.out ?_
          try simp only [List.set_cons_zero, List.set_cons_succ]
          refine take_val 19 (.pointer (some ⟨hb, 0, none⟩)) rfl (by kernel_rfl) (by kernel_rfl) (by kernel_rfl) (fun _ _ _ _ h => h) (by rfl) rfl (fun wz hS => by go_simp) HS0.out ?_
          try simp only [List.set_cons_zero, List.set_cons_succ]
          refine take_val 20 (.slice (some ⟨g, 0, none⟩) L'.length cap2) rfl (by kernel_rfl) (by kernel_rfl) (by kernel_rfl) (fun _ _ _ _ h => h) (by rfl) rfl (fun wz hS => by have hz := cell_of_row _ _ 0 _ _ _ hS; simp only [List.getElem?_toArray, List.getElem?_cons_succ, List.getElem?_cons_zero] at hz; go_simp) HS0.out ?_
          try simp only [List.set_cons_zero, List.set_cons_succ]
          refine take_val 21 (.int .i64 (p : Int)) rfl (by kernel_rfl) (by kernel_rfl) (by kernel_rfl) (fun _ _ _ _ h => h) (by rfl) rfl (fun wz hS => by go_simp) HS0.out ?_
          try simp only [List.set_cons_zero, List.set_cons_succ]
          refine take_val 22 (.pointer (some ⟨g, p * 3, none⟩)) rfl (by kernel_rfl) (by kernel_rfl) (by kernel_rfl) (fun _ _ _ _ h => h) (by rfl) rfl (fun wz hS => by go_simp) HS0.out ?_
          try simp only [List.set_cons_zero, List.set_cons_succ]
          refine two_ready 16 23 (by kernel_rfl) rfl rfl (by rfl) (by rfl) (fun K hK => ?_) (fun K hK => ?_)
          · refine wp_load_mid 179 _ rfl g (i * 3) rfl (hC (L'[i]'(by omega))) _ (HH5.out.range i (by omega)) Tryd.underlying179 rfl HIT.out ?_
            refine hK.out _ _ HS0.out ?_
            clear hK K
            try simp only [Act.put, List.setIfInBounds_toArray]
            try simp only [List.set_cons_zero, List.set_cons_succ]
            refine one_ready 23 (by kernel_rfl) rfl (by rfl) (fun K hK => ?_)
            refine wp_load_mid 179 _ rfl g (p * 3) rfl (hC (L'[p]'(by omega))) _ (HH5.out.range p (by omega)) Tryd.underlying179 rfl HIT.out ?_
            refine hK.out _ _ HS0.out ?_
            clear hK K
            try simp only [Act.put, List.setIfInBounds_toArray]
            try simp only [List.set_cons_zero, List.set_cons_succ]
            refine take_val 24 (.pointer (some ⟨g, p * 3, none⟩)) rfl (by kernel_rfl) (by kernel_rfl) (by kernel_rfl) (fun _ _ _ _ h => h) (by rfl) rfl (fun wz hS => by go_simp) HS0.out ?_
            try simp only [List.set_cons_zero, List.set_cons_succ]
            refine one_ready 25 (by kernel_rfl) rfl (by rfl) (fun K hK => ?_)
            refine wp_store_mid 179 _ _ rfl g (p * 3) (hC (L'[i]'(by omega))).toArray rfl rfl (HH5.out.there (by omega) p (by omega)) HIT.out (all_oneCell_toArray (hC_one _)) ?_
            have HH7 := Lib.hid (HH5.out.put (by omega) p (by omega) (L'[i]'(by omega)))
            have HK7 := Lib.hid (HK5.out.trans (HH5.out.kp (by omega) (p * 3) (hC (L'[i]'(by omega)))))
            have HB7 := Lib.hid (below_setCells HGB.out (hC (L'[i]'(by omega))) (p * 3) HB5.out)
            have hs7 := HH7.out.row
            rw [List.length_set] at hs7
            have HS7 := Lib.hid hs7
            clear hs7
            refine hK.out _ _ HS7.out ?_
            clear hK K
            try simp only [Act.put, List.setIfInBounds_toArray]
            try simp only [List.set_cons_zero, List.set_cons_succ]
            refine take_val 26 (.pointer (some ⟨g, i * 3, none⟩)) rfl (by kernel_rfl) (by kernel_rfl) (by kernel_rfl) (fun _ _ _ _ h => h) (by rfl) rfl (fun wz hS => by go_simp) HS7.out ?_
            try simp only [List.set_cons_zero, List.set_cons_succ]
            refine one_ready 27 (by kernel_rfl) rfl (by rfl) (fun K hK => ?_)
            refine wp_store_mid 179 _ _ rfl g (i * 3) (hC (L'[p]'(by omega))).toArray rfl rfl (HH7.out.there (by rw [List.length_set]; omega) i (by rw [List.length_set]; omega)) HIT.out (all_oneCell_toArray (hC_one _)) ?_
            have HH8 : Hid (HpS B0 hb (some ⟨g, 0, none⟩) cap2 (swp L' p i (by omega) (by omega)) _) := HH7.out.put (by rw [List.length_set]; omega) i (by rw [List.length_set]; omega) (L'[p]'(by omega))
            have HK8 := Lib.hid (HK7.out.trans (HH7.out.kp (by rw [List.length_set]; omega) (i * 3) (hC (L'[p]'(by omega)))))
            have HB8 := Lib.hid (below_setCells HGB.out (hC (L'[p]'(by omega))) (i * 3) HB7.out)
            have hs8 := HH8.out.row
            rw [swp_len] at hs8
            refine hK.out _ _ hs8 ?_
            clear hK K
            try simp only [Act.put, List.setIfInBounds_toArray]
            try simp only [List.set_cons_zero, List.set_cons_succ]
            clear hs8 HS7 HH7 HK7 HB7 HS0 HH5 HK5 HB5
            refine wpAnyH_done (by kernel_rfl) ?_ _
            refine NoPanic.normal ?_
            have HUPN : Hid (HpUp leT (swp L' p i (by omega) (by omega)) p) := by
              have h := HpUp.step leT_trans leT_total h0 hi HUP.out (by
                have e := HPD.out
                have h := HNL.out
                subst e
                exact h)
              have e := HPD.out
              subst e
              exact h
            have HPN : Hid ((swp L' p i (by omega) (by omega)).Perm (L ++ [x])) := (swp_perm L' p i _ _).trans HPE.out
            have HLN2 : Hid ((swp L' p i (by omega) (by omega)).length = L1.length) := (swp_len L' p i _ _).trans HLN.out
            go_wp2_with fail
            go_roundw
            case rel => exact ⟨p, _, rfl, by rw [swp_len]; omega, HLN2, HPN, HUPN, HH8, HK8, HB8⟩
            case measure => simp [intOf]; omega
          · refine wp_load_mid 179 _ rfl g (p * 3) rfl (hC (L'[p]'(by omega))) _ (HH5.out.range p (by omega)) Tryd.underlying179 rfl HIT.out ?_
            refine hK.out _ _ HS0.out ?_
            clear hK K
            try simp only [Act.put, List.setIfInBounds_toArray]
            try simp only [List.set_cons_zero, List.set_cons_succ]
            refine one_ready 16 (by kernel_rfl) rfl (by rfl) (fun K hK => ?_)
            refine wp_load_mid 179 _ rfl g (i * 3) rfl (hC (L'[i]'(by omega))) _ (HH5.out.range i (by omega)) Tryd.underlying179 rfl HIT.out ?_
            refine hK.out _ _ HS0.out ?_
            clear hK K
            try simp only [Act.put, List.setIfInBounds_toArray]
            try simp only [List.set_cons_zero, List.set_cons_succ]
            refine take_val 24 (.pointer (some ⟨g, p * 3, none⟩)) rfl (by kernel_rfl) (by kernel_rfl) (by kernel_rfl) (fun _ _ _ _ h => h) (by rfl) rfl (fun wz hS => by go_simp) HS0.out ?_
            try simp only [List.set_cons_zero, List.set_cons_succ]
            refine one_ready 25 (by kernel_rfl) rfl (by rfl) (fun K hK => ?_)
            refine wp_store_mid 179 _ _ rfl g (p * 3) (hC (L'[i]'(by omega))).toArray rfl rfl (HH5.out.there (by omega) p (by omega)) HIT.out (all_oneCell_toArray (hC_one _)) ?_
            have HH7 := Lib.hid (HH5.out.put (by omega) p (by omega) (L'[i]'(by omega)))
            have HK7 := Lib.hid (HK5.out.trans (HH5.out.kp (by omega) (p * 3) (hC (L'[i]'(by omega)))))
            have HB7 := Lib.hid (below_setCells HGB.out (hC (L'[i]'(by omega))) (p * 3) HB5.out)
            have hs7 := HH7.out.row
            rw [List.length_set] at hs7
            have HS7 := Lib.hid hs7
            clear hs7
            refine hK.out _ _ HS7.out ?_
            clear hK K
            try simp only [Act.put, List.setIfInBounds_toArray]
            try simp only [List.set_cons_zero, List.set_cons_succ]
            refine take_val 26 (.pointer (some ⟨g, i * 3, none⟩)) rfl (by kernel_rfl) (by kernel_rfl) (by kernel_rfl) (fun _ _ _ _ h => h) (by rfl) rfl (fun wz hS => by go_simp) HS7.out ?_
            try simp only [List.set_cons_zero, List.set_cons_succ]
            refine one_ready 27 (by kernel_rfl) rfl (by rfl) (fun K hK => ?_)
            refine wp_store_mid 179 _ _ rfl g (i * 3) (hC (L'[p]'(by omega))).toArray rfl rfl (HH7.out.there (by rw [List.length_set]; omega) i (by rw [List.length_set]; omega)) HIT.out (all_oneCell_toArray (hC_one _)) ?_
            have HH8 : Hid (HpS B0 hb (some ⟨g, 0, none⟩) cap2 (swp L' p i (by omega) (by omega)) _) := HH7.out.put (by rw [List.length_set]; omega) i (by rw [List.length_set]; omega) (L'[p]'(by omega))
            have HK8 := Lib.hid (HK7.out.trans (HH7.out.kp (by rw [List.length_set]; omega) (i * 3) (hC (L'[p]'(by omega)))))
            have HB8 := Lib.hid (below_setCells HGB.out (hC (L'[p]'(by omega))) (i * 3) HB7.out)
            have hs8 := HH8.out.row
            rw [swp_len] at hs8
            refine hK.out _ _ hs8 ?_
            clear hK K
            try simp only [Act.put, List.setIfInBounds_toArray]
            try simp only [List.set_cons_zero, List.set_cons_succ]
            clear hs8 HS7 HH7 HK7 HB7 HS0 HH5 HK5 HB5
            refine wpAnyH_done (by kernel_rfl) ?_ _
            refine NoPanic.normal ?_
            have HUPN : Hid (HpUp leT (swp L' p i (by omega) (by omega)) p) := by
              have h := HpUp.step leT_trans leT_total h0 hi HUP.out (by
                have e := HPD.out
                have h := HNL.out
                subst e
                exact h)
              have e := HPD.out
              subst e
              exact h
            have HPN : Hid ((swp L' p i (by omega) (by omega)).Perm (L ++ [x])) := (swp_perm L' p i _ _).trans HPE.out
            have HLN2 : Hid ((swp L' p i (by omega) (by omega)).length = L1.length) := (swp_len L' p i _ _).trans HLN.out
            go_wp2_with fail
            go_roundw
            case rel => exact ⟨p, _, rfl, by rw [swp_len]; omega, HLN2, HPN, HUPN, HH8, HK8, HB8⟩
            case measure => simp [intOf]; omega
      · have m1 : ¬ (i : Int) > 0 := by omega
        go_wp2_with fail
        first | go_end0 | refine bodyPost_ret (results_none rfl _ _ _) rfl ?_
        exact ⟨rfl, HBW.out, HKW.out, _, _, L', HHS.out, HPE.out, HUP.out.done fun h1 _ => absurd h1 h0⟩
  · refine wp_value_run (v := .slice (some ⟨u0.heap.size, 0, none⟩) 1 1) (w' := (u0.alloc (.cells (hC x).toArray 179))) (by go_simp; rfl) ?_
    have HS1 : Hid ((u0.alloc (.cells (hC x).toArray 179)).heap[w.heap.size]? = some (.cells (hC x).toArray 179 (0, 0))) := (Below.heap_alloc u0 _ _ (lt_of_block HS0.out)).trans HS0.out
    have HH1 := Lib.hid (HH.out.below ((Below.refl u0.heap.size u0).alloc (Nat.le_refl _) (.cells (hC x).toArray 179)))
    refine hK.out _ _ HS1.out ?_
    clear hK K
    try simp only [Act.put, List.setIfInBounds_toArray]
    try simp only [List.set_cons_zero, List.set_cons_succ]
    refine one_ready 4 (by kernel_rfl) rfl (by rfl) (fun K hK => ?_)
    have r0 := cell_of_row _ _ 0 _ _ _ HH1.out.row
    simp only [List.getElem?_toArray, List.getElem?_cons_zero] at r0
    refine wp_value_run (v := .slice A L.length cap) (w' := (u0.alloc (.cells (hC x).toArray 179))) (by go_simp) ?_
    clear r0
    refine hK.out _ _ HS1.out ?_
    clear hK K
    try simp only [Act.put, List.setIfInBounds_toArray]
    try simp only [List.set_cons_zero, List.set_cons_succ]
    refine one_ready 7 (by kernel_rfl) rfl (by rfl) (fun K hK => ?_)
    obtain ⟨v', w3, hrun, hown, hgr, hnew⟩ := run_append_own2 (P := Tryd.prog) (w := (u0.alloc (.cells (hC x).toArray 179))) B0 182 182 179 i0 (.agg #[.int .i64 0, .int .i64 0, .slice none 0 0]) 3 40 Tryd.underlying182 hi0 hz0 hz1 hz2 rfl (by decide) _ L.length (L.flatMap hC) HH1.out.own ⟨u0.heap.size, 0, none⟩ 1 1 (hC x) rfl (cells_new_at u0 u0.heap.size rfl (hC x).toArray 179 (hC x) rfl) (hC_one x) (by unfold maxLen; omega) (by omega) (Nat.le_trans HB0.out (Nat.le_trans HKK.out.1 ((Below.refl u0.heap.size u0).alloc (Nat.le_refl _) (.cells (hC x).toArray 179)).size))
    refine wp_append_run _ _ 182 rfl rfl rfl hrun ?_
    obtain ⟨A2, cap2, rfl⟩ := own_formK hown
    have HG3 := Lib.hid hgr
    have HO3 : Hid (w3.ownsRow B0 179 3 (.slice A2 (L ++ [x]).length cap2) (L ++ [x]).length ((L ++ [x]).flatMap hC)) := by
      show w3.ownsRow _ _ _ _ _ _
      rw [List.length_append, List.flatMap_append, List.flatMap_singleton]
      exact hown
    have hpb : w3.heap[w.heap.size]? = some (.cells (hC x).toArray 179 (0, 0)) := (hgr.block _ (lt_of_block HS1.out) (fun e => by
      rcases HH1.out.own.2 with ⟨e2, _⟩ | ⟨g, c, cur, e2, _⟩
      · rw [e2] at e; simp [Value.ownBlock] at e
      · injection e2 with e2 _ _
        subst e2
        have := HG.out g rfl
        have e3 : w.heap.size = g := by simpa [Value.ownBlock] using e
        omega)).trans HS1.out
    have HS3 := Lib.hid hpb
    have HK3 := Lib.hid ((HKK.out.trans (Kp.below ((Below.refl u0.heap.size u0).alloc (Nat.le_refl _) (.cells (hC x).toArray 179)))).trans (Kp.grown HH1.out.own hgr))
    have hrow3 : w3.heap[hb]? = some (.cells (hpV A L.length cap) 184 (0, 0)) := (hgr.block hb (lt_of_block HH1.out.row) (own_neqK HH1.out.own HH1.out.row (by decide))).trans HH1.out.row
    have HR3 := Lib.hid hrow3
    have HB3 : Hid (Below B0 w w3) := below_own (Below.trans HBB.out ((Below.refl B0 u0).alloc (Nat.le_trans HB0.out HKK.out.1) (.cells (hC x).toArray 179))) hgr (Nat.le_trans HB0.out (Nat.le_trans HKK.out.1 ((Below.refl u0.heap.size u0).alloc (Nat.le_refl _) (.cells (hC x).toArray 179)).size)) HH1.out.own (Nat.le_refl _)
    clear hrun hown hgr hnew hpb hrow3 HH HH1 HS0 HS1 HKK HBB HG
    refine hK.out _ _ HS3.out ?_
    clear hK K
    try simp only [Act.put, List.setIfInBounds_toArray]
    try simp only [List.set_cons_zero, List.set_cons_succ]
    refine take_val 8 (.pointer (some ⟨hb, 0, none⟩)) rfl (by kernel_rfl) (by kernel_rfl) (by kernel_rfl) (fun _ _ _ _ h => h) (by rfl) rfl (fun wz hS => by go_simp) HS3.out ?_
    try simp only [List.set_cons_zero, List.set_cons_succ]
    refine take_val 9 (.pointer (some ⟨hb, 0, none⟩)) rfl (by kernel_rfl) (by kernel_rfl) (by kernel_rfl) (fun _ _ _ _ h => h) (by rfl) rfl (fun wz hS => by go_simp) HS3.out ?_
    try simp only [List.set_cons_zero, List.set_cons_succ]
    obtain ⟨N, hN⟩ : ∃ N, L.length + 1 = N := ⟨_, rfl⟩
    have hNe : N = (L ++ [x]).length := by rw [← hN]; simp
    refine one_ready 10 (by kernel_rfl) rfl (by rfl) (fun K hK => ?_)
    refine wp_store_one 182 _ _ rfl hb 0 (.slice A2 (L.length + 1) cap2) rfl rfl rfl (by rw [cell_of_row _ _ _ _ _ _ HR3.out]; rfl) (frozen_of_row _ _ _ _ _ HR3.out) HIS.out rfl ?_
    have hh3 : HpS B0 hb A cap L w3 → True := fun _ => trivial
    clear hh3
    have HF : Hid (HpS B0 hb A2 cap2 (L ++ [x]) (w3.setCell ⟨hb, 0, none⟩ (.slice A2 (L.length + 1) cap2))) := by
      have e : L.length + 1 = (L ++ [x]).length := by simp
      rw [e]
      exact ⟨heap_setCell_same w3 hb 0 _ _ _ HR3.out, own_keep HO3.out fun k cs hk _ => heap_setCell_other w3 ⟨hb, 0, none⟩ k _ (type_ne hk HR3.out (by decide)), HBS.out⟩
    have HKF : Hid (Kp w (w3.setCell ⟨hb, 0, none⟩ (.slice A2 (L.length + 1) cap2))) := HK3.out.trans (Kp.set HR3.out (.inr rfl) 0 [.slice A2 (L.length + 1) cap2])
    have HBF : Hid (Below B0 w (w3.setCell ⟨hb, 0, none⟩ (.slice A2 (L.length + 1) cap2))) := below_setCells HBS.out [.slice A2 (L.length + 1) cap2] 0 HB3.out
    refine hK.out _ _ ((heap_setCell_other w3 ⟨hb, 0, none⟩ _ _ (by have := HLT.out; simp only; omega)).trans HS3.out) ?_
    clear hK K
    try simp only [Act.put, List.setIfInBounds_toArray]
    try simp only [List.set_cons_zero, List.set_cons_succ]
    refine wpAnyH_done (by kernel_rfl) ?_ _
    refine NoPanic.normal ?_
    clear HR3 HO3 HG3 HK3 HB3 HS3 hN hNe N
    generalize w3.setCell ⟨hb, 0, none⟩ (.slice A2 (L.length + 1) cap2) = w4 at *
    obtain ⟨L1, hL1⟩ : ∃ L1, L ++ [x] = L1 := ⟨_, rfl⟩
    have HUP0 : Hid (HpUp leT L1 L.length) := by rw [← hL1]; exact HpUp.push HHP.out x
    rw [hL1] at HF HOK
    have HPE : Hid (L1.Perm (L ++ [x])) := by rw [hL1]; exact .refl _
    have HP1 := HPE
    have hn1 : L1.length = L.length + 1 := by rw [← hL1]; simp
    have HN1 := Lib.hid hn1
    have hl1 : L1.length ≤ 1001 := by omega
    have hp1 : 1 ≤ L1.length := by omega
    clear hL1 hn1
    obtain ⟨g, hA, hgB, hgh, _, _, _⟩ := HF.out.addr hp1
    subst hA
    have HGB := Lib.hid hgB
    clear hgB hgh
    have HCMP := Lib.hid fun y z u h1 h2 => cmpT_any y z u h1 h2
    have r0 := cell_of_row _ _ 0 _ _ _ HF.out.row
    simp only [List.getElem?_toArray, List.getElem?_cons_zero] at r0
    go_wp2_with fail
    clear r0
    go_loopw [4] (fun iv wr => ∃ (i : Nat) (L' : List TV), iv = .int .i64 (i : Int) ∧ i < L'.length ∧ Hid (L'.length = L1.length) ∧ Hid (L'.Perm (L ++ [x])) ∧ Hid (HpUp leT L' i) ∧ Hid (HpS B0 hb (some ⟨g, 0, none⟩) cap2 L' wr) ∧ Hid (Kp w wr) ∧ Hid (Below B0 w wr)) (fun iv _ => (intOf iv).toNat)
    case atStart => exact ⟨L1.length - 1, L1, by congr 1; omega, by omega, Lib.hid rfl, HPE, by have h := HUP0.out; have e := HN1.out; exact Lib.hid (by rw [e, Nat.add_sub_cancel]; exact h), HF, HKF, HBF⟩
    case round =>
      clear HF HKF HBF HPE HUP0
      obtain ⟨i, L', rfl, hi, HLN, HPE, HUP, HHS, HKW, HBW⟩ := hrel
      have m0 : (0 : Int) ≤ (i : Int) := Int.natCast_nonneg _
      have HPM : Hid (L'.Perm L1) := HPE.out.trans HP1.out.symm
      have hl' : L'.length ≤ 1001 := by have := HLN.out; omega
      by_cases h0 : 0 < i
      · have m1 : (i : Int) > 0 := by omega
        obtain ⟨p, hpd⟩ : ∃ p, (i - 1) / 2 = p := ⟨_, rfl⟩
        have e1 : ((i : Int) - 1).tdiv 2 = (p : Int) := by rw [Int.tdiv_eq_ediv_of_nonneg (by omega)]; omega
        have HPD := Lib.hid hpd
        have p0 : (0 : Int) ≤ (p : Int) := Int.natCast_nonneg _
        have p1 : (p : Int) < (L'.length : Int) := by omega
        have i1 : (i : Int) < (L'.length : Int) := by omega
        have hpi : p < i := by omega
        clear hpd
        go_wp2_with fail
        refine wp_region_noPanic ?_
        refine wp_region_held_drew (S := fun v => HpS B0 hb (some ⟨g, 0, none⟩) cap2 L' v) (by kernel_rfl) (HHS.out.below (Below.refl _ _).drew) (fun hS0 => ?_)
        have HS0 := Lib.hid hS0
        clear hS0
        have HKD := Lib.hid (HKW.out.trans (Kp.below (Below.refl wr.heap.size wr).drew))
        have HBD := Lib.hid HBW.out.drew
        clear HHS HKW HBW
        generalize wr.drew = u5 at *
        refine take_val 0 (.pointer (some ⟨hb, 0, none⟩)) rfl (by kernel_rfl) (by kernel_rfl) (by kernel_rfl) (fun _ _ _ _ h => h) (by rfl) rfl (fun wz hS => by go_simp) HS0.out ?_
        try simp only [List.set_cons_zero, List.set_cons_succ]
        refine take_val 1 (.pointer (some ⟨hb, 0, none⟩)) rfl (by kernel_rfl) (by kernel_rfl) (by kernel_rfl) (fun _ _ _ _ h => h) (by rfl) rfl (fun wz hS => by go_simp) HS0.out ?_
        try simp only [List.set_cons_zero, List.set_cons_succ]
        refine take_val 2 (.pointer (some ⟨hb, 1, none⟩)) rfl (by kernel_rfl) (by kernel_rfl) (by kernel_rfl) (fun _ _ _ _ h => h) (by rfl) rfl (fun wz hS => by go_simp) HS0.out ?_
        try simp only [List.set_cons_zero, List.set_cons_succ]
        refine take_val 3 (.func (.func 106) #[] #[]) rfl (by kernel_rfl) (by kernel_rfl) (by kernel_rfl) (fun _ _ _ _ h => h) (by rfl) rfl (fun wz hS => by have hz := cell_of_row _ _ 1 _ _ _ hS.row; simp only [List.getElem?_toArray, List.getElem?_cons_succ, List.getElem?_cons_zero] at hz; go_simp) HS0.out ?_
        try simp only [List.set_cons_zero, List.set_cons_succ]
        refine take_val 4 (.pointer (some ⟨hb, 0, none⟩)) rfl (by kernel_rfl) (by kernel_rfl) (by kernel_rfl) (fun _ _ _ _ h => h) (by rfl) rfl (fun wz hS => by go_simp) HS0.out ?_
        try simp only [List.set_cons_zero, List.set_cons_succ]
        refine take_val 5 (.pointer (some ⟨hb, 0, none⟩)) rfl (by kernel_rfl) (by kernel_rfl) (by kernel_rfl) (fun _ _ _ _ h => h) (by rfl) rfl (fun wz hS => by go_simp) HS0.out ?_
        try simp only [List.set_cons_zero, List.set_cons_succ]
        refine take_val 6 (.pointer (some ⟨hb, 0, none⟩)) rfl (by kernel_rfl) (by kernel_rfl) (by kernel_rfl) (fun _ _ _ _ h => h) (by rfl) rfl (fun wz hS => by go_simp) HS0.out ?_
        try simp only [List.set_cons_zero, List.set_cons_succ]
        refine take_val 7 (.slice (some ⟨g, 0, none⟩) L'.length cap2) rfl (by kernel_rfl) (by kernel_rfl) (by kernel_rfl) (fun _ _ _ _ h => h) (by rfl) rfl (fun wz hS => by have hz := cell_of_row _ _ 0 _ _ _ hS.row; simp only [List.getElem?_toArray, List.getElem?_cons_succ, List.getElem?_cons_zero] at hz; go_simp) HS0.out ?_
        try simp only [List.set_cons_zero, List.set_cons_succ]
        refine take_val 8 (.int .i64 (p : Int)) rfl (by kernel_rfl) (by kernel_rfl) (by kernel_rfl) (fun _ _ _ _ h => h) (by rfl) rfl (fun wz hS => by go_simp) HS0.out ?_
        try simp only [List.set_cons_zero, List.set_cons_succ]
        refine take_val 9 (.pointer (some ⟨g, p * 3, none⟩)) rfl (by kernel_rfl) (by kernel_rfl) (by kernel_rfl) (fun _ _ _ _ h => h) (by rfl) rfl (fun wz hS => by go_simp) HS0.out ?_
        try simp only [List.set_cons_zero, List.set_cons_succ]
        refine take_row 10 (cs := hC (L'[p]'(by omega))) rfl (by kernel_rfl) (by kernel_rfl) (by kernel_rfl) (fun _ _ _ _ h => h) (by rfl) rfl rfl rfl (fun _ hS => hS.range p (by omega)) Tryd.underlying179 rfl HIT.out HS0.out ?_
        try simp only [List.set_cons_zero, List.set_cons_succ]
        refine take_val 11 (.pointer (some ⟨hb, 0, none⟩)) rfl (by kernel_rfl) (by kernel_rfl) (by kernel_rfl) (fun _ _ _ _ h => h) (by rfl) rfl (fun wz hS => by go_simp) HS0.out ?_
        try simp only [List.set_cons_zero, List.set_cons_succ]
        refine take_val 12 (.pointer (some ⟨hb, 0, none⟩)) rfl (by kernel_rfl) (by kernel_rfl) (by kernel_rfl) (fun _ _ _ _ h => h) (by rfl) rfl (fun wz hS => by go_simp) HS0.out ?_
        try simp only [List.set_cons_zero, List.set_cons_succ]
        refine take_val 13 (.pointer (some ⟨hb, 0, none⟩)) rfl (by kernel_rfl) (by kernel_rfl) (by kernel_rfl) (fun _ _ _ _ h => h) (by rfl) rfl (fun wz hS => by go_simp) HS0.out ?_
        try simp only [List.set_cons_zero, List.set_cons_succ]
        refine take_val 14 (.slice (some ⟨g, 0, none⟩) L'.length cap2) rfl (by kernel_rfl) (by kernel_rfl) (by kernel_rfl) (fun _ _ _ _ h => h) (by rfl) rfl (fun wz hS => by have hz := cell_of_row _ _ 0 _ _ _ hS.row; simp only [List.getElem?_toArray, List.getElem?_cons_succ, List.getElem?_cons_zero] at hz; go_simp) HS0.out ?_
        try simp only [List.set_cons_zero, List.set_cons_succ]
        refine take_val 15 (.int .i64 (i : Int)) rfl (by kernel_rfl) (by kernel_rfl) (by kernel_rfl) (fun _ _ _ _ h => h) (by rfl) rfl (fun wz hS => by go_simp) HS0.out ?_
        try simp only [List.set_cons_zero, List.set_cons_succ]
        refine take_val 16 (.pointer (some ⟨g, i * 3, none⟩)) rfl (by kernel_rfl) (by kernel_rfl) (by kernel_rfl) (fun _ _ _ _ h => h) (by rfl) rfl (fun wz hS => by go_simp) HS0.out ?_
        try simp only [List.set_cons_zero, List.set_cons_succ]
        refine take_row 17 (cs := hC (L'[i]'(by omega))) rfl (by kernel_rfl) (by kernel_rfl) (by kernel_rfl) (fun _ _ _ _ h => h) (by rfl) rfl rfl rfl (fun _ hS => hS.range i (by omega)) Tryd.underlying179 rfl HIT.out HS0.out ?_
        try simp only [List.set_cons_zero, List.set_cons_succ]
        refine one_ready 18 (by kernel_rfl) rfl (by rfl) (fun K hK => ?_)
        refine wp_call_run (f := 106) (args := #[.agg (hC (L'[p]'(by omega))).toArray, .agg (hC (L'[i]'(by omega))).toArray]) (by kernel_rfl) (HCMP.out _ _ u5 (HOK.out _ (HPM.out.mem_iff.1 (List.getElem_mem _))) (HOK.out _ (HPM.out.mem_iff.1 (List.getElem_mem _)))) ?_
        rintro e u6 ⟨⟨r, rfl, hr⟩, hb6⟩
        have HRR := Lib.hid hr
        have HHS := Lib.hid (HS0.out.below hb6)
        have HKW := Lib.hid (HKD.out.trans (Kp.below hb6))
        have HBW := Lib.hid (Below.trans HBD.out (hb6.mono (Nat.le_trans HB0.out HKD.out.1)))
        clear hr hb6 HS0 HKD HBD
        refine ⟨_, rfl, ?_⟩
        refine hK.out _ _ HHS.out ?_
        clear hK K
        try simp only [Act.put, List.setIfInBounds_toArray]
        try simp only [List.set_cons_zero, List.set_cons_succ]
        refine take_val 19 (.bool (decide (r ≤ 0))) rfl (by kernel_rfl) (by kernel_rfl) (by kernel_rfl) (fun _ _ _ _ h => h) (by rfl) rfl (fun wz hS => by go_simp) HHS.out ?_
        try simp only [List.set_cons_zero, List.set_cons_succ]
        refine wpAnyH_done (by kernel_rfl) ?_ _
        refine NoPanic.normal ?_
        by_cases hle : leT (L'[p]'(by omega)) (L'[i]'hi)
        · have hr0 : decide (r ≤ 0) = true := decide_eq_true (HRR.out.1.2 hle)
          rw [hr0]
          go_wp2_with fail
          first | go_end0 | refine bodyPost_ret (results_none rfl _ _ _) rfl ?_
          refine ⟨rfl, HBW.out, HKW.out, _, _, L', HHS.out, HPE.out, HUP.out.done fun _ hi' => ?_⟩
          have e := HPD.out
          subst e
          exact hle
        · have hr0 : decide (r ≤ 0) = false := decide_eq_false fun h => hle (HRR.out.1.1 h)
          rw [hr0]
          have HNL := Lib.hid hle
          clear hle hr0
          go_wp2_with fail
          refine wp_region_noPanic ?_
          refine wp_region_held_drew (S := fun v => v.heap[hb]? = some (.cells (hpV (some ⟨g, 0, none⟩) L'.length cap2) 184 (0, 0))) (by kernel_rfl) HHS.out.row (fun hS0 => ?_)
          have HS0 := Lib.hid hS0
          clear hS0
          have HH5 := Lib.hid (HHS.out.below (Below.refl _ _).drew)
          have HK5 := Lib.hid (HKW.out.trans (Kp.below (Below.refl u6.heap.size u6).drew))
          have HB5 := Lib.hid HBW.out.drew
          clear HHS HKW HBW
          generalize u6.drew = u6 at *
          refine take_val 0 (.pointer (some ⟨hb, 0, none⟩)) rfl (by kernel_rfl) (by kernel_rfl) (by kernel_rfl) (fun _ _ _ _ h => h) (by rfl) rfl (fun wz hS => by go_simp) HS0.out ?_
          try simp only [List.set_cons_zero, List.set_cons_succ]
          refine take_val 1 (.pointer (some ⟨hb, 0, none⟩)) rfl (by kernel_rfl) (by kernel_rfl) (by kernel_rfl) (fun _ _ _ _ h => h) (by rfl) rfl (fun wz hS => by go_simp) HS0.out ?_
          try simp only [List.set_cons_zero, List.set_cons_succ]
          refine take_val 2 (.pointer (some ⟨hb, 0, none⟩)) rfl (by kernel_rfl) (by kernel_rfl) (by kernel_rfl) (fun _ _ _ _ h => h) (by rfl) rfl (fun wz hS => by go_simp) HS0.out ?_
          try simp only [List.set_cons_zero, List.set_cons_succ]
          refine take_val 3 (.slice (some ⟨g, 0, none⟩) L'.length cap2) rfl (by kernel_rfl) (by kernel_rfl) (by kernel_rfl) (fun _ _ _ _ h => h) (by rfl) rfl (fun wz hS => by have hz := cell_of_row _ _ 0 _ _ _ hS; simp only [List.getElem?_toArray, List.getElem?_cons_succ, List.getElem?_cons_zero] at hz; go_simp) HS0.out ?_
          try simp only [List.set_cons_zero, List.set_cons_succ]
          refine take_val 4 (.int .i64 (p : Int)) rfl (by kernel_rfl) (by kernel_rfl) (by kernel_rfl) (fun _ _ _ _ h => h) (by rfl) rfl (fun wz hS => by go_simp) HS0.out ?_
          try simp only [List.set_cons_zero, List.set_cons_succ]
          refine take_val 5 (.pointer (some ⟨hb, 0, none⟩)) rfl (by kernel_rfl) (by kernel_rfl) (by kernel_rfl) (fun _ _ _ _ h => h) (by rfl) rfl (fun wz hS => by go_simp) HS0.out ?_
          try simp only [List.set_cons_zero, List.set_cons_succ]
          refine take_val 6 (.pointer (some ⟨hb, 0, none⟩)) rfl (by kernel_rfl) (by kernel_rfl) (by kernel_rfl) (fun _ _ _ _ h => h) (by rfl) rfl (fun wz hS => by go_simp) HS0.out ?_
          try simp only [List.set_cons_zero, List.set_cons_succ]
          refine take_val 7 (.pointer (some ⟨hb, 0, none⟩)) rfl (by kernel_rfl) (by kernel_rfl) (by kernel_rfl) (fun _ _ _ _ h => h) (by rfl) rfl (fun wz hS => by go_simp) HS0.out ?_
          try simp only [List.set_cons_zero, List.set_cons_succ]
          refine take_val 8 (.slice (some ⟨g, 0, none⟩) L'.length cap2) rfl (by kernel_rfl) (by kernel_rfl) (by kernel_rfl) (fun _ _ _ _ h => h) (by rfl) rfl (fun wz hS => by have hz := cell_of_row _ _ 0 _ _ _ hS; simp only [List.getElem?_toArray, List.getElem?_cons_succ, List.getElem?_cons_zero] at hz; go_simp) HS0.out ?_
          try simp only [List.set_cons_zero, List.set_cons_succ]
          refine take_val 9 (.int .i64 (i : Int)) rfl (by kernel_rfl) (by kernel_rfl) (by kernel_rfl) (fun _ _ _ _ h => h) (by rfl) rfl (fun wz hS => by go_simp) HS0.out ?_
          try simp only [List.set_cons_zero, List.set_cons_succ]
          refine take_val 10 (.pointer (some ⟨hb, 0, none⟩)) rfl (by kernel_rfl) (by kernel_rfl) (by kernel_rfl) (fun _ _ _ _ h => h) (by rfl) rfl (fun wz hS => by go_simp) HS0.out ?_
          try simp only [List.set_cons_zero, List.set_cons_succ]
          refine take_val 11 (.pointer (some ⟨hb, 0, none⟩)) rfl (by kernel_rfl) (by kernel_rfl) (by kernel_rfl) (fun _ _ _ _ h => h) (by rfl) rfl (fun wz hS => by go_simp) HS0.out ?_
          try simp only [List.set_cons_zero, List.set_cons_succ]
          refine take_val 12 (.pointer (some ⟨hb, 0, none⟩)) rfl (by kernel_rfl) (by kernel_rfl) (by kernel_rfl) (fun _ _ _ _ h => h) (by rfl) rfl (fun wz hS => by go_simp) HS0.out ?_
          try simp only [List.set_cons_zero, List.set_cons_succ]
          refine take_val 13 (.slice (some ⟨g, 0, none⟩) L'.length cap2) rfl (by kernel_rfl) (by kernel_rfl) (by kernel_rfl) (fun _ _ _ _ h => h) (by rfl) rfl (fun wz hS => by have hz := cell_of_row _ _ 0 _ _ _ hS; simp only [List.getElem?_toArray, List.getElem?_cons_succ, List.getElem?_cons_zero] at hz; go_simp) HS0.out ?_
          try simp only [List.set_cons_zero, List.set_cons_succ]
          refine take_val 14 (.int .i64 (i : Int)) rfl (by kernel_rfl) (by kernel_rfl) (by kernel_rfl) (fun _ _ _ _ h => h) (by rfl) rfl (fun wz hS => by go_simp) HS0.out ?_
          try simp only [List.set_cons_zero, List.set_cons_succ]
          refine take_val 15 (.pointer (some ⟨g, i * 3, none⟩)) rfl (by kernel_rfl) (by kernel_rfl) (by kernel_rfl) (fun _ _ _ _ h => h) (by rfl) rfl (fun wz hS => by go_simp) HS0.out ?_
          try simp only [List.set_cons_zero, List.set_cons_succ]
          refine take_val 17 (.pointer (some ⟨hb, 0, none⟩)) rfl (by kernel_rfl) (by kernel_rfl) (by kernel_rfl) (fun _ _ _ _ h => h) (by rfl) rfl (fun wz hS => by go_simp) HS0.out ?_
          try simp only [List.set_cons_zero, List.set_cons_succ]
          refine take_val 18 (.pointer (some ⟨hb, 0, none⟩)) rfl (by kernel_rfl) (by kernel_rfl) (by kernel_rfl) (fun _ _ _ _ h => h) (by rfl) rfl (fun wz hS => by go_simp) HS0.out ?_
          try simp only [List.set_cons_zero, List.set_cons_succ]
          refine take_val 19 (.pointer (some ⟨hb, 0, none⟩)) rfl (by kernel_rfl) (by kernel_rfl) (by kernel_rfl) (fun _ _ _ _ h => h) (by rfl) rfl (fun wz hS => by go_simp) HS0.out ?_
          try simp only [List.set_cons_zero, List.set_cons_succ]
          refine take_val 20 (.slice (some ⟨g, 0, none⟩) L'.length cap2) rfl (by kernel_rfl) (by kernel_rfl) (by kernel_rfl) (fun _ _ _ _ h => h) (by rfl) rfl (fun wz hS => by have hz := cell_of_row _ _ 0 _ _ _ hS; simp only [List.getElem?_toArray, List.getElem?_cons_succ, List.getElem?_cons_zero] at hz; go_simp) HS0.out ?_
          try simp only [List.set_cons_zero, List.set_cons_succ]
          refine take_val 21 (.int .i64 (p : Int)) rfl (by kernel_rfl) (by kernel_rfl) (by kernel_rfl) (fun _ _ _ _ h => h) (by rfl) rfl (fun wz hS => by go_simp) HS0.out ?_
          try simp only [List.set_cons_zero, List.set_cons_succ]
          refine take_val 22 (.pointer (some ⟨g, p * 3, none⟩)) rfl (by kernel_rfl) (by kernel_rfl) (by kernel_rfl) (fun _ _ _ _ h => h) (by rfl) rfl (fun wz hS => by go_simp) HS0.out ?_
          try simp only [List.set_cons_zero, List.set_cons_succ]
          refine two_ready 16 23 (by kernel_rfl) rfl rfl (by rfl) (by rfl) (fun K hK => ?_) (fun K hK => ?_)
          · refine wp_load_mid 179 _ rfl g (i * 3) rfl (hC (L'[i]'(by omega))) _ (HH5.out.range i (by omega)) Tryd.underlying179 rfl HIT.out ?_
            refine hK.out _ _ HS0.out ?_
            clear hK K
            try simp only [Act.put, List.setIfInBounds_toArray]
            try simp only [List.set_cons_zero, List.set_cons_succ]
            refine one_ready 23 (by kernel_rfl) rfl (by rfl) (fun K hK => ?_)
            refine wp_load_mid 179 _ rfl g (p * 3) rfl (hC (L'[p]'(by omega))) _ (HH5.out.range p (by omega)) Tryd.underlying179 rfl HIT.out ?_
            refine hK.out _ _ HS0.out ?_
            clear hK K
            try simp only [Act.put, List.setIfInBounds_toArray]
            try simp only [List.set_cons_zero, List.set_cons_succ]
            refine take_val 24 (.pointer (some ⟨g, p * 3, none⟩)) rfl (by kernel_rfl) (by kernel_rfl) (by kernel_rfl) (fun _ _ _ _ h => h) (by rfl) rfl (fun wz hS => by go_simp) HS0.out ?_
            try simp only [List.set_cons_zero, List.set_cons_succ]
            refine one_ready 25 (by kernel_rfl) rfl (by rfl) (fun K hK => ?_)
            refine wp_store_mid 179 _ _ rfl g (p * 3) (hC (L'[i]'(by omega))).toArray rfl rfl (HH5.out.there (by omega) p (by omega)) HIT.out (all_oneCell_toArray (hC_one _)) ?_
            have HH7 := Lib.hid (HH5.out.put (by omega) p (by omega) (L'[i]'(by omega)))
            have HK7 := Lib.hid (HK5.out.trans (HH5.out.kp (by omega) (p * 3) (hC (L'[i]'(by omega)))))
            have HB7 := Lib.hid (below_setCells HGB.out (hC (L'[i]'(by omega))) (p * 3) HB5.out)
            have hs7 := HH7.out.row
            rw [List.length_set] at hs7
            have HS7 := Lib.hid hs7
            clear hs7
            refine hK.out _ _ HS7.out ?_
            clear hK K
            try simp only [Act.put, List.setIfInBounds_toArray]
            try simp only [List.set_cons_zero, List.set_cons_succ]
            refine take_val 26 (.pointer (some ⟨g, i * 3, none⟩)) rfl (by kernel_rfl) (by kernel_rfl) (by kernel_rfl) (fun _ _ _ _ h => h) (by rfl) rfl (fun wz hS => by go_simp) HS7.out ?_
            try simp only [List.set_cons_zero, List.set_cons_succ]
            refine one_ready 27 (by kernel_rfl) rfl (by rfl) (fun K hK => ?_)
            refine wp_store_mid 179 _ _ rfl g (i * 3) (hC (L'[p]'(by omega))).toArray rfl rfl (HH7.out.there (by rw [List.length_set]; omega) i (by rw [List.length_set]; omega)) HIT.out (all_oneCell_toArray (hC_one _)) ?_
            have HH8 : Hid (HpS B0 hb (some ⟨g, 0, none⟩) cap2 (swp L' p i (by omega) (by omega)) _) := HH7.out.put (by rw [List.length_set]; omega) i (by rw [List.length_set]; omega) (L'[p]'(by omega))
            have HK8 := Lib.hid (HK7.out.trans (HH7.out.kp (by rw [List.length_set]; omega) (i * 3) (hC (L'[p]'(by omega)))))
            have HB8 := Lib.hid (below_setCells HGB.out (hC (L'[p]'(by omega))) (i * 3) HB7.out)
            have hs8 := HH8.out.row
            rw [swp_len] at hs8
            refine hK.out _ _ hs8 ?_
            clear hK K
            try simp only [Act.put, List.setIfInBounds_toArray]
            try simp only [List.set_cons_zero, List.set_cons_succ]
            clear hs8 HS7 HH7 HK7 HB7 HS0 HH5 HK5 HB5
            refine wpAnyH_done (by kernel_rfl) ?_ _
            refine NoPanic.normal ?_
            have HUPN : Hid (HpUp leT (swp L' p i (by omega) (by omega)) p) := by
              have h := HpUp.step leT_trans leT_total h0 hi HUP.out (by
                have e := HPD.out
                have h := HNL.out
                subst e
                exact h)
              have e := HPD.out
              subst e
              exact h
            have HPN : Hid ((swp L' p i (by omega) (by omega)).Perm (L ++ [x])) := (swp_perm L' p i _ _).trans HPE.out
            have HLN2 : Hid ((swp L' p i (by omega) (by omega)).length = L1.length) := (swp_len L' p i _ _).trans HLN.out
            go_wp2_with fail
            go_roundw
            case rel => exact ⟨p, _, rfl, by rw [swp_len]; omega, HLN2, HPN, HUPN, HH8, HK8, HB8⟩
            case measure => simp [intOf]; omega
          · refine wp_load_mid 179 _ rfl g (p * 3) rfl (hC (L'[p]'(by omega))) _ (HH5.out.range p (by omega)) Tryd.underlying179 rfl HIT.out ?_
            refine hK.out _ _ HS0.out ?_
            clear hK K
            try simp only [Act.put, List.setIfInBounds_toArray]
            try simp only [List.set_cons_zero, List.set_cons_succ]
            refine one_ready 16 (by kernel_rfl) rfl (by rfl) (fun K hK => ?_)
            refine wp_load_mid 179 _ rfl g (i * 3) rfl (hC (L'[i]'(by omega))) _ (HH5.out.range i (by omega)) Tryd.underlying179 rfl HIT.out ?_
            refine hK.out _ _ HS0.out ?_
            clear hK K
            try simp only [Act.put, List.setIfInBounds_toArray]
            try simp only [List.set_cons_zero, List.set_cons_succ]
            refine take_val 24 (.pointer (some ⟨g, p * 3, none⟩)) rfl (by kernel_rfl) (by kernel_rfl) (by kernel_rfl) (fun _ _ _ _ h => h) (by rfl) rfl (fun wz hS => by go_simp) HS0.out ?_
            try simp only [List.set_cons_zero, List.set_cons_succ]
            refine one_ready 25 (by kernel_rfl) rfl (by rfl) (fun K hK => ?_)
            refine wp_store_mid 179 _ _ rfl g (p * 3) (hC (L'[i]'(by omega))).toArray rfl rfl (HH5.out.there (by omega) p (by omega)) HIT.out (all_oneCell_toArray (hC_one _)) ?_
            have HH7 := Lib.hid (HH5.out.put (by omega) p (by omega) (L'[i]'(by omega)))
            have HK7 := Lib.hid (HK5.out.trans (HH5.out.kp (by omega) (p * 3) (hC (L'[i]'(by omega)))))
            have HB7 := Lib.hid (below_setCells HGB.out (hC (L'[i]'(by omega))) (p * 3) HB5.out)
            have hs7 := HH7.out.row
            rw [List.length_set] at hs7
            have HS7 := Lib.hid hs7
            clear hs7
            refine hK.out _ _ HS7.out ?_
            clear hK K
            try simp only [Act.put, List.setIfInBounds_toArray]
            try simp only [List.set_cons_zero, List.set_cons_succ]
            refine take_val 26 (.pointer (some ⟨g, i * 3, none⟩)) rfl (by kernel_rfl) (by kernel_rfl) (by kernel_rfl) (fun _ _ _ _ h => h) (by rfl) rfl (fun wz hS => by go_simp) HS7.out ?_
            try simp only [List.set_cons_zero, List.set_cons_succ]
            refine one_ready 27 (by kernel_rfl) rfl (by rfl) (fun K hK => ?_)
            refine wp_store_mid 179 _ _ rfl g (i * 3) (hC (L'[p]'(by omega))).toArray rfl rfl (HH7.out.there (by rw [List.length_set]; omega) i (by rw [List.length_set]; omega)) HIT.out (all_oneCell_toArray (hC_one _)) ?_
            have HH8 : Hid (HpS B0 hb (some ⟨g, 0, none⟩) cap2 (swp L' p i (by omega) (by omega)) _) := HH7.out.put (by rw [List.length_set]; omega) i (by rw [List.length_set]; omega) (L'[p]'(by omega))
            have HK8 := Lib.hid (HK7.out.trans (HH7.out.kp (by rw [List.length_set]; omega) (i * 3) (hC (L'[p]'(by omega)))))
            have HB8 := Lib.hid (below_setCells HGB.out (hC (L'[p]'(by omega))) (i * 3) HB7.out)
            have hs8 := HH8.out.row
            rw [swp_len] at hs8
            refine hK.out _ _ hs8 ?_
            clear hK K
            try simp only [Act.put, List.setIfInBounds_toArray]
            try simp only [List.set_cons_zero, List.set_cons_succ]
            clear hs8 HS7 HH7 HK7 HB7 HS0 HH5 HK5 HB5
            refine wpAnyH_done (by kernel_rfl) ?_ _
            refine NoPanic.normal ?_
            have HUPN : Hid (HpUp leT (swp L' p i (by omega) (by omega)) p) := by
              have h := HpUp.step leT_trans leT_total h0 hi HUP.out (by
                have e := HPD.out
                have h := HNL.out
                subst e
                exact h)
              have e := HPD.out
              subst e
              exact h
            have HPN : Hid ((swp L' p i (by omega) (by omega)).Perm (L ++ [x])) := (swp_perm L' p i _ _).trans HPE.out
            have HLN2 : Hid ((swp L' p i (by omega) (by omega)).length = L1.length) := (swp_len L' p i _ _).trans HLN.out
            go_wp2_with fail
            go_roundw
            case rel => exact ⟨p, _, rfl, by rw [swp_len]; omega, HLN2, HPN, HUPN, HH8, HK8, HB8⟩
            case measure => simp [intOf]; omega
      · have m1 : ¬ (i : Int) > 0 := by omega
        go_wp2_with fail
        first | go_end0 | refine bodyPost_ret (results_none rfl _ _ _) rfl ?_
        exact ⟨rfl, HBW.out, HKW.out, _, _, L', HHS.out, HPE.out, HUP.out.done fun h1 _ => absurd h1 h0⟩
end Go.Proofs.YtbfhhnpoogmlnaaDoor
