/- The walk of WasteRanks. -/
import Derived.Test.YtpfmfigommmjiaaWasteC
namespace Go.Proofs.Ytpfmfigommmjiaa
open Go.RowKit Plain
set_option linter.unusedVariables false
set_option linter.unusedSimpArgs false
theorem ch_len {L : List Wst} {over : Nat} {Z : List Nat} (h : ChOk L over Z) (hk : WsOk L) : Z.length ≤ 100 := by
  rw [h.perm.length_eq]
  unfold cand
  refine Nat.le_trans (List.length_filter_le _ _) ?_
  rw [List.length_range]
  exact hk.1
theorem order_le {x y : Nat} {r : Ordering} (h : FloatKind.f64.format.order x y = some r) (hr : r ≠ .gt) : isNaN x = false ∧ isNaN y = false ∧ place x ≤ place y := by
  have h' : Ieee.double.order x y = some r := h
  cases hx : isNaN x with
  | true => rw [order_nan _ _ (.inl hx)] at h'; cases h'
  | false =>
    cases hy : isNaN y with
    | true => rw [order_nan _ _ (.inr hy)] at h'; cases h'
    | false =>
      rw [order_place _ _ hx hy] at h'
      have := Option.some.inj h'
      refine ⟨rfl, rfl, ?_⟩
      rcases Int.lt_or_le (place y) (place x) with hl | hl
      · rw [Int.compare_eq_gt.2 hl] at this
        exact absurd this.symm hr
      · exact hl
theorem sat_take {w : World} {a : Option Addr} {Z : List Nat} (h : SAt 1 iC w a (zI Z)) (n : Nat) : SAt 1 iC w a (zI (Z.take n)) := by
  intro i hi
  have hi2 : i < (zI Z).length := by rw [zI_length, List.length_take] at hi; rw [zI_length]; omega
  obtain ⟨g, off, e, hg, hc⟩ := h i hi2
  refine ⟨g, off, e, hg, ?_⟩
  have e2 : (zI (Z.take n))[i] = (zI Z)[i] := by simp [zI]
  rw [e2]
  exact hc
theorem sh41 : shF (4, 1) = 4598175219545276416 := by decide +kernel
theorem sh43 : shF (4, 3) = 4604930618986332160 := by decide +kernel
abbrev L2 : List Wst := [(4, 1), (4, 3)]
theorem ck2 : WsOk L2 := ⟨by decide, fun w hw => by
  simp only [L2, List.mem_cons, List.not_mem_nil, or_false] at hw
  rcases hw with rfl | rfl <;> exact ⟨by decide, by decide, by decide, by decide⟩⟩
theorem cand2 : cand L2 0 = [0, 1] := by
  have h0 : abB L2 0 0 = true := abB_iff.2 ⟨(4, 1), rfl, by decide, by decide, by rw [sh41]; decide⟩
  have h1 : abB L2 0 1 = true := abB_iff.2 ⟨(4, 3), rfl, by decide, by decide, by rw [sh43]; decide⟩
  show (List.range 2).filter (abB L2 0) = _
  rw [show List.range 2 = [0, 1] from rfl]
  simp [h0, h1]
theorem ch2 {Z : List Nat} (h : ChOk L2 0 Z) : Z = [1, 0] := by
  have hk : keyW L2 1 < keyW L2 0 := by
    show -(shF (4, 3) : Int) < -(shF (4, 1) : Int)
    rw [sh41, sh43]
    decide
  refine sort_uniq (key := keyW L2) (idx := id) (h.perm.trans (by rw [cand2]; exact List.Perm.swap 1 0 [])) h.stable h.sorted ?_ ?_
  · refine List.pairwise_pair.2 ?_
    intro e
    omega
  · refine List.pairwise_pair.2 ?_
    show keyW L2 1 ≤ keyW L2 0
    omega
set_option maxRecDepth 100000 in
set_option maxHeartbeats 4000000 in
theorem wasteRanks_any (a : Option Addr) (cap : Nat) (L : List Wst) (low high : Nat) (w : World) (h : SAt 2 wsC w a L) (hl : L.length ≤ 9223372036854775807) :
    Calls Try.prog 3 #[.slice a L.length cap, .float .f64 low, .float .f64 high] w fun e w' => e = .returned (.bool true) ∧ Below w.heap.size w w' := by
  have HS := Lib.hid h
  have HC1 : Hid (Calls Try.prog 5 #[.slice (some ⟨w.heap.size, 0, none⟩) 2 2, .float .f64 0] (w.alloc (.cells #[.int .i64 4, .int .i64 1, .int .i64 4, .int .i64 3] 29)) (ChEnd L2 0 (w.alloc (.cells #[.int .i64 4, .int .i64 1, .int .i64 4, .int .i64 3] 29)))) := Lib.hid (choose_any (some ⟨w.heap.size, 0, none⟩) 2 L2 0 _ (by
    have hb := heap_alloc_new w (.cells #[.int .i64 4, .int .i64 1, .int .i64 4, .int .i64 3] 29)
    intro i hi
    refine ⟨w.heap.size, 0, rfl, lt_of_block hb, fun j v hj => ?_⟩
    rw [cell_of_row _ _ _ _ _ _ hb]
    match i, hi, j, hj with
    | 0, _, 0, hj => rw [← hj]; rfl
    | 0, _, 1, hj => rw [← hj]; rfl
    | 1, _, 0, hj => rw [← hj]; rfl
    | 1, _, 1, hj => rw [← hj]; rfl) (by decide))
  have HB0 : Hid (Below w.heap.size w (w.alloc (.cells #[.int .i64 4, .int .i64 1, .int .i64 4, .int .i64 3] 29))) := Lib.hid ((Below.refl _ _).alloc (Nat.le_refl _) _)
  have HCA := Lib.hid fun u (hb : Below w.heap.size w u) => choose_any a cap L low u (h.below hb) hl
  have HCB := Lib.hid fun u (hb : Below w.heap.size w u) => choose_any a cap L high u (h.below hb) hl
  clear h
  go_enter Try.func3, Try.ntmps3
  go_wp2_with fail
  refine HC1.out.mono ?_
  rintro e w1 ⟨hb1, hr⟩
  rcases hr with ⟨hn, _⟩ | ⟨_, Z, oa, oc, hch, rfl, hsa, hcap, _⟩
  · exact absurd (ckW_ok ck2) hn
  obtain rfl := ch2 hch
  replace hsa : SAt 1 iC w1 oa [1, 0] := hsa
  have HB1 := Lib.hid (Below.step HB0.out hb1)
  have HBN : Hid (Below w.heap.size w (w1.alloc (.cells #[.int .i64 1, .int .i64 0] 3))) := Lib.hid (HB1.out.alloc HB1.out.size _)
  have HEQ : Hid (Calls Try.prog 6 #[.slice oa 2 oc, .slice (some ⟨w1.heap.size, 0, none⟩) 2 2] (w1.alloc (.cells #[.int .i64 1, .int .i64 0] 3)) fun e w' => e = .returned (.bool true) ∧ Below (w1.alloc (.cells #[.int .i64 1, .int .i64 0] 3)).heap.size (w1.alloc (.cells #[.int .i64 1, .int .i64 0] 3)) w') := Lib.hid (eqInt_any oa (some ⟨w1.heap.size, 0, none⟩) oc 2 [1, 0] [1, 0] _ (hsa.below ((Below.refl _ _).alloc (Nat.le_refl _) _)) (by
    have hb := heap_alloc_new w1 (.cells #[.int .i64 1, .int .i64 0] 3)
    intro i hi
    refine ⟨w1.heap.size, 0, rfl, lt_of_block hb, fun j v hj => ?_⟩
    rw [cell_of_row _ _ _ _ _ _ hb]
    match i, hi, j, hj with
    | 0, _, 0, hj => rw [← hj]; rfl
    | 1, _, 0, hj => rw [← hj]; rfl) (by decide) (by decide))
  clear hb1 hch hsa hcap
  have hl2 : ((zI [1, 0]).length : Int) = 2 := rfl
  go_wp2_with fail
  refine HEQ.out.mono ?_
  rintro e w2 ⟨rfl, hb2⟩
  have HB2 := Lib.hid (Below.step HBN.out hb2)
  clear hb2
  go_wp2_with fail
  refine (HCA.out _ HB2.out).mono ?_
  rintro e w3 ⟨hb3, hr⟩
  have HB3 := Lib.hid (Below.step HB2.out hb3)
  clear hb3
  rcases hr with ⟨hn, rfl⟩ | ⟨hz, Z, oa, oc, hch, rfl, hsa, hcap, hoa⟩
  · go_wp2_with fail
    refine (HCB.out _ HB3.out).mono ?_
    rintro e w4 ⟨hb4, hr⟩
    have HB4 := Lib.hid (Below.step HB3.out hb4)
    clear hb4
    rcases hr with ⟨_, rfl⟩ | ⟨hz, _⟩
    · go_wp2_with fail
      go_ret
      exact ⟨by simp, HB4.out⟩
    · exact absurd hz hn
  · go_wp2_with fail
    refine (HCB.out _ HB3.out).mono ?_
    rintro e w4 ⟨hb4, hr⟩
    have HB4 := Lib.hid (Below.step HB3.out hb4)
    rcases hr with ⟨hn, _⟩ | ⟨_, Y, ob, od, hch2, rfl, hsb, hcap2, hob⟩
    · exact absurd hz hn
    have HSA := Lib.hid (hsa.below hb4)
    have HSB := Lib.hid hsb
    have HCA1 := Lib.hid hch
    have HOK := Lib.hid (ckW_zero hz)
    have HZN : Hid ((zI Z).length ≤ 100) := Lib.hid (by rw [zI_length]; exact ch_len hch HOK.out)
    have HYN : Hid ((zI Y).length ≤ 100) := Lib.hid (by rw [zI_length]; exact ch_len hch2 HOK.out)
    have HRL : Hid (∀ r, FloatKind.f64.format.order low high = some r → r ≠ .gt → Y.length ≤ Z.length ∧ ∀ u, Below w4.heap.size w4 u → SAt 1 iC u oa (zI Y)) := Lib.hid fun r hr hg => by
      obtain ⟨h1, h2, h3⟩ := order_le hr hg
      obtain ⟨h4, h5⟩ := ranks_law hch hch2 h1 h2 h3
      refine ⟨h4, fun u hu => ?_⟩
      have := HSA.out.below hu
      rw [← h5]
      exact sat_take this _
    clear hb4
    go_wp2_with fail
    go_loopw [13] (fun iv wr => ∃ i : Nat, 1 ≤ i ∧ i ≤ (zI Z).length + 1 ∧ iv = .int .i64 (i : Int) ∧ Hid (Below w4.heap.size w4 wr)) (fun iv _ => (zI Z).length + 1 - (intOf iv).toNat)
    case atStart => exact ⟨1, by omega, by omega, rfl, Lib.hid (Below.refl _ _)⟩
    case round =>
      obtain ⟨i, h1, h2, rfl, HB⟩ := hrel
      obtain ⟨k, rfl⟩ : ∃ k, i = k + 1 := ⟨i - 1, by omega⟩
      by_cases hlt : k + 1 < (zI Z).length
      · skip
        have m2 : ((k + 1 : Nat) : Int) < ((zI Z).length : Int) := by omega
        have m3 : (k : Int) < ((zI Z).length : Int) := by omega
        have m4 : (0 : Int) ≤ (k : Int) := by omega
        have HKL : Hid (k + 1 < (zI Z).length) := Lib.hid hlt
        have m5 : (0 : Int) ≤ ((k + 1 : Nat) : Int) := by omega
        have wk : IntKind.i64.wrap (((k + 1 : Nat) : Int) - 1) = (k : Int) := by rw [wraps_i64 _ (by omega) (by have := HZN.out; omega)]; omega
        have wk2 : IntKind.i64.wrap (k : Int) = (k : Int) := wraps_i64 _ (by omega) (by have := HZN.out; omega)
        have w9 : IntKind.i64.wrap (((k + 1 : Nat) : Int) + 1) = ((k + 2 : Nat) : Int) := by rw [wraps_i64 _ (by omega) (by have := HZN.out; omega)]; omega
        have w8 : IntKind.i64.wrap ((k : Int) + 1 + 1) = (k : Int) + 1 + 1 := wraps_i64 _ (by omega) (by have := HZN.out; omega)
        have m7 : (k : Int) + 1 < ((zI Z).length : Int) := by omega
        have m8 : (0 : Int) ≤ (k : Int) + 1 := by omega
        have hlz : k + 1 < Z.length := by rw [zI_length] at hlt; exact hlt
        obtain ⟨x, hx⟩ : ∃ x, Z[k]? = some x := ⟨_, List.getElem?_eq_getElem (by omega)⟩
        obtain ⟨y, hy⟩ : ∃ y, Z[k + 1]? = some y := ⟨_, List.getElem?_eq_getElem hlz⟩
        obtain ⟨vx, vy, ex, ey, hxy⟩ := sorted_shares HCA1.out HOK.out hx hy
        have ox := HOK.out.2 vx (List.mem_of_getElem? ex)
        have oy := HOK.out.2 vy (List.mem_of_getElem? ey)
        have HSX := Lib.hid (fun u => share_any vx ox u)
        have HSY := Lib.hid (fun u => share_any vy oy u)
        have o17 : (FloatKind.f64.format.order (shF vx) (shF vy) == some .lt) = false := by
          obtain ⟨_, _, nx, px⟩ := low_word (shF_le ox)
          obtain ⟨_, _, ny, py⟩ := low_word (shF_le oy)
          have h1 : FloatKind.f64.format.order (shF vx) (shF vy) = some (compare ((shF vx : Nat) : Int) ((shF vy : Nat) : Int)) := by rw [← px, ← py]; exact order_place _ _ nx ny
          rw [h1, beq_eq_false_iff_ne]
          intro h2
          have := Int.compare_eq_lt.1 (Option.some.inj h2)
          omega
        obtain ⟨g, off, ea, _, _, _⟩ := (HS.out.below HB4.out).ws ex
        obtain ⟨gz, oz, eo, _, _⟩ := HSA.out.int k (by omega)
        obtain rfl : oz = 0 := by have := hoa _ eo; injection this
        subst ea eo
        clear hoa hob
        have mx : (x : Int) < (L.length : Int) := by have := (List.getElem?_eq_some_iff.1 ex).1; omega
        have my : (y : Int) < (L.length : Int) := by have := (List.getElem?_eq_some_iff.1 ey).1; omega
        have nx : (0 : Int) ≤ (x : Int) := by omega
        have ny : (0 : Int) ≤ (y : Int) := by omega
        have HCF : Hid (∀ u : World, Below w4.heap.size w4 u → u.cell? ⟨gz, k, none⟩ = some (.int .i64 (x : Int)) ∧ u.cell? ⟨gz, k + 1, none⟩ = some (.int .i64 (y : Int)) ∧ u.cell? ⟨g, off + x * 2, none⟩ = some (.int .i64 vx.1) ∧ u.cell? ⟨g, off + x * 2 + 1, none⟩ = some (.int .i64 vx.2) ∧ u.cell? ⟨g, off + y * 2, none⟩ = some (.int .i64 vy.1) ∧ u.cell? ⟨g, off + y * 2 + 1, none⟩ = some (.int .i64 vy.2)) := Lib.hid fun u hb => by
          have h2 := HS.out.below (Below.step HB4.out hb)
          have h3 := HSA.out.below hb
          obtain ⟨g1, o1, e1, _, c0, c1⟩ := h2.ws ex
          obtain ⟨g2, o2, e2, _, d0, d1⟩ := h2.ws ey
          obtain ⟨g3, o3, e3, _, b0⟩ := h3.int k (by omega)
          obtain ⟨g4, o4, e4, _, b1⟩ := h3.int (k + 1) (by omega)
          simp only [Option.some.injEq, Addr.mk.injEq, and_true] at e1 e2 e3 e4
          obtain ⟨rfl, rfl⟩ := e1
          obtain ⟨rfl, rfl⟩ := e2
          obtain ⟨rfl, rfl⟩ := e3
          obtain ⟨rfl, rfl⟩ := e4
          rw [(List.getElem?_eq_some_iff.1 (zI_get hx)).2] at b0
          rw [(List.getElem?_eq_some_iff.1 (zI_get hy)).2] at b1
          rw [Nat.zero_add] at b0 b1
          exact ⟨b0, b1, c0, c1, d0, d1⟩
        clear hx hy ex ey ox oy hxy
        go_wp2_with fail
        refine wp_region_noPanic ?_
        refine wp_region_held_drew (S := fun u => Below w4.heap.size w4 u) (by kernel_rfl) HB.out.drew (fun hS0 => ?_)
        have HS0 := Lib.hid hS0
        clear hS0
        refine take_val 0 (.slice (some ⟨g, off, none⟩) L.length cap) rfl (by kernel_rfl) (by kernel_rfl) (by kernel_rfl) (fun _ _ _ _ h => h) (by rfl) rfl (fun wz hS => by go_simp) HS0.out ?_
        try simp only [List.set_cons_zero, List.set_cons_succ]
        refine take_val 1 (.slice (some ⟨gz, 0, none⟩) (zI Z).length oc) rfl (by kernel_rfl) (by kernel_rfl) (by kernel_rfl) (fun _ _ _ _ h => h) (by rfl) rfl (fun wz hS => by go_simp) HS0.out ?_
        try simp only [List.set_cons_zero, List.set_cons_succ]
        refine take_val 2 (.int .i64 ((k + 1 : Nat) : Int)) rfl (by kernel_rfl) (by kernel_rfl) (by kernel_rfl) (fun _ _ _ _ h => h) (by rfl) rfl (fun wz hS => by go_simp) HS0.out ?_
        try simp only [List.set_cons_zero, List.set_cons_succ]
        refine take_val 3 (.int .i64 (k : Int)) rfl (by kernel_rfl) (by kernel_rfl) (by kernel_rfl) (fun _ _ _ _ h => h) (by rfl) rfl (fun wz hS => by go_simp) HS0.out ?_
        try simp only [List.set_cons_zero, List.set_cons_succ]
        refine take_val 4 (.pointer (some ⟨gz, k, none⟩)) rfl (by kernel_rfl) (by kernel_rfl) (by kernel_rfl) (fun _ _ _ _ h => h) (by rfl) rfl (fun wz hS => by go_simp) HS0.out ?_
        try simp only [List.set_cons_zero, List.set_cons_succ]
        refine take_val 5 (.int .i64 (x : Int)) rfl (by kernel_rfl) (by kernel_rfl) (by kernel_rfl) (fun _ _ _ _ h => h) (by rfl) rfl (fun wz hS => by have hzc := HCF.out _ hS; obtain ⟨z0, z1, z2, z3, z4, z5⟩ := hzc; first | (go_simp; done) | (go_simp; rfl)) HS0.out ?_
        try simp only [List.set_cons_zero, List.set_cons_succ]
        refine take_val 6 (.pointer (some ⟨g, off + x * 2, none⟩)) rfl (by kernel_rfl) (by kernel_rfl) (by kernel_rfl) (fun _ _ _ _ h => h) (by rfl) rfl (fun wz hS => by go_simp) HS0.out ?_
        try simp only [List.set_cons_zero, List.set_cons_succ]
        refine take_val 7 (wsV vx) rfl (by kernel_rfl) (by kernel_rfl) (by kernel_rfl) (fun _ _ _ _ h => h) (by rfl) rfl (fun wz hS => by have hzc := HCF.out _ hS; obtain ⟨z0, z1, z2, z3, z4, z5⟩ := hzc; first | (go_simp; done) | (go_simp; rfl)) HS0.out ?_
        try simp only [List.set_cons_zero, List.set_cons_succ]
        refine take_val 9 (.slice (some ⟨g, off, none⟩) L.length cap) rfl (by kernel_rfl) (by kernel_rfl) (by kernel_rfl) (fun _ _ _ _ h => h) (by rfl) rfl (fun wz hS => by go_simp) HS0.out ?_
        try simp only [List.set_cons_zero, List.set_cons_succ]
        refine take_val 10 (.slice (some ⟨gz, 0, none⟩) (zI Z).length oc) rfl (by kernel_rfl) (by kernel_rfl) (by kernel_rfl) (fun _ _ _ _ h => h) (by rfl) rfl (fun wz hS => by go_simp) HS0.out ?_
        try simp only [List.set_cons_zero, List.set_cons_succ]
        refine take_val 11 (.int .i64 ((k + 1 : Nat) : Int)) rfl (by kernel_rfl) (by kernel_rfl) (by kernel_rfl) (fun _ _ _ _ h => h) (by rfl) rfl (fun wz hS => by go_simp) HS0.out ?_
        try simp only [List.set_cons_zero, List.set_cons_succ]
        refine take_val 12 (.pointer (some ⟨gz, k + 1, none⟩)) rfl (by kernel_rfl) (by kernel_rfl) (by kernel_rfl) (fun _ _ _ _ h => h) (by rfl) rfl (fun wz hS => by go_simp) HS0.out ?_
        try simp only [List.set_cons_zero, List.set_cons_succ]
        refine take_val 13 (.int .i64 (y : Int)) rfl (by kernel_rfl) (by kernel_rfl) (by kernel_rfl) (fun _ _ _ _ h => h) (by rfl) rfl (fun wz hS => by have hzc := HCF.out _ hS; obtain ⟨z0, z1, z2, z3, z4, z5⟩ := hzc; first | (go_simp; done) | (go_simp; rfl)) HS0.out ?_
        try simp only [List.set_cons_zero, List.set_cons_succ]
        refine take_val 14 (.pointer (some ⟨g, off + y * 2, none⟩)) rfl (by kernel_rfl) (by kernel_rfl) (by kernel_rfl) (fun _ _ _ _ h => h) (by rfl) rfl (fun wz hS => by go_simp) HS0.out ?_
        try simp only [List.set_cons_zero, List.set_cons_succ]
        refine take_val 15 (wsV vy) rfl (by kernel_rfl) (by kernel_rfl) (by kernel_rfl) (fun _ _ _ _ h => h) (by rfl) rfl (fun wz hS => by have hzc := HCF.out _ hS; obtain ⟨z0, z1, z2, z3, z4, z5⟩ := hzc; first | (go_simp; done) | (go_simp; rfl)) HS0.out ?_
        try simp only [List.set_cons_zero, List.set_cons_succ]
        generalize wr.drew = v0 at *
        refine one_ready 8 (by kernel_rfl) rfl (by rfl) (fun KQ hK => ?_)
        refine wp_call_run (f := 7) (args := #[wsV vx]) (by kernel_rfl) (HSX.out v0) ?_
        rintro e u1 ⟨rfl, hbu⟩
        refine ⟨_, rfl, ?_⟩
        show KQ (Act.put _ (some 72) _) _
        have HS1 := Lib.hid (Below.step HS0.out hbu)
        clear hbu
        refine hK.out _ _ HS1.out ?_
        clear hK KQ
        try simp only [Act.put, List.setIfInBounds_toArray]
        try simp only [List.set_cons_zero, List.set_cons_succ]
        clear HS0
        generalize u1 = v1 at *
        refine one_ready 16 (by kernel_rfl) rfl (by rfl) (fun KQ hK => ?_)
        refine wp_call_run (f := 7) (args := #[wsV vy]) (by kernel_rfl) (HSY.out v1) ?_
        rintro e u2 ⟨rfl, hbu⟩
        refine ⟨_, rfl, ?_⟩
        show KQ (Act.put _ (some 80) _) _
        have HS2 := Lib.hid (Below.step HS1.out hbu)
        clear hbu
        refine hK.out _ _ HS2.out ?_
        clear hK KQ
        try simp only [Act.put, List.setIfInBounds_toArray]
        try simp only [List.set_cons_zero, List.set_cons_succ]
        clear HS1
        generalize u2 = v2 at *
        refine take_val 17 (.bool false) rfl (by kernel_rfl) (by kernel_rfl) (by kernel_rfl) (fun _ _ _ _ h => h) (by rfl) rfl (fun wz hS => by go_simp) HS2.out ?_
        try simp only [List.set_cons_zero, List.set_cons_succ]
        refine wpAnyH_done (by kernel_rfl) ?_ _
        refine NoPanic.normal ?_
        go_wp2_with fail
        go_roundw
        case rel => exact ⟨k + 2, by omega, by have := HKL.out; omega, by first | rfl | go_num, HS2⟩
        case measure => simp [intOf]; have := HKL.out; omega
      · have m2 : ¬ ((k + 1 : Nat) : Int) < ((zI Z).length : Int) := by omega
        have HBE := Lib.hid (Below.step HB4.out HB.out)
        clear hoa hob
        cases ho : FloatKind.f64.format.order low high with
        | none =>
          go_wp2_with fail
          go_ret
          exact ⟨rfl, HBE.out⟩
        | some r =>
          cases r with
          | gt =>
            go_wp2_with fail
            go_ret
            exact ⟨rfl, HBE.out⟩
          | lt =>
            have HR := Lib.hid (HRL.out .lt ho (by decide))
            have m6 : ((zI Y).length : Int) ≤ ((zI Z).length : Int) := by have := HR.out.1; rw [zI_length, zI_length]; omega
            have HEQ2 := Lib.hid (eqInt_any oa ob oc od (zI Y) (zI Y) wr (HR.out.2 wr HB.out) (HSB.out.below HB.out) (by rw [zI_length]; have := HYN.out; rw [zI_length] at this; omega) (by have := HYN.out; omega))
            go_wp2_with fail
            refine HEQ2.out.mono ?_
            rintro e w5 ⟨rfl, hb5⟩
            have HB5 := Lib.hid (Below.step HBE.out hb5)
            go_wp2_with fail
            go_ret
            exact ⟨by simp, HB5.out⟩
          | eq =>
            have HR := Lib.hid (HRL.out .eq ho (by decide))
            have m6 : ((zI Y).length : Int) ≤ ((zI Z).length : Int) := by have := HR.out.1; rw [zI_length, zI_length]; omega
            have HEQ2 := Lib.hid (eqInt_any oa ob oc od (zI Y) (zI Y) wr (HR.out.2 wr HB.out) (HSB.out.below HB.out) (by rw [zI_length]; have := HYN.out; rw [zI_length] at this; omega) (by have := HYN.out; omega))
            go_wp2_with fail
            refine HEQ2.out.mono ?_
            rintro e w5 ⟨rfl, hb5⟩
            have HB5 := Lib.hid (Below.step HBE.out hb5)
            go_wp2_with fail
            go_ret
            exact ⟨by simp, HB5.out⟩
end Go.Proofs.Ytpfmfigommmjiaa
