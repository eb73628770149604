/- The walk of sweep's act: cutting; act whole. -/
import Derived.Test.YtgoocmocdimnoaaSweepAct2
namespace Go.Proofs.Ytgoocmocdimnoaa
open Go.RowKit Plain
set_option linter.unusedVariables false
set_option maxRecDepth 100000 in
set_option maxHeartbeats 4000000 in
theorem act_cut (base H : Nat) (ta : Option Addr) (tc : Nat) (rows : List TRow) (ra : Option Addr) (rc : Nat) (rs : List Int) (bz : Bool) (x y : Int) (w : World) (h : OH base H ta tc rows ra rc rs bz w) (hok : HOk (tK rows, rs, bz)) (hd : ∀ r ∈ rows, ra = none ∨ r.1 ≠ ra) (hp : DSk rows) :
    Calls Try.prog 41 #[.pointer (some ⟨H, 0, none⟩), .agg #[.int .i64 4, .int .i64 x, .int .i64 y]] w (ActEnd base H (stepF (tK rows, rs, bz) (4, x, y)) w) := by
  have h40 : rows.length ≤ 40 := by have := hok.1; rwa [show (tK rows, rs, bz).1 = tK rows from rfl, tK_length] at this
  have h64 : rs.length ≤ 64 := hok.2.1
  have hsz := h.size
  have HHL : Hid (H < w.heap.size) := lt_of_block h.2.1
  have HBA : Hid (Below w.heap.size w (w.alloc (.cells #[.int .i64 4, .int .i64 x, .int .i64 y] 43))) := (Below.refl w.heap.size w).alloc (Nat.le_refl _) (.cells #[.int .i64 4, .int .i64 x, .int .i64 y] 43)
  have HBX := Lib.hid (heap_alloc_new w (.cells #[.int .i64 4, .int .i64 x, .int .i64 y] 43))
  have HO := Lib.hid (h.below HBA.out)
  have HBB := Lib.hid (HBA.out.mono hsz)
  have HST : Hid (stepF (tK rows, rs, bz) (4, x, y) = cutF (tK rows, rs, bz) x y) := by show _ = _; rfl
  have HOK := Lib.hid hok
  have HD := Lib.hid hd
  have HP := Lib.hid hp
  have HLN := Lib.hid (tK_length rows)
  have HIL := Lib.hid fun (u : World) (hu : OH base H ta tc rows ra rc rs bz u) => isLiveB_any base H ta tc rows ra rc rs bz x u hu HOK.out
  have HLX := Lib.hid (lvB_true (h := (tK rows, rs, bz)) (k := x))
  generalize lvB (tK rows, rs, bz) x = qx at *
  cases qx with
  | false =>
    have HR : Hid (cutF (tK rows, rs, bz) x y = none) := by show _ = _; unfold cutF; rw [if_neg (fun h => by have := HLX.out.2 h; cases this)]
    clear h hok hd hp
    go_enter Try.func41, Try.ntmps41
    go_wp2_with fail
    refine wp_region_noPanic ?_
    refine wp_region_held_drew (S := fun u => OH base H ta tc rows ra rc rs bz u ∧ u.heap[w.heap.size]? = some (.cells #[.int .i64 4, .int .i64 x, .int .i64 y] 43 (0, 0)) ∧ Below base w u) (by kernel_rfl) ⟨HO.out, HBX.out, HBB.out.drew⟩ (fun hS0 => ?_)
    have HS0 := Lib.hid hS0
    clear hS0
    refine take_val 0 (.pointer (some ⟨H, 0, none⟩)) rfl (by kernel_rfl) (by kernel_rfl) (by kernel_rfl) (fun _ _ _ _ h => h) (by rfl) rfl (fun wz hS => by go_simp) HS0.out ?_
    try simp only [List.set_cons_zero, List.set_cons_succ]
    refine take_val 1 (.pointer (some ⟨w.heap.size, 1, none⟩)) rfl (by kernel_rfl) (by kernel_rfl) (by kernel_rfl) (fun _ _ _ _ h => h) (by rfl) rfl (fun wz hS => by go_simp) HS0.out ?_
    try simp only [List.set_cons_zero, List.set_cons_succ]
    refine take_val 2 (.int .i64 x) rfl (by kernel_rfl) (by kernel_rfl) (by kernel_rfl) (fun _ _ _ _ h => h) (by rfl) rfl (fun wz hS => by have eb := cell_of_row wz w.heap.size 1 _ _ _ hS.2.1; simp only [List.getElem?_toArray, List.getElem?_cons_zero, List.getElem?_cons_succ] at eb; go_simp) HS0.out ?_
    try simp only [List.set_cons_zero, List.set_cons_succ]
    refine wpAnyH_obls (γ := Nat) [] (fun kx g w' => True) [65, 66, 67, 68, 69, 70, 71, 72, 73, 74, 75, 76, 77, 78, 79, 80, 81, 82, 83, 84, 85, 86, 87] (fun g => [.bool false, .bool true, .bool true, undef, undef, undef, .bool true, .bool true, undef, undef, undef, undef, undef, undef, undef, undef, undef, undef, undef, undef, undef, undef, .bool true]) [3, 4, 5, 6, 7, 8, 9, 10, 11, 12, 13, 14, 15, 16, 17, 18, 19, 20, 21, 22, 23, 24, 25] 0 (by kernel_rfl) (by kernel_rfl) (by kernel_rfl) (by kernel_rfl) (by kernel_rfl) (by kernel_rfl) (by decide +kernel) (fun _ _ _ _ h => h) HS0.out ?_ ?_
    · skip
      refine .call _ 65 (.bool false) _ _ rfl (by decide) rfl (fun g => by kernel_rfl) (fun g u hS => by simp only [setAll, List.zip_cons_cons, List.zip_nil_right, List.foldl_cons, List.foldl_nil, List.set_cons_zero, List.set_cons_succ]; go_simp) (fun g u hS => (HIL.out u hS.1).mono (fun e w' ⟨he, hb⟩ => ⟨he, ⟨hS.1.below hb, (hb.block _ (lt_of_block hS.2.1)).trans hS.2.1, hS.2.2.trans (hb.mono hS.1.size)⟩, fun _ _ _ => trivial⟩)) (fun g => by kernel_rfl) ?_
      refine .val _ 66 (fun g => .bool true) rfl (by decide) rfl (fun g => by kernel_rfl) (fun g u hS hB => by simp only [setAll, List.zip_cons_cons, List.zip_nil_right, List.foldl_cons, List.foldl_nil, List.set_cons_zero, List.set_cons_succ]; go_simp) (fun g => by kernel_rfl) ?_
      refine .val _ 67 (fun g => .bool true) rfl (by decide) rfl (fun g => by kernel_rfl) (fun g u hS hB => by simp only [setAll, List.zip_cons_cons, List.zip_nil_right, List.foldl_cons, List.foldl_nil, List.set_cons_zero, List.set_cons_succ]; go_simp) (fun g => by kernel_rfl) ?_
      refine .nt _ 68 rfl (by decide) rfl (fun g => by kernel_rfl) (fun g => by kernel_rfl) ?_
      refine .nt _ 69 rfl (by decide) rfl (fun g => by kernel_rfl) (fun g => by kernel_rfl) ?_
      refine .nt _ 70 rfl (by decide) rfl (fun g => by kernel_rfl) (fun g => by kernel_rfl) ?_
      refine .val _ 71 (fun g => .bool true) rfl (by decide) rfl (fun g => by kernel_rfl) (fun g u hS hB => by simp only [setAll, List.zip_cons_cons, List.zip_nil_right, List.foldl_cons, List.foldl_nil, List.set_cons_zero, List.set_cons_succ]; go_simp) (fun g => by kernel_rfl) ?_
      refine .val _ 72 (fun g => .bool true) rfl (by decide) rfl (fun g => by kernel_rfl) (fun g u hS hB => by simp only [setAll, List.zip_cons_cons, List.zip_nil_right, List.foldl_cons, List.foldl_nil, List.set_cons_zero, List.set_cons_succ]; go_simp) (fun g => by kernel_rfl) ?_
      refine .nt _ 73 rfl (by decide) rfl (fun g => by kernel_rfl) (fun g => by kernel_rfl) ?_
      refine .nt _ 74 rfl (by decide) rfl (fun g => by kernel_rfl) (fun g => by kernel_rfl) ?_
      refine .nt _ 75 rfl (by decide) rfl (fun g => by kernel_rfl) (fun g => by kernel_rfl) ?_
      refine .nt _ 76 rfl (by decide) rfl (fun g => by kernel_rfl) (fun g => by kernel_rfl) ?_
      refine .nt _ 77 rfl (by decide) rfl (fun g => by kernel_rfl) (fun g => by kernel_rfl) ?_
      refine .nt _ 78 rfl (by decide) rfl (fun g => by kernel_rfl) (fun g => by kernel_rfl) ?_
      refine .nt _ 79 rfl (by decide) rfl (fun g => by kernel_rfl) (fun g => by kernel_rfl) ?_
      refine .nt _ 80 rfl (by decide) rfl (fun g => by kernel_rfl) (fun g => by kernel_rfl) ?_
      refine .nt _ 81 rfl (by decide) rfl (fun g => by kernel_rfl) (fun g => by kernel_rfl) ?_
      refine .nt _ 82 rfl (by decide) rfl (fun g => by kernel_rfl) (fun g => by kernel_rfl) ?_
      refine .nt _ 83 rfl (by decide) rfl (fun g => by kernel_rfl) (fun g => by kernel_rfl) ?_
      refine .nt _ 84 rfl (by decide) rfl (fun g => by kernel_rfl) (fun g => by kernel_rfl) ?_
      refine .nt _ 85 rfl (by decide) rfl (fun g => by kernel_rfl) (fun g => by kernel_rfl) ?_
      refine .nt _ 86 rfl (by decide) rfl (fun g => by kernel_rfl) (fun g => by kernel_rfl) ?_
      refine .val _ 87 (fun g => .bool true) rfl (by decide) rfl (fun g => by kernel_rfl) (fun g u hS hB => by simp only [setAll, List.zip_cons_cons, List.zip_nil_right, List.foldl_cons, List.foldl_nil, List.set_cons_zero, List.set_cons_succ]; go_simp) (fun g => by kernel_rfl) ?_
      exact .nil
    · intro gk w3 hS3 hB3
      clear hB3
      refine NoPanic.normal ?_
      simp only [setAll, List.zip_cons_cons, List.zip_nil_right, List.foldl_cons, List.foldl_nil, List.set_cons_zero, List.set_cons_succ]
      have HB3 := Lib.hid hS3.2.2
      clear hS3
      go_wp2_with fail
      go_ret
      rw [HST.out, HR.out]
      exact ⟨HB3.out, 9, by decide, by decide, rfl⟩
  | true =>
    have hlx := HLX.out.1 (by first | rfl | trivial)
    obtain ⟨hx0, tx, htx, _⟩ := hlx.there hok
    obtain ⟨xn, rfl⟩ := Int.eq_ofNat_of_zero_le hx0
    rw [Int.toNat_natCast] at htx
    have hxl : xn < rows.length := by rw [← HLN.out]; exact (List.getElem?_eq_some_iff.1 htx).1
    have HTX : Hid ((tK rows)[xn]? = some rows[xn].2.2) := tK_get rows xn hxl
    have HKF := Lib.hid fun (u u' : World) (gg : Nat) (hu : OH base H (some ⟨gg, 0, none⟩) tc rows ra rc rs bz u) (ka : Option Addr) (kc : Nat) (l : List Int) hg hn => (OH.kid (w := u) (w' := u') (ka := ka) (kc := kc) (l := l) hu HD.out HP.out xn hxl hg hn)
    have HTQ0 := Lib.hid (fun ka kc l => tK_kid rows xn hxl ka kc l)
    have HRO := Lib.hid fun (u : World) (hu : OH base H ta tc rows ra rc rs bz u) => hu.2.2.2.2 rows[xn] (List.getElem_mem hxl)
    obtain ⟨tb, rfl, hgb, hgl, hgH, _⟩ := HO.out.thing xn hxl _ rfl
    have HTC : Hid (∀ u, OH base H (some ⟨tb, 0, none⟩) tc rows ra rc rs bz u → u.cell? ⟨tb, xn * 3, none⟩ = some (.slice rows[xn].1 rows[xn].2.2.1.length rows[xn].2.1)) := fun u hu => by
      obtain ⟨g', e, _, _, _, c0, _⟩ := hu.thing xn hxl _ rfl
      injection e with e
      injection e with e
      subst e
      exact c0
    have HTF : Hid (∀ u, OH base H (some ⟨tb, 0, none⟩) tc rows ra rc rs bz u → ∀ j, u.frozen? ⟨tb, j, none⟩ = false) := fun u hu => by
      obtain ⟨g', e, _, _, _, _, _, _, hf⟩ := hu.thing xn hxl _ rfl
      injection e with e
      injection e with e
      subst e
      exact hf
    have HGB := Lib.hid hgb
    have HGW : Hid (¬ w.heap.size = tb) := fun e => by
      subst e
      exact own_neq HO.out.2.2.1 HBX.out (by decide) rfl
    generalize rows[xn] = r at *
    obtain ⟨ka, kc, kids, rest⟩ := r
    simp only at HTX HKF HTQ0 HRO HTC
    have m0 : (0 : Int) ≤ (xn : Int) := Int.natCast_nonneg _
    have m1 : (xn : Int) < (rows.length : Int) := by omega
    clear htx hx0 hgb hgl
    by_cases hy0 : y < 0
    · have d0 : decide (y < 0) = true := decide_eq_true hy0
      have HR : Hid (cutF (tK rows, rs, bz) (xn : Int) y = none) := by show _ = _; unfold cutF; rw [if_pos hlx, Int.toNat_natCast]; simp only [HTX.out]; rw [if_neg (by omega)]
      clear hlx
      clear h hok hd hp
      go_enter Try.func41, Try.ntmps41
      go_wp2_with fail
      refine wp_region_noPanic ?_
      refine wp_region_held_drew (S := fun u => OH base H (some ⟨tb, 0, none⟩) tc rows ra rc rs bz u ∧ u.heap[w.heap.size]? = some (.cells #[.int .i64 4, .int .i64 (xn : Int), .int .i64 y] 43 (0, 0)) ∧ Below base w u) (by kernel_rfl) ⟨HO.out, HBX.out, HBB.out.drew⟩ (fun hS0 => ?_)
      have HS0 := Lib.hid hS0
      clear hS0
      refine take_val 0 (.pointer (some ⟨H, 0, none⟩)) rfl (by kernel_rfl) (by kernel_rfl) (by kernel_rfl) (fun _ _ _ _ h => h) (by rfl) rfl (fun wz hS => by go_simp) HS0.out ?_
      try simp only [List.set_cons_zero, List.set_cons_succ]
      refine take_val 1 (.pointer (some ⟨w.heap.size, 1, none⟩)) rfl (by kernel_rfl) (by kernel_rfl) (by kernel_rfl) (fun _ _ _ _ h => h) (by rfl) rfl (fun wz hS => by go_simp) HS0.out ?_
      try simp only [List.set_cons_zero, List.set_cons_succ]
      refine take_val 2 (.int .i64 (xn : Int)) rfl (by kernel_rfl) (by kernel_rfl) (by kernel_rfl) (fun _ _ _ _ h => h) (by rfl) rfl (fun wz hS => by have eb := cell_of_row wz w.heap.size 1 _ _ _ hS.2.1; simp only [List.getElem?_toArray, List.getElem?_cons_zero, List.getElem?_cons_succ] at eb; go_simp) HS0.out ?_
      try simp only [List.set_cons_zero, List.set_cons_succ]
      refine wpAnyH_obls (γ := Nat) [] (fun kx g w' => True) [65, 66, 67, 68, 69, 70, 71, 72, 73, 74, 75, 76, 77, 78, 79, 80, 81, 82, 83, 84, 85, 86, 87] (fun g => [.bool true, .bool false, .bool false, .pointer (some ⟨w.heap.size, 2, none⟩), .int .i64 y, .bool true, .bool true, .bool true, undef, undef, undef, undef, undef, undef, undef, undef, undef, undef, undef, undef, undef, undef, .bool true]) [3, 4, 5, 6, 7, 8, 9, 10, 11, 12, 13, 14, 15, 16, 17, 18, 19, 20, 21, 22, 23, 24, 25] 0 (by kernel_rfl) (by kernel_rfl) (by kernel_rfl) (by kernel_rfl) (by kernel_rfl) (by kernel_rfl) (by decide +kernel) (fun _ _ _ _ h => h) HS0.out ?_ ?_
      · skip
        refine .call _ 65 (.bool true) _ _ rfl (by decide) rfl (fun g => by kernel_rfl) (fun g u hS => by simp only [setAll, List.zip_cons_cons, List.zip_nil_right, List.foldl_cons, List.foldl_nil, List.set_cons_zero, List.set_cons_succ]; go_simp) (fun g u hS => (HIL.out u hS.1).mono (fun e w' ⟨he, hb⟩ => ⟨he, ⟨hS.1.below hb, (hb.block _ (lt_of_block hS.2.1)).trans hS.2.1, hS.2.2.trans (hb.mono hS.1.size)⟩, fun _ _ _ => trivial⟩)) (fun g => by kernel_rfl) ?_
        refine .val _ 66 (fun g => .bool false) rfl (by decide) rfl (fun g => by kernel_rfl) (fun g u hS hB => by simp only [setAll, List.zip_cons_cons, List.zip_nil_right, List.foldl_cons, List.foldl_nil, List.set_cons_zero, List.set_cons_succ]; go_simp) (fun g => by kernel_rfl) ?_
        refine .val _ 67 (fun g => .bool false) rfl (by decide) rfl (fun g => by kernel_rfl) (fun g u hS hB => by simp only [setAll, List.zip_cons_cons, List.zip_nil_right, List.foldl_cons, List.foldl_nil, List.set_cons_zero, List.set_cons_succ]; go_simp) (fun g => by kernel_rfl) ?_
        refine .val _ 68 (fun g => .pointer (some ⟨w.heap.size, 2, none⟩)) rfl (by decide) rfl (fun g => by kernel_rfl) (fun g u hS hB => by simp only [setAll, List.zip_cons_cons, List.zip_nil_right, List.foldl_cons, List.foldl_nil, List.set_cons_zero, List.set_cons_succ]; go_simp) (fun g => by kernel_rfl) ?_
        refine .val _ 69 (fun g => .int .i64 y) rfl (by decide) rfl (fun g => by kernel_rfl) (fun g u hS hB => by simp only [setAll, List.zip_cons_cons, List.zip_nil_right, List.foldl_cons, List.foldl_nil, List.set_cons_zero, List.set_cons_succ]; have eb := cell_of_row u w.heap.size 2 _ _ _ hS.2.1; simp only [List.getElem?_toArray, List.getElem?_cons_zero, List.getElem?_cons_succ] at eb; go_simp) (fun g => by kernel_rfl) ?_
        refine .val _ 70 (fun g => .bool true) rfl (by decide) rfl (fun g => by kernel_rfl) (fun g u hS hB => by simp only [setAll, List.zip_cons_cons, List.zip_nil_right, List.foldl_cons, List.foldl_nil, List.set_cons_zero, List.set_cons_succ]; go_simp) (fun g => by kernel_rfl) ?_
        refine .val _ 71 (fun g => .bool true) rfl (by decide) rfl (fun g => by kernel_rfl) (fun g u hS hB => by simp only [setAll, List.zip_cons_cons, List.zip_nil_right, List.foldl_cons, List.foldl_nil, List.set_cons_zero, List.set_cons_succ]; go_simp) (fun g => by kernel_rfl) ?_
        refine .val _ 72 (fun g => .bool true) rfl (by decide) rfl (fun g => by kernel_rfl) (fun g u hS hB => by simp only [setAll, List.zip_cons_cons, List.zip_nil_right, List.foldl_cons, List.foldl_nil, List.set_cons_zero, List.set_cons_succ]; go_simp) (fun g => by kernel_rfl) ?_
        refine .nt _ 73 rfl (by decide) rfl (fun g => by kernel_rfl) (fun g => by kernel_rfl) ?_
        refine .nt _ 74 rfl (by decide) rfl (fun g => by kernel_rfl) (fun g => by kernel_rfl) ?_
        refine .nt _ 75 rfl (by decide) rfl (fun g => by kernel_rfl) (fun g => by kernel_rfl) ?_
        refine .nt _ 76 rfl (by decide) rfl (fun g => by kernel_rfl) (fun g => by kernel_rfl) ?_
        refine .nt _ 77 rfl (by decide) rfl (fun g => by kernel_rfl) (fun g => by kernel_rfl) ?_
        refine .nt _ 78 rfl (by decide) rfl (fun g => by kernel_rfl) (fun g => by kernel_rfl) ?_
        refine .nt _ 79 rfl (by decide) rfl (fun g => by kernel_rfl) (fun g => by kernel_rfl) ?_
        refine .nt _ 80 rfl (by decide) rfl (fun g => by kernel_rfl) (fun g => by kernel_rfl) ?_
        refine .nt _ 81 rfl (by decide) rfl (fun g => by kernel_rfl) (fun g => by kernel_rfl) ?_
        refine .nt _ 82 rfl (by decide) rfl (fun g => by kernel_rfl) (fun g => by kernel_rfl) ?_
        refine .nt _ 83 rfl (by decide) rfl (fun g => by kernel_rfl) (fun g => by kernel_rfl) ?_
        refine .nt _ 84 rfl (by decide) rfl (fun g => by kernel_rfl) (fun g => by kernel_rfl) ?_
        refine .nt _ 85 rfl (by decide) rfl (fun g => by kernel_rfl) (fun g => by kernel_rfl) ?_
        refine .nt _ 86 rfl (by decide) rfl (fun g => by kernel_rfl) (fun g => by kernel_rfl) ?_
        refine .val _ 87 (fun g => .bool true) rfl (by decide) rfl (fun g => by kernel_rfl) (fun g u hS hB => by simp only [setAll, List.zip_cons_cons, List.zip_nil_right, List.foldl_cons, List.foldl_nil, List.set_cons_zero, List.set_cons_succ]; go_simp) (fun g => by kernel_rfl) ?_
        exact .nil
      · intro gk w3 hS3 hB3
        clear hB3
        refine NoPanic.normal ?_
        simp only [setAll, List.zip_cons_cons, List.zip_nil_right, List.foldl_cons, List.foldl_nil, List.set_cons_zero, List.set_cons_succ]
        have HB3 := Lib.hid hS3.2.2
        clear hS3
        go_wp2_with fail
        go_ret
        rw [HST.out, HR.out]
        exact ⟨HB3.out, 9, by decide, by decide, rfl⟩
    · obtain ⟨yn, rfl⟩ := Int.eq_ofNat_of_zero_le (show 0 ≤ y by omega)
      have d0 : decide ((yn : Int) < 0) = false := decide_eq_false hy0
      by_cases hyl : kids.length ≤ yn
      · have d1 : decide ((yn : Int) ≥ (kids.length : Int)) = true := decide_eq_true (by omega)
        have HR : Hid (cutF (tK rows, rs, bz) (xn : Int) (yn : Int) = none) := by show _ = _; unfold cutF; rw [if_pos hlx, Int.toNat_natCast]; simp only [HTX.out]; rw [if_neg (fun h => by have := h.2; rw [Int.toNat_natCast] at this; omega)]
        clear hlx
        clear h hok hd hp
        go_enter Try.func41, Try.ntmps41
        go_wp2_with fail
        refine wp_region_noPanic ?_
        refine wp_region_held_drew (S := fun u => OH base H (some ⟨tb, 0, none⟩) tc rows ra rc rs bz u ∧ u.heap[w.heap.size]? = some (.cells #[.int .i64 4, .int .i64 (xn : Int), .int .i64 (yn : Int)] 43 (0, 0)) ∧ Below base w u) (by kernel_rfl) ⟨HO.out, HBX.out, HBB.out.drew⟩ (fun hS0 => ?_)
        have HS0 := Lib.hid hS0
        clear hS0
        refine take_val 0 (.pointer (some ⟨H, 0, none⟩)) rfl (by kernel_rfl) (by kernel_rfl) (by kernel_rfl) (fun _ _ _ _ h => h) (by rfl) rfl (fun wz hS => by go_simp) HS0.out ?_
        try simp only [List.set_cons_zero, List.set_cons_succ]
        refine take_val 1 (.pointer (some ⟨w.heap.size, 1, none⟩)) rfl (by kernel_rfl) (by kernel_rfl) (by kernel_rfl) (fun _ _ _ _ h => h) (by rfl) rfl (fun wz hS => by go_simp) HS0.out ?_
        try simp only [List.set_cons_zero, List.set_cons_succ]
        refine take_val 2 (.int .i64 (xn : Int)) rfl (by kernel_rfl) (by kernel_rfl) (by kernel_rfl) (fun _ _ _ _ h => h) (by rfl) rfl (fun wz hS => by have eb := cell_of_row wz w.heap.size 1 _ _ _ hS.2.1; simp only [List.getElem?_toArray, List.getElem?_cons_zero, List.getElem?_cons_succ] at eb; go_simp) HS0.out ?_
        try simp only [List.set_cons_zero, List.set_cons_succ]
        refine wpAnyH_obls (γ := Nat) [] (fun kx g w' => True) [65, 66, 67, 68, 69, 70, 71, 72, 73, 74, 75, 76, 77, 78, 79, 80, 81, 82, 83, 84, 85, 86, 87] (fun g => [.bool true, .bool false, .bool false, .pointer (some ⟨w.heap.size, 2, none⟩), .int .i64 (yn : Int), .bool false, .bool false, .bool false, .pointer (some ⟨w.heap.size, 2, none⟩), .int .i64 (yn : Int), .pointer (some ⟨H, 0, none⟩), .pointer (some ⟨H, 0, none⟩), .pointer (some ⟨H, 0, none⟩), .pointer (some ⟨H, 0, none⟩), .slice (some ⟨tb, 0, none⟩) rows.length tc, .pointer (some ⟨w.heap.size, 1, none⟩), .int .i64 (xn : Int), .pointer (some ⟨tb, xn * 3, none⟩), .pointer (some ⟨tb, xn * 3, none⟩), .slice ka kids.length kc, .int .i64 (kids.length : Int), .bool true, .bool true]) [3, 4, 5, 6, 7, 8, 9, 10, 11, 12, 13, 14, 15, 16, 17, 18, 19, 20, 21, 22, 23, 24, 25] 0 (by kernel_rfl) (by kernel_rfl) (by kernel_rfl) (by kernel_rfl) (by kernel_rfl) (by kernel_rfl) (by decide +kernel) (fun _ _ _ _ h => h) HS0.out ?_ ?_
        · skip
          refine .call _ 65 (.bool true) _ _ rfl (by decide) rfl (fun g => by kernel_rfl) (fun g u hS => by simp only [setAll, List.zip_cons_cons, List.zip_nil_right, List.foldl_cons, List.foldl_nil, List.set_cons_zero, List.set_cons_succ]; go_simp) (fun g u hS => (HIL.out u hS.1).mono (fun e w' ⟨he, hb⟩ => ⟨he, ⟨hS.1.below hb, (hb.block _ (lt_of_block hS.2.1)).trans hS.2.1, hS.2.2.trans (hb.mono hS.1.size)⟩, fun _ _ _ => trivial⟩)) (fun g => by kernel_rfl) ?_
          refine .val _ 66 (fun g => .bool false) rfl (by decide) rfl (fun g => by kernel_rfl) (fun g u hS hB => by simp only [setAll, List.zip_cons_cons, List.zip_nil_right, List.foldl_cons, List.foldl_nil, List.set_cons_zero, List.set_cons_succ]; go_simp) (fun g => by kernel_rfl) ?_
          refine .val _ 67 (fun g => .bool false) rfl (by decide) rfl (fun g => by kernel_rfl) (fun g u hS hB => by simp only [setAll, List.zip_cons_cons, List.zip_nil_right, List.foldl_cons, List.foldl_nil, List.set_cons_zero, List.set_cons_succ]; go_simp) (fun g => by kernel_rfl) ?_
          refine .val _ 68 (fun g => .pointer (some ⟨w.heap.size, 2, none⟩)) rfl (by decide) rfl (fun g => by kernel_rfl) (fun g u hS hB => by simp only [setAll, List.zip_cons_cons, List.zip_nil_right, List.foldl_cons, List.foldl_nil, List.set_cons_zero, List.set_cons_succ]; go_simp) (fun g => by kernel_rfl) ?_
          refine .val _ 69 (fun g => .int .i64 (yn : Int)) rfl (by decide) rfl (fun g => by kernel_rfl) (fun g u hS hB => by simp only [setAll, List.zip_cons_cons, List.zip_nil_right, List.foldl_cons, List.foldl_nil, List.set_cons_zero, List.set_cons_succ]; have eb := cell_of_row u w.heap.size 2 _ _ _ hS.2.1; simp only [List.getElem?_toArray, List.getElem?_cons_zero, List.getElem?_cons_succ] at eb; go_simp) (fun g => by kernel_rfl) ?_
          refine .val _ 70 (fun g => .bool false) rfl (by decide) rfl (fun g => by kernel_rfl) (fun g u hS hB => by simp only [setAll, List.zip_cons_cons, List.zip_nil_right, List.foldl_cons, List.foldl_nil, List.set_cons_zero, List.set_cons_succ]; go_simp) (fun g => by kernel_rfl) ?_
          refine .val _ 71 (fun g => .bool false) rfl (by decide) rfl (fun g => by kernel_rfl) (fun g u hS hB => by simp only [setAll, List.zip_cons_cons, List.zip_nil_right, List.foldl_cons, List.foldl_nil, List.set_cons_zero, List.set_cons_succ]; go_simp) (fun g => by kernel_rfl) ?_
          refine .val _ 72 (fun g => .bool false) rfl (by decide) rfl (fun g => by kernel_rfl) (fun g u hS hB => by simp only [setAll, List.zip_cons_cons, List.zip_nil_right, List.foldl_cons, List.foldl_nil, List.set_cons_zero, List.set_cons_succ]; go_simp) (fun g => by kernel_rfl) ?_
          refine .val _ 73 (fun g => .pointer (some ⟨w.heap.size, 2, none⟩)) rfl (by decide) rfl (fun g => by kernel_rfl) (fun g u hS hB => by simp only [setAll, List.zip_cons_cons, List.zip_nil_right, List.foldl_cons, List.foldl_nil, List.set_cons_zero, List.set_cons_succ]; go_simp) (fun g => by kernel_rfl) ?_
          refine .val _ 74 (fun g => .int .i64 (yn : Int)) rfl (by decide) rfl (fun g => by kernel_rfl) (fun g u hS hB => by simp only [setAll, List.zip_cons_cons, List.zip_nil_right, List.foldl_cons, List.foldl_nil, List.set_cons_zero, List.set_cons_succ]; have eb := cell_of_row u w.heap.size 2 _ _ _ hS.2.1; simp only [List.getElem?_toArray, List.getElem?_cons_zero, List.getElem?_cons_succ] at eb; go_simp) (fun g => by kernel_rfl) ?_
          refine .val _ 75 (fun g => .pointer (some ⟨H, 0, none⟩)) rfl (by decide) rfl (fun g => by kernel_rfl) (fun g u hS hB => by simp only [setAll, List.zip_cons_cons, List.zip_nil_right, List.foldl_cons, List.foldl_nil, List.set_cons_zero, List.set_cons_succ]; go_simp) (fun g => by kernel_rfl) ?_
          refine .val _ 76 (fun g => .pointer (some ⟨H, 0, none⟩)) rfl (by decide) rfl (fun g => by kernel_rfl) (fun g u hS hB => by simp only [setAll, List.zip_cons_cons, List.zip_nil_right, List.foldl_cons, List.foldl_nil, List.set_cons_zero, List.set_cons_succ]; go_simp) (fun g => by kernel_rfl) ?_
          refine .val _ 77 (fun g => .pointer (some ⟨H, 0, none⟩)) rfl (by decide) rfl (fun g => by kernel_rfl) (fun g u hS hB => by simp only [setAll, List.zip_cons_cons, List.zip_nil_right, List.foldl_cons, List.foldl_nil, List.set_cons_zero, List.set_cons_succ]; go_simp) (fun g => by kernel_rfl) ?_
          refine .val _ 78 (fun g => .pointer (some ⟨H, 0, none⟩)) rfl (by decide) rfl (fun g => by kernel_rfl) (fun g u hS hB => by simp only [setAll, List.zip_cons_cons, List.zip_nil_right, List.foldl_cons, List.foldl_nil, List.set_cons_zero, List.set_cons_succ]; go_simp) (fun g => by kernel_rfl) ?_
          refine .val _ 79 (fun g => .slice (some ⟨tb, 0, none⟩) rows.length tc) rfl (by decide) rfl (fun g => by kernel_rfl) (fun g u hS hB => by simp only [setAll, List.zip_cons_cons, List.zip_nil_right, List.foldl_cons, List.foldl_nil, List.set_cons_zero, List.set_cons_succ]; have eb := hS.1.h0; go_simp) (fun g => by kernel_rfl) ?_
          refine .val _ 80 (fun g => .pointer (some ⟨w.heap.size, 1, none⟩)) rfl (by decide) rfl (fun g => by kernel_rfl) (fun g u hS hB => by simp only [setAll, List.zip_cons_cons, List.zip_nil_right, List.foldl_cons, List.foldl_nil, List.set_cons_zero, List.set_cons_succ]; go_simp) (fun g => by kernel_rfl) ?_
          refine .val _ 81 (fun g => .int .i64 (xn : Int)) rfl (by decide) rfl (fun g => by kernel_rfl) (fun g u hS hB => by simp only [setAll, List.zip_cons_cons, List.zip_nil_right, List.foldl_cons, List.foldl_nil, List.set_cons_zero, List.set_cons_succ]; have eb := cell_of_row u w.heap.size 1 _ _ _ hS.2.1; simp only [List.getElem?_toArray, List.getElem?_cons_zero, List.getElem?_cons_succ] at eb; go_simp) (fun g => by kernel_rfl) ?_
          refine .val _ 82 (fun g => .pointer (some ⟨tb, xn * 3, none⟩)) rfl (by decide) rfl (fun g => by kernel_rfl) (fun g u hS hB => by simp only [setAll, List.zip_cons_cons, List.zip_nil_right, List.foldl_cons, List.foldl_nil, List.set_cons_zero, List.set_cons_succ]; go_simp) (fun g => by kernel_rfl) ?_
          refine .val _ 83 (fun g => .pointer (some ⟨tb, xn * 3, none⟩)) rfl (by decide) rfl (fun g => by kernel_rfl) (fun g u hS hB => by simp only [setAll, List.zip_cons_cons, List.zip_nil_right, List.foldl_cons, List.foldl_nil, List.set_cons_zero, List.set_cons_succ]; go_simp) (fun g => by kernel_rfl) ?_
          refine .val _ 84 (fun g => .slice ka kids.length kc) rfl (by decide) rfl (fun g => by kernel_rfl) (fun g u hS hB => by simp only [setAll, List.zip_cons_cons, List.zip_nil_right, List.foldl_cons, List.foldl_nil, List.set_cons_zero, List.set_cons_succ]; have eb := HTC.out u hS.1; go_simp) (fun g => by kernel_rfl) ?_
          refine .val _ 85 (fun g => .int .i64 (kids.length : Int)) rfl (by decide) rfl (fun g => by kernel_rfl) (fun g u hS hB => by simp only [setAll, List.zip_cons_cons, List.zip_nil_right, List.foldl_cons, List.foldl_nil, List.set_cons_zero, List.set_cons_succ]; go_simp) (fun g => by kernel_rfl) ?_
          refine .val _ 86 (fun g => .bool true) rfl (by decide) rfl (fun g => by kernel_rfl) (fun g u hS hB => by simp only [setAll, List.zip_cons_cons, List.zip_nil_right, List.foldl_cons, List.foldl_nil, List.set_cons_zero, List.set_cons_succ]; go_simp) (fun g => by kernel_rfl) ?_
          refine .val _ 87 (fun g => .bool true) rfl (by decide) rfl (fun g => by kernel_rfl) (fun g u hS hB => by simp only [setAll, List.zip_cons_cons, List.zip_nil_right, List.foldl_cons, List.foldl_nil, List.set_cons_zero, List.set_cons_succ]; go_simp) (fun g => by kernel_rfl) ?_
          exact .nil
        · intro gk w3 hS3 hB3
          clear hB3
          refine NoPanic.normal ?_
          simp only [setAll, List.zip_cons_cons, List.zip_nil_right, List.foldl_cons, List.foldl_nil, List.set_cons_zero, List.set_cons_succ]
          have HB3 := Lib.hid hS3.2.2
          clear hS3
          go_wp2_with fail
          go_ret
          rw [HST.out, HR.out]
          exact ⟨HB3.out, 9, by decide, by decide, rfl⟩
      · have d1 : decide ((yn : Int) ≥ (kids.length : Int)) = false := decide_eq_false (by omega)
        have HR : Hid (cutF (tK rows, rs, bz) (xn : Int) (yn : Int) = some ((tK rows).set xn (kids.eraseIdx yn, rest), rs, bz)) := by show _ = _; unfold cutF; rw [if_pos hlx, Int.toNat_natCast]; simp only [HTX.out]; rw [if_pos ⟨by omega, by rw [Int.toNat_natCast]; omega⟩]; rfl
        have HKL : Hid (kids.length ≤ 9223372036854775806) := by have := (HOK.out.thing HTX.out).1; simp only at this; show _ ≤ _; omega
        have hkl := HKL.out
        have ey : IntKind.i64.wrap ((yn : Int) + 1) = (yn : Int) + 1 := wraps_i64 _ (by omega) (by omega)
        obtain ⟨gk, rfl⟩ := own_is (HRO.out _ HO.out) (by omega)
        clear hlx
        clear h hok hd hp
        go_enter Try.func41, Try.ntmps41
        go_wp2_with fail
        refine wp_region_noPanic ?_
        refine wp_region_held_drew (S := fun u => OH base H (some ⟨tb, 0, none⟩) tc rows ra rc rs bz u ∧ u.heap[w.heap.size]? = some (.cells #[.int .i64 4, .int .i64 (xn : Int), .int .i64 (yn : Int)] 43 (0, 0)) ∧ Below base w u) (by kernel_rfl) ⟨HO.out, HBX.out, HBB.out.drew⟩ (fun hS0 => ?_)
        have HS0 := Lib.hid hS0
        clear hS0
        refine take_val 0 (.pointer (some ⟨H, 0, none⟩)) rfl (by kernel_rfl) (by kernel_rfl) (by kernel_rfl) (fun _ _ _ _ h => h) (by rfl) rfl (fun wz hS => by go_simp) HS0.out ?_
        try simp only [List.set_cons_zero, List.set_cons_succ]
        refine take_val 1 (.pointer (some ⟨w.heap.size, 1, none⟩)) rfl (by kernel_rfl) (by kernel_rfl) (by kernel_rfl) (fun _ _ _ _ h => h) (by rfl) rfl (fun wz hS => by go_simp) HS0.out ?_
        try simp only [List.set_cons_zero, List.set_cons_succ]
        refine take_val 2 (.int .i64 (xn : Int)) rfl (by kernel_rfl) (by kernel_rfl) (by kernel_rfl) (fun _ _ _ _ h => h) (by rfl) rfl (fun wz hS => by have eb := cell_of_row wz w.heap.size 1 _ _ _ hS.2.1; simp only [List.getElem?_toArray, List.getElem?_cons_zero, List.getElem?_cons_succ] at eb; go_simp) HS0.out ?_
        try simp only [List.set_cons_zero, List.set_cons_succ]
        refine wpAnyH_obls (γ := Nat) [] (fun kx g w' => True) [65, 66, 67, 68, 69, 70, 71, 72, 73, 74, 75, 76, 77, 78, 79, 80, 81, 82, 83, 84, 85, 86, 87] (fun g => [.bool true, .bool false, .bool false, .pointer (some ⟨w.heap.size, 2, none⟩), .int .i64 (yn : Int), .bool false, .bool false, .bool false, .pointer (some ⟨w.heap.size, 2, none⟩), .int .i64 (yn : Int), .pointer (some ⟨H, 0, none⟩), .pointer (some ⟨H, 0, none⟩), .pointer (some ⟨H, 0, none⟩), .pointer (some ⟨H, 0, none⟩), .slice (some ⟨tb, 0, none⟩) rows.length tc, .pointer (some ⟨w.heap.size, 1, none⟩), .int .i64 (xn : Int), .pointer (some ⟨tb, xn * 3, none⟩), .pointer (some ⟨tb, xn * 3, none⟩), .slice (some ⟨gk, 0, none⟩) kids.length kc, .int .i64 (kids.length : Int), .bool false, .bool false]) [3, 4, 5, 6, 7, 8, 9, 10, 11, 12, 13, 14, 15, 16, 17, 18, 19, 20, 21, 22, 23, 24, 25] 0 (by kernel_rfl) (by kernel_rfl) (by kernel_rfl) (by kernel_rfl) (by kernel_rfl) (by kernel_rfl) (by decide +kernel) (fun _ _ _ _ h => h) HS0.out ?_ ?_
        · skip
          refine .call _ 65 (.bool true) _ _ rfl (by decide) rfl (fun g => by kernel_rfl) (fun g u hS => by simp only [setAll, List.zip_cons_cons, List.zip_nil_right, List.foldl_cons, List.foldl_nil, List.set_cons_zero, List.set_cons_succ]; go_simp) (fun g u hS => (HIL.out u hS.1).mono (fun e w' ⟨he, hb⟩ => ⟨he, ⟨hS.1.below hb, (hb.block _ (lt_of_block hS.2.1)).trans hS.2.1, hS.2.2.trans (hb.mono hS.1.size)⟩, fun _ _ _ => trivial⟩)) (fun g => by kernel_rfl) ?_
          refine .val _ 66 (fun g => .bool false) rfl (by decide) rfl (fun g => by kernel_rfl) (fun g u hS hB => by simp only [setAll, List.zip_cons_cons, List.zip_nil_right, List.foldl_cons, List.foldl_nil, List.set_cons_zero, List.set_cons_succ]; go_simp) (fun g => by kernel_rfl) ?_
          refine .val _ 67 (fun g => .bool false) rfl (by decide) rfl (fun g => by kernel_rfl) (fun g u hS hB => by simp only [setAll, List.zip_cons_cons, List.zip_nil_right, List.foldl_cons, List.foldl_nil, List.set_cons_zero, List.set_cons_succ]; go_simp) (fun g => by kernel_rfl) ?_
          refine .val _ 68 (fun g => .pointer (some ⟨w.heap.size, 2, none⟩)) rfl (by decide) rfl (fun g => by kernel_rfl) (fun g u hS hB => by simp only [setAll, List.zip_cons_cons, List.zip_nil_right, List.foldl_cons, List.foldl_nil, List.set_cons_zero, List.set_cons_succ]; go_simp) (fun g => by kernel_rfl) ?_
          refine .val _ 69 (fun g => .int .i64 (yn : Int)) rfl (by decide) rfl (fun g => by kernel_rfl) (fun g u hS hB => by simp only [setAll, List.zip_cons_cons, List.zip_nil_right, List.foldl_cons, List.foldl_nil, List.set_cons_zero, List.set_cons_succ]; have eb := cell_of_row u w.heap.size 2 _ _ _ hS.2.1; simp only [List.getElem?_toArray, List.getElem?_cons_zero, List.getElem?_cons_succ] at eb; go_simp) (fun g => by kernel_rfl) ?_
          refine .val _ 70 (fun g => .bool false) rfl (by decide) rfl (fun g => by kernel_rfl) (fun g u hS hB => by simp only [setAll, List.zip_cons_cons, List.zip_nil_right, List.foldl_cons, List.foldl_nil, List.set_cons_zero, List.set_cons_succ]; go_simp) (fun g => by kernel_rfl) ?_
          refine .val _ 71 (fun g => .bool false) rfl (by decide) rfl (fun g => by kernel_rfl) (fun g u hS hB => by simp only [setAll, List.zip_cons_cons, List.zip_nil_right, List.foldl_cons, List.foldl_nil, List.set_cons_zero, List.set_cons_succ]; go_simp) (fun g => by kernel_rfl) ?_
          refine .val _ 72 (fun g => .bool false) rfl (by decide) rfl (fun g => by kernel_rfl) (fun g u hS hB => by simp only [setAll, List.zip_cons_cons, List.zip_nil_right, List.foldl_cons, List.foldl_nil, List.set_cons_zero, List.set_cons_succ]; go_simp) (fun g => by kernel_rfl) ?_
          refine .val _ 73 (fun g => .pointer (some ⟨w.heap.size, 2, none⟩)) rfl (by decide) rfl (fun g => by kernel_rfl) (fun g u hS hB => by simp only [setAll, List.zip_cons_cons, List.zip_nil_right, List.foldl_cons, List.foldl_nil, List.set_cons_zero, List.set_cons_succ]; go_simp) (fun g => by kernel_rfl) ?_
          refine .val _ 74 (fun g => .int .i64 (yn : Int)) rfl (by decide) rfl (fun g => by kernel_rfl) (fun g u hS hB => by simp only [setAll, List.zip_cons_cons, List.zip_nil_right, List.foldl_cons, List.foldl_nil, List.set_cons_zero, List.set_cons_succ]; have eb := cell_of_row u w.heap.size 2 _ _ _ hS.2.1; simp only [List.getElem?_toArray, List.getElem?_cons_zero, List.getElem?_cons_succ] at eb; go_simp) (fun g => by kernel_rfl) ?_
          refine .val _ 75 (fun g => .pointer (some ⟨H, 0, none⟩)) rfl (by decide) rfl (fun g => by kernel_rfl) (fun g u hS hB => by simp only [setAll, List.zip_cons_cons, List.zip_nil_right, List.foldl_cons, List.foldl_nil, List.set_cons_zero, List.set_cons_succ]; go_simp) (fun g => by kernel_rfl) ?_
          refine .val _ 76 (fun g => .pointer (some ⟨H, 0, none⟩)) rfl (by decide) rfl (fun g => by kernel_rfl) (fun g u hS hB => by simp only [setAll, List.zip_cons_cons, List.zip_nil_right, List.foldl_cons, List.foldl_nil, List.set_cons_zero, List.set_cons_succ]; go_simp) (fun g => by kernel_rfl) ?_
          refine .val _ 77 (fun g => .pointer (some ⟨H, 0, none⟩)) rfl (by decide) rfl (fun g => by kernel_rfl) (fun g u hS hB => by simp only [setAll, List.zip_cons_cons, List.zip_nil_right, List.foldl_cons, List.foldl_nil, List.set_cons_zero, List.set_cons_succ]; go_simp) (fun g => by kernel_rfl) ?_
          refine .val _ 78 (fun g => .pointer (some ⟨H, 0, none⟩)) rfl (by decide) rfl (fun g => by kernel_rfl) (fun g u hS hB => by simp only [setAll, List.zip_cons_cons, List.zip_nil_right, List.foldl_cons, List.foldl_nil, List.set_cons_zero, List.set_cons_succ]; go_simp) (fun g => by kernel_rfl) ?_
          refine .val _ 79 (fun g => .slice (some ⟨tb, 0, none⟩) rows.length tc) rfl (by decide) rfl (fun g => by kernel_rfl) (fun g u hS hB => by simp only [setAll, List.zip_cons_cons, List.zip_nil_right, List.foldl_cons, List.foldl_nil, List.set_cons_zero, List.set_cons_succ]; have eb := hS.1.h0; go_simp) (fun g => by kernel_rfl) ?_
          refine .val _ 80 (fun g => .pointer (some ⟨w.heap.size, 1, none⟩)) rfl (by decide) rfl (fun g => by kernel_rfl) (fun g u hS hB => by simp only [setAll, List.zip_cons_cons, List.zip_nil_right, List.foldl_cons, List.foldl_nil, List.set_cons_zero, List.set_cons_succ]; go_simp) (fun g => by kernel_rfl) ?_
          refine .val _ 81 (fun g => .int .i64 (xn : Int)) rfl (by decide) rfl (fun g => by kernel_rfl) (fun g u hS hB => by simp only [setAll, List.zip_cons_cons, List.zip_nil_right, List.foldl_cons, List.foldl_nil, List.set_cons_zero, List.set_cons_succ]; have eb := cell_of_row u w.heap.size 1 _ _ _ hS.2.1; simp only [List.getElem?_toArray, List.getElem?_cons_zero, List.getElem?_cons_succ] at eb; go_simp) (fun g => by kernel_rfl) ?_
          refine .val _ 82 (fun g => .pointer (some ⟨tb, xn * 3, none⟩)) rfl (by decide) rfl (fun g => by kernel_rfl) (fun g u hS hB => by simp only [setAll, List.zip_cons_cons, List.zip_nil_right, List.foldl_cons, List.foldl_nil, List.set_cons_zero, List.set_cons_succ]; go_simp) (fun g => by kernel_rfl) ?_
          refine .val _ 83 (fun g => .pointer (some ⟨tb, xn * 3, none⟩)) rfl (by decide) rfl (fun g => by kernel_rfl) (fun g u hS hB => by simp only [setAll, List.zip_cons_cons, List.zip_nil_right, List.foldl_cons, List.foldl_nil, List.set_cons_zero, List.set_cons_succ]; go_simp) (fun g => by kernel_rfl) ?_
          refine .val _ 84 (fun g => .slice (some ⟨gk, 0, none⟩) kids.length kc) rfl (by decide) rfl (fun g => by kernel_rfl) (fun g u hS hB => by simp only [setAll, List.zip_cons_cons, List.zip_nil_right, List.foldl_cons, List.foldl_nil, List.set_cons_zero, List.set_cons_succ]; have eb := HTC.out u hS.1; go_simp) (fun g => by kernel_rfl) ?_
          refine .val _ 85 (fun g => .int .i64 (kids.length : Int)) rfl (by decide) rfl (fun g => by kernel_rfl) (fun g u hS hB => by simp only [setAll, List.zip_cons_cons, List.zip_nil_right, List.foldl_cons, List.foldl_nil, List.set_cons_zero, List.set_cons_succ]; go_simp) (fun g => by kernel_rfl) ?_
          refine .val _ 86 (fun g => .bool false) rfl (by decide) rfl (fun g => by kernel_rfl) (fun g u hS hB => by simp only [setAll, List.zip_cons_cons, List.zip_nil_right, List.foldl_cons, List.foldl_nil, List.set_cons_zero, List.set_cons_succ]; go_simp) (fun g => by kernel_rfl) ?_
          refine .val _ 87 (fun g => .bool false) rfl (by decide) rfl (fun g => by kernel_rfl) (fun g u hS hB => by simp only [setAll, List.zip_cons_cons, List.zip_nil_right, List.foldl_cons, List.foldl_nil, List.set_cons_zero, List.set_cons_succ]; go_simp) (fun g => by kernel_rfl) ?_
          exact .nil
        · intro gz w3 hS3 hB3
          clear hB3
          refine NoPanic.normal ?_
          simp only [setAll, List.zip_cons_cons, List.zip_nil_right, List.foldl_cons, List.foldl_nil, List.set_cons_zero, List.set_cons_succ]
          have HO3 := Lib.hid hS3.1
          have HX3 := Lib.hid hS3.2.1
          have HB3 := Lib.hid hS3.2.2
          clear hS3
          have h0 := HO3.out.h0
          have e0 := cell_of_row w3 w.heap.size 0 _ _ _ HX3.out
          have e1 := cell_of_row w3 w.heap.size 1 _ _ _ HX3.out
          have e2 := cell_of_row w3 w.heap.size 2 _ _ _ HX3.out
          simp only [List.getElem?_toArray, List.getElem?_cons_zero, List.getElem?_cons_succ] at e0 e1 e2
          go_wp2_with fail
          go_region
          go_wp2_with fail
          have HOd : Hid (OH base H (some ⟨tb, 0, none⟩) tc rows ra rc rs bz w3.drew.drew) := HO3.out
          have HXd : Hid (w3.drew.drew.heap[w.heap.size]? = some (.cells #[.int .i64 4, .int .i64 (xn : Int), .int .i64 (yn : Int)] 43 (0, 0))) := HX3.out
          have HBd : Hid (Below base w w3.drew.drew) := HB3.out.drew.drew
          have cd : w3.drew.drew.cell? ⟨tb, xn * 3, none⟩ = some (.slice (some ⟨gk, 0, none⟩) kids.length kc) := HTC.out _ HO3.out
          refine wp_region_noPanic ?_
          refine wp_region_held_drew (S := fun w' => w'.cell? ⟨w.heap.size, 2, none⟩ = some (.int .i64 (yn : Int))) (by kernel_rfl) e2 (fun hS0 => ?_)
          have HS0 := Lib.hid hS0
          clear hS0
          refine take_val 0 (.pointer (some ⟨tb, xn * 3, none⟩)) rfl (by kernel_rfl) (by kernel_rfl) (by kernel_rfl) (fun _ _ _ _ h => h) (by rfl) rfl (fun wz hS => by go_simp) HS0.out ?_
          try simp only [List.set_cons_zero, List.set_cons_succ]
          refine take_val 1 (.pointer (some ⟨tb, xn * 3, none⟩)) rfl (by kernel_rfl) (by kernel_rfl) (by kernel_rfl) (fun _ _ _ _ h => h) (by rfl) rfl (fun wz hS => by go_simp) HS0.out ?_
          try simp only [List.set_cons_zero, List.set_cons_succ]
          refine take_val 2 (.pointer (some ⟨tb, xn * 3, none⟩)) rfl (by kernel_rfl) (by kernel_rfl) (by kernel_rfl) (fun _ _ _ _ h => h) (by rfl) rfl (fun wz hS => by go_simp) HS0.out ?_
          try simp only [List.set_cons_zero, List.set_cons_succ]
          refine take_val 3 (.pointer (some ⟨tb, xn * 3, none⟩)) rfl (by kernel_rfl) (by kernel_rfl) (by kernel_rfl) (fun _ _ _ _ h => h) (by rfl) rfl (fun wz hS => by go_simp) HS0.out ?_
          try simp only [List.set_cons_zero, List.set_cons_succ]
          refine take_val 5 (.pointer (some ⟨w.heap.size, 2, none⟩)) rfl (by kernel_rfl) (by kernel_rfl) (by kernel_rfl) (fun _ _ _ _ h => h) (by rfl) rfl (fun wz hS => by go_simp) HS0.out ?_
          try simp only [List.set_cons_zero, List.set_cons_succ]
          refine take_val 6 (.int .i64 (yn : Int)) rfl (by kernel_rfl) (by kernel_rfl) (by kernel_rfl) (fun _ _ _ _ h => h) (by rfl) rfl (fun wz hS => by go_simp) HS0.out ?_
          try simp only [List.set_cons_zero, List.set_cons_succ]
          refine take_val 7 (.pointer (some ⟨w.heap.size, 2, none⟩)) rfl (by kernel_rfl) (by kernel_rfl) (by kernel_rfl) (fun _ _ _ _ h => h) (by rfl) rfl (fun wz hS => by go_simp) HS0.out ?_
          try simp only [List.set_cons_zero, List.set_cons_succ]
          refine take_val 8 (.int .i64 (yn : Int)) rfl (by kernel_rfl) (by kernel_rfl) (by kernel_rfl) (fun _ _ _ _ h => h) (by rfl) rfl (fun wz hS => by go_simp) HS0.out ?_
          try simp only [List.set_cons_zero, List.set_cons_succ]
          refine take_val 9 (.int .i64 ((yn : Int) + 1)) rfl (by kernel_rfl) (by kernel_rfl) (by kernel_rfl) (fun _ _ _ _ h => h) (by rfl) rfl (fun wz hS => by go_simp) HS0.out ?_
          try simp only [List.set_cons_zero, List.set_cons_succ]
          generalize w3.drew.drew = wd at *
          have HRd := Lib.hid (HRO.out wd HOd.out)
          have HDL := Lib.hid (delete_any base gk kc kids yn wd HRd.out (by omega))
          refine one_ready 4 (by kernel_rfl) rfl (by rfl) (fun K hK => ?_)
          go_simp
          refine hK.out _ _ HS0.out ?_
          clear hK K
          try simp only [Act.put, List.setIfInBounds_toArray]
          try simp only [List.set_cons_zero, List.set_cons_succ]
          refine one_ready 10 (by kernel_rfl) rfl (by rfl) (fun K hK => ?_)
          go_simp
          refine HDL.out.mono ?_
          rintro e w4 ⟨rfl, hown, hgrow⟩
          have hB2 : w4.heap[w.heap.size]? = _ := (hgrow.block _ (lt_of_block HXd.out) (own_neq HRd.out HXd.out (by decide))).trans HXd.out
          have s2 := cell_of_row w4 w.heap.size 2 _ _ _ hB2
          simp only [List.getElem?_toArray, List.getElem?_cons_zero, List.getElem?_cons_succ] at s2
          have HS2 := Lib.hid s2
          have HN := Lib.hid (HKF.out wd w4 tb HOd.out (some ⟨gk, 0, none⟩) kc (kids.eraseIdx yn) hgrow hown)
          obtain ⟨cx, hgc⟩ : ∃ cs, w4.heap[tb]? = some (.cells cs 47 (0, 0)) ∧ wd.heap[tb]? = some (.cells cs 47 (0, 0)) := by
            rcases HOd.out.2.2.1.2 with ⟨hv, _⟩ | ⟨g', cap, cur, hv, _, hh, _⟩
            · cases hv
            · injection hv with hv
              injection hv with hv
              injection hv with hv
              subst hv
              exact ⟨cur, (hgrow.block _ (lt_of_block hh) (own_neq HRd.out hh (by decide))).trans hh, hh⟩
          have fx2 := frozen_of_row w4 tb (xn * 3) _ _ hgc.1
          have hox : w4.cell? ⟨tb, xn * 3, none⟩ = some (.slice (some ⟨gk, 0, none⟩) kids.length kc) := (World.cell?_of_block (a := ⟨tb, xn * 3, none⟩) (hgc.1.trans hgc.2.symm)).trans cd
          have hgw : ¬ w.heap.size = tb := HGW.out
          have HS3 : Hid ((w4.setCell ⟨tb, xn * 3, none⟩ (.slice (some ⟨gk, 0, none⟩) (kids.eraseIdx yn).length kc)).cell? ⟨w.heap.size, 2, none⟩ = some (.int .i64 (yn : Int))) := (World.cell?_of_block (a := ⟨w.heap.size, 2, none⟩) (heap_setCell_other w4 ⟨tb, xn * 3, none⟩ _ _ hgw)).trans s2
          have HB4 : Hid (Below base w (w4.setCell ⟨tb, xn * 3, none⟩ (.slice (some ⟨gk, 0, none⟩) (kids.eraseIdx yn).length kc))) := (below_own HBd.out hgrow HOd.out.size HRd.out (Nat.le_refl _)).setCell (p := ⟨tb, xn * 3, none⟩) HGB.out _
          have HTQ := Lib.hid (HTQ0.out (some ⟨gk, 0, none⟩) kc (kids.eraseIdx yn))
          clear hgrow hown hB2 s2 hgc
          go_wp2_with fail
          refine hK.out _ _ HS2.out ?_
          clear hK K
          try simp only [Act.put, List.setIfInBounds_toArray]
          try simp only [List.set_cons_zero, List.set_cons_succ]
          refine take_val 11 (.pointer (some ⟨tb, xn * 3, none⟩)) rfl (by kernel_rfl) (by kernel_rfl) (by kernel_rfl) (fun _ _ _ _ h => h) (by rfl) rfl (fun wz hS => by go_simp) HS2.out ?_
          try simp only [List.set_cons_zero, List.set_cons_succ]
          refine take_val 12 (.pointer (some ⟨tb, xn * 3, none⟩)) rfl (by kernel_rfl) (by kernel_rfl) (by kernel_rfl) (fun _ _ _ _ h => h) (by rfl) rfl (fun wz hS => by go_simp) HS2.out ?_
          try simp only [List.set_cons_zero, List.set_cons_succ]
          refine one_ready 13 (by kernel_rfl) rfl (by rfl) (fun K hK => ?_)
          go_simp
          refine hK.out _ _ HS3.out ?_
          clear hK K
          try simp only [Act.put, List.setIfInBounds_toArray]
          try simp only [List.set_cons_zero, List.set_cons_succ]
          refine wpAnyH_done (by kernel_rfl) ?_ _
          refine NoPanic.normal ?_
          go_wp2_with fail
          go_ret
          rw [HST.out, HR.out]
          exact ⟨HB4.out, rfl, _, _, _, _, _, _, _, HN.out, by rw [HTQ.out]⟩
theorem act_any (base H : Nat) (ta : Option Addr) (tc : Nat) (rows : List TRow) (ra : Option Addr) (rc : Nat) (rs : List Int) (bz : Bool) (k x y : Int) (w : World) (h : OH base H ta tc rows ra rc rs bz w) (hok : HOk (tK rows, rs, bz)) (hd : ∀ r ∈ rows, ra = none ∨ r.1 ≠ ra) (hp : DSk rows) :
    Calls Try.prog 41 #[.pointer (some ⟨H, 0, none⟩), .agg #[.int .i64 k, .int .i64 x, .int .i64 y]] w (ActEnd base H (stepF (tK rows, rs, bz) (k, x, y)) w) := by
  by_cases h1 : k = 1
  · subst h1; exact act_mark base H ta tc rows ra rc rs bz x y w h hok hd hp
  by_cases h2 : k = 2
  · subst h2; exact act_fresh base H ta tc rows ra rc rs bz x y w h hok hd hp
  by_cases h3 : k = 3
  · subst h3; exact act_link base H ta tc rows ra rc rs bz x y w h hok hd hp
  by_cases h4 : k = 4
  · subst h4; exact act_cut base H ta tc rows ra rc rs bz x y w h hok hd hp
  by_cases h5 : k = 5
  · subst h5; exact act_hold base H ta tc rows ra rc rs bz x y w h hok hd hp
  by_cases h6 : k = 6
  · subst h6; exact act_drop base H ta tc rows ra rc rs bz x y w h hok hd hp
  exact act_none base H ta tc rows ra rc rs bz k x y w h hok hd hp h1 h2 h3 h4 h5 h6
end Go.Proofs.Ytgoocmocdimnoaa
