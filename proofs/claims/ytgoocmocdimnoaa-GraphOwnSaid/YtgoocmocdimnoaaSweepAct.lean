/- The walks of sweep's act: marking, making, holding, dropping. -/
import Derived.Test.YtgoocmocdimnoaaSweepMark2
import Derived.Test.YtgoocmocdimnoaaDet2
namespace Go.Proofs.Ytgoocmocdimnoaa
open Go.RowKit Plain
set_option linter.unusedVariables false
/-- no two things' kids lie in one block -/
def DSk (rows : List TRow) : Prop := ∀ (i j : Nat) (hi : i < rows.length) (hj : j < rows.length), i ≠ j → rows[i].1 = none ∨ rows[i].1 ≠ rows[j].1
open Classical in
noncomputable def lvB (h : Hp) (k : Int) : Bool := decide (Lv h k)
open Classical in
theorem lvB_true {h : Hp} {k : Int} : lvB h k = true ↔ Lv h k := by unfold lvB; exact decide_eq_true_iff
theorem isLiveB_any (base H : Nat) (ta : Option Addr) (tc : Nat) (rows : List TRow) (ra : Option Addr) (rc : Nat) (rs : List Int) (bz : Bool) (k : Int) (w : World) (h : OH base H ta tc rows ra rc rs bz w) (hok : HOk (tK rows, rs, bz)) :
    Calls Try.prog 57 #[.pointer (some ⟨H, 0, none⟩), .int .i64 k] w fun e w' => e = .returned (.bool (lvB (tK rows, rs, bz) k)) ∧ Below w.heap.size w w' :=
  (isLive_any base H ta tc rows ra rc rs bz k w h hok).mono fun e w' ⟨r, he, hr, hb⟩ => by
    have : r = lvB (tK rows, rs, bz) k := by rw [Bool.eq_iff_iff, hr, lvB_true]
    rw [← this]
    exact ⟨he, hb⟩
set_option maxRecDepth 100000 in
set_option maxHeartbeats 4000000 in
theorem act_mark (base H : Nat) (ta : Option Addr) (tc : Nat) (rows : List TRow) (ra : Option Addr) (rc : Nat) (rs : List Int) (bz : Bool) (x y : Int) (w : World) (h : OH base H ta tc rows ra rc rs bz w) (hok : HOk (tK rows, rs, bz)) (hd : ∀ r ∈ rows, ra = none ∨ r.1 ≠ ra) (hp : DSk rows) :
    Calls Try.prog 41 #[.pointer (some ⟨H, 0, none⟩), .agg #[.int .i64 1, .int .i64 x, .int .i64 y]] w (ActEnd base H (stepF (tK rows, rs, bz) (1, x, y)) w) := by
  have h40 : rows.length ≤ 40 := by have := hok.1; rwa [show (tK rows, rs, bz).1 = tK rows from rfl, tK_length] at this
  have h64 : rs.length ≤ 64 := hok.2.1
  have hsz := h.size
  have HHL : Hid (H < w.heap.size) := lt_of_block h.2.1
  have HBA : Hid (Below w.heap.size w (w.alloc (.cells #[.int .i64 1, .int .i64 x, .int .i64 y] 43))) := (Below.refl w.heap.size w).alloc (Nat.le_refl _) (.cells #[.int .i64 1, .int .i64 x, .int .i64 y] 43)
  have HBX := Lib.hid (heap_alloc_new w (.cells #[.int .i64 1, .int .i64 x, .int .i64 y] 43))
  have HO := Lib.hid (h.below HBA.out)
  have HBB := Lib.hid (HBA.out.mono hsz)
  have HST : Hid (stepF (tK rows, rs, bz) (1, x, y) = some (markF (tK rows, rs, bz))) := by show _ = _; rfl
  have HOK := Lib.hid hok
  have HD := Lib.hid hd
  have HP := Lib.hid hp
  have HLN := Lib.hid (tK_length rows)
  have HM := Lib.hid (mark_any base H ta tc rows ra rc rs bz _ HO.out HOK.out)
  clear h hok hd hp
  go_enter Try.func41, Try.ntmps41
  go_wp2_with fail
  refine HM.out.mono ?_
  rintro e w1 ⟨rfl, hb, hm⟩
  have HB1 := Lib.hid (HBB.out.trans hb)
  have HMM := Lib.hid hm
  clear hb hm
  go_wp2_with fail
  go_ret
  rw [HST.out]
  exact ⟨HB1.out, rfl, HMM.out⟩
set_option maxRecDepth 100000 in
set_option maxHeartbeats 4000000 in
theorem act_fresh (base H : Nat) (ta : Option Addr) (tc : Nat) (rows : List TRow) (ra : Option Addr) (rc : Nat) (rs : List Int) (bz : Bool) (x y : Int) (w : World) (h : OH base H ta tc rows ra rc rs bz w) (hok : HOk (tK rows, rs, bz)) (hd : ∀ r ∈ rows, ra = none ∨ r.1 ≠ ra) (hp : DSk rows) :
    Calls Try.prog 41 #[.pointer (some ⟨H, 0, none⟩), .agg #[.int .i64 2, .int .i64 x, .int .i64 y]] w (ActEnd base H (stepF (tK rows, rs, bz) (2, x, y)) w) := by
  have h40 : rows.length ≤ 40 := by have := hok.1; rwa [show (tK rows, rs, bz).1 = tK rows from rfl, tK_length] at this
  have h64 : rs.length ≤ 64 := hok.2.1
  have hsz := h.size
  have HHL : Hid (H < w.heap.size) := lt_of_block h.2.1
  have HBA : Hid (Below w.heap.size w (w.alloc (.cells #[.int .i64 2, .int .i64 x, .int .i64 y] 43))) := (Below.refl w.heap.size w).alloc (Nat.le_refl _) (.cells #[.int .i64 2, .int .i64 x, .int .i64 y] 43)
  have HBX := Lib.hid (heap_alloc_new w (.cells #[.int .i64 2, .int .i64 x, .int .i64 y] 43))
  have HO := Lib.hid (h.below HBA.out)
  have HBB := Lib.hid (HBA.out.mono hsz)
  have HST : Hid (stepF (tK rows, rs, bz) (2, x, y) = freshF (tK rows, rs, bz)) := by show _ = _; rfl
  have HOK := Lib.hid hok
  have HD := Lib.hid hd
  have HP := Lib.hid hp
  have HLN := Lib.hid (tK_length rows)
  have HM := Lib.hid (fresh_any base H ta tc rows ra rc rs bz _ HO.out hd h40 h64)
  clear h hok hd hp
  go_enter Try.func41, Try.ntmps41
  go_wp2_with fail
  refine HM.out.mono ?_
  rintro e w1 hact
  obtain ⟨c, hc20, rfl⟩ := hact.code
  have HB1 := Lib.hid (HBB.out.trans hact.1)
  have HACT := Lib.hid hact.2
  clear hact
  go_wp2_with fail
  go_ret
  rw [HST.out]
  exact ⟨HB1.out, HACT.out⟩
set_option maxRecDepth 100000 in
set_option maxHeartbeats 4000000 in
theorem act_none (base H : Nat) (ta : Option Addr) (tc : Nat) (rows : List TRow) (ra : Option Addr) (rc : Nat) (rs : List Int) (bz : Bool) (k x y : Int) (w : World) (h : OH base H ta tc rows ra rc rs bz w) (hok : HOk (tK rows, rs, bz)) (hd : ∀ r ∈ rows, ra = none ∨ r.1 ≠ ra) (hp : DSk rows) (h1 : k ≠ 1) (h2 : k ≠ 2) (h3 : k ≠ 3) (h4 : k ≠ 4) (h5 : k ≠ 5) (h6 : k ≠ 6) :
    Calls Try.prog 41 #[.pointer (some ⟨H, 0, none⟩), .agg #[.int .i64 k, .int .i64 x, .int .i64 y]] w (ActEnd base H (stepF (tK rows, rs, bz) (k, x, y)) w) := by
  have h40 : rows.length ≤ 40 := by have := hok.1; rwa [show (tK rows, rs, bz).1 = tK rows from rfl, tK_length] at this
  have h64 : rs.length ≤ 64 := hok.2.1
  have hsz := h.size
  have HHL : Hid (H < w.heap.size) := lt_of_block h.2.1
  have HBA : Hid (Below w.heap.size w (w.alloc (.cells #[.int .i64 k, .int .i64 x, .int .i64 y] 43))) := (Below.refl w.heap.size w).alloc (Nat.le_refl _) (.cells #[.int .i64 k, .int .i64 x, .int .i64 y] 43)
  have HBX := Lib.hid (heap_alloc_new w (.cells #[.int .i64 k, .int .i64 x, .int .i64 y] 43))
  have HO := Lib.hid (h.below HBA.out)
  have HBB := Lib.hid (HBA.out.mono hsz)
  have HST : Hid (stepF (tK rows, rs, bz) (k, x, y) = none) := by show _ = _; unfold stepF; simp only [if_neg h1, if_neg h2, if_neg h3, if_neg h4, if_neg h5, if_neg h6]
  have HOK := Lib.hid hok
  have HD := Lib.hid hd
  have HP := Lib.hid hp
  have HLN := Lib.hid (tK_length rows)
  have g1 : (k == 1) = false := by simpa using h1
  have g2 : (k == 2) = false := by simpa using h2
  have g3 : (k == 3) = false := by simpa using h3
  have g4 : (k == 4) = false := by simpa using h4
  have g5 : (k == 5) = false := by simpa using h5
  have g6 : (k == 6) = false := by simpa using h6
  clear h hok hd hp
  go_enter Try.func41, Try.ntmps41
  go_wp2_with fail
  go_ret
  rw [HST.out]
  exact ⟨HBB.out, 5, by decide, by decide, rfl⟩
set_option maxRecDepth 100000 in
set_option maxHeartbeats 4000000 in
theorem act_hold (base H : Nat) (ta : Option Addr) (tc : Nat) (rows : List TRow) (ra : Option Addr) (rc : Nat) (rs : List Int) (bz : Bool) (x y : Int) (w : World) (h : OH base H ta tc rows ra rc rs bz w) (hok : HOk (tK rows, rs, bz)) (hd : ∀ r ∈ rows, ra = none ∨ r.1 ≠ ra) (hp : DSk rows) :
    Calls Try.prog 41 #[.pointer (some ⟨H, 0, none⟩), .agg #[.int .i64 5, .int .i64 x, .int .i64 y]] w (ActEnd base H (stepF (tK rows, rs, bz) (5, x, y)) w) := by
  have h40 : rows.length ≤ 40 := by have := hok.1; rwa [show (tK rows, rs, bz).1 = tK rows from rfl, tK_length] at this
  have h64 : rs.length ≤ 64 := hok.2.1
  have hsz := h.size
  have HHL : Hid (H < w.heap.size) := lt_of_block h.2.1
  have HBA : Hid (Below w.heap.size w (w.alloc (.cells #[.int .i64 5, .int .i64 x, .int .i64 y] 43))) := (Below.refl w.heap.size w).alloc (Nat.le_refl _) (.cells #[.int .i64 5, .int .i64 x, .int .i64 y] 43)
  have HBX := Lib.hid (heap_alloc_new w (.cells #[.int .i64 5, .int .i64 x, .int .i64 y] 43))
  have HO := Lib.hid (h.below HBA.out)
  have HBB := Lib.hid (HBA.out.mono hsz)
  have HST : Hid (stepF (tK rows, rs, bz) (5, x, y) = holdF (tK rows, rs, bz) y) := by show _ = _; rfl
  have HOK := Lib.hid hok
  have HD := Lib.hid hd
  have HP := Lib.hid hp
  have HLN := Lib.hid (tK_length rows)
  have HIL := Lib.hid (isLiveB_any base H ta tc rows ra rc rs bz y _ HO.out HOK.out)
  have HLB := Lib.hid (lvB_true (h := (tK rows, rs, bz)) (k := y))
  generalize lvB (tK rows, rs, bz) y = q at *
  clear h hok hd hp
  go_enter Try.func41, Try.ntmps41
  go_wp2_with fail
  refine HIL.out.mono ?_
  rintro e w1 ⟨rfl, hb⟩
  have HB1 := Lib.hid (HBB.out.trans (hb.mono (Nat.le_trans hsz HBA.out.size)))
  have HO1 := Lib.hid (HO.out.below hb)
  have HBX1 := Lib.hid ((hb.block _ (lt_of_block HBX.out)).trans HBX.out)
  have e0 := cell_of_row w1 w.heap.size 0 _ _ _ HBX1.out
  have e1 := cell_of_row w1 w.heap.size 1 _ _ _ HBX1.out
  have e2 := cell_of_row w1 w.heap.size 2 _ _ _ HBX1.out
  simp only [List.getElem?_toArray, List.getElem?_cons_zero, List.getElem?_cons_succ] at e0 e1 e2
  clear hb
  cases q with
  | false =>
    have HR : Hid (holdF (tK rows, rs, bz) y = none) := by show _ = _; unfold holdF; rw [if_neg (fun h => by have := HLB.out.2 h; cases this)]
    go_wp2_with fail
    go_ret
    rw [HST.out, HR.out]
    exact ⟨HB1.out, 9, by decide, by decide, rfl⟩
  | true =>
    have hlv := HLB.out.1 rfl
    have HR : Hid (holdF (tK rows, rs, bz) y = rootF (tK rows, rs, bz) y) := by show _ = _; unfold holdF; rw [if_pos hlv]
    obtain ⟨hy0, ty, hty, _⟩ := hlv.there HOK.out
    obtain ⟨yn, rfl⟩ := Int.eq_ofNat_of_zero_le hy0
    rw [Int.toNat_natCast] at hty
    have hyl : yn < rows.length := by rw [← HLN.out]; exact (List.getElem?_eq_some_iff.1 hty).1
    have HM := Lib.hid (root_any base H ta tc rows ra rc rs bz yn w1 HO1.out HD.out hyl (by omega) (by omega))
    clear hlv hty hy0
    go_wp2_with fail
    refine HM.out.mono ?_
    rintro e w2 hact
    obtain ⟨c, hc20, rfl⟩ := hact.code
    have HB2 := Lib.hid (HB1.out.trans hact.1)
    have HACT := Lib.hid hact.2
    clear hact
    go_wp2_with fail
    go_ret
    rw [HST.out, HR.out]
    exact ⟨HB2.out, HACT.out⟩
set_option maxRecDepth 100000 in
set_option maxHeartbeats 4000000 in
theorem act_drop (base H : Nat) (ta : Option Addr) (tc : Nat) (rows : List TRow) (ra : Option Addr) (rc : Nat) (rs : List Int) (bz : Bool) (x y : Int) (w : World) (h : OH base H ta tc rows ra rc rs bz w) (hok : HOk (tK rows, rs, bz)) (hd : ∀ r ∈ rows, ra = none ∨ r.1 ≠ ra) (hp : DSk rows) :
    Calls Try.prog 41 #[.pointer (some ⟨H, 0, none⟩), .agg #[.int .i64 6, .int .i64 x, .int .i64 y]] w (ActEnd base H (stepF (tK rows, rs, bz) (6, x, y)) w) := by
  have h40 : rows.length ≤ 40 := by have := hok.1; rwa [show (tK rows, rs, bz).1 = tK rows from rfl, tK_length] at this
  have h64 : rs.length ≤ 64 := hok.2.1
  have hsz := h.size
  have HHL : Hid (H < w.heap.size) := lt_of_block h.2.1
  have HBA : Hid (Below w.heap.size w (w.alloc (.cells #[.int .i64 6, .int .i64 x, .int .i64 y] 43))) := (Below.refl w.heap.size w).alloc (Nat.le_refl _) (.cells #[.int .i64 6, .int .i64 x, .int .i64 y] 43)
  have HBX := Lib.hid (heap_alloc_new w (.cells #[.int .i64 6, .int .i64 x, .int .i64 y] 43))
  have HO := Lib.hid (h.below HBA.out)
  have HBB := Lib.hid (HBA.out.mono hsz)
  have HST : Hid (stepF (tK rows, rs, bz) (6, x, y) = dropF (tK rows, rs, bz) y) := by show _ = _; rfl
  have HOK := Lib.hid hok
  have HD := Lib.hid hd
  have HP := Lib.hid hp
  have HLN := Lib.hid (tK_length rows)
  have e0 := cell_of_row (w.alloc (.cells #[.int .i64 6, .int .i64 x, .int .i64 y] 43)) w.heap.size 0 _ _ _ HBX.out
  have e1 := cell_of_row (w.alloc (.cells #[.int .i64 6, .int .i64 x, .int .i64 y] 43)) w.heap.size 1 _ _ _ HBX.out
  have e2 := cell_of_row (w.alloc (.cells #[.int .i64 6, .int .i64 x, .int .i64 y] 43)) w.heap.size 2 _ _ _ HBX.out
  simp only [List.getElem?_toArray, List.getElem?_cons_zero, List.getElem?_cons_succ] at e0 e1 e2
  have x1 := HO.out.h1
  have f1 := HO.out.fz 1
  by_cases hy0 : y < 0
  · have HR : Hid (dropF (tK rows, rs, bz) y = none) := by show _ = _; unfold dropF; rw [if_neg (by omega)]
    clear h hok hd hp
    go_enter Try.func41, Try.ntmps41
    go_wp2_with fail
    go_region
    go_wp2_with fail
    go_ret
    rw [HST.out, HR.out]
    exact ⟨HBB.out.drew, 9, by decide, by decide, rfl⟩
  · obtain ⟨yn, rfl⟩ := Int.eq_ofNat_of_zero_le (show 0 ≤ y by omega)
    have m0 : ¬ ((yn : Int) < 0) := by omega
    have d0 : decide ((yn : Int) < 0) = false := decide_eq_false m0
    by_cases hyl : rs.length ≤ yn
    · have m1 : ((rs.length : Int) ≤ (yn : Int)) := by omega
      have HR : Hid (dropF (tK rows, rs, bz) (yn : Int) = none) := by show _ = _; unfold dropF; rw [if_neg (fun h => by have := h.2; rw [Int.toNat_natCast] at this; exact absurd this (by show ¬ yn < rs.length; omega))]
      clear h hok hd hp
      go_enter Try.func41, Try.ntmps41
      go_wp2_with fail
      go_region
      go_wp2_with fail
      go_ret
      rw [HST.out, HR.out]
      exact ⟨HBB.out.drew, 9, by decide, by decide, rfl⟩
    · have m1 : ¬ ((rs.length : Int) ≤ (yn : Int)) := by omega
      have d1 : decide ((rs.length : Int) ≤ (yn : Int)) = false := decide_eq_false m1
      have HR : Hid (dropF (tK rows, rs, bz) (yn : Int) = some (tK rows, rs.eraseIdx yn, bz)) := by show _ = _; unfold dropF; rw [if_pos ⟨by omega, by rw [Int.toNat_natCast]; show yn < rs.length; omega⟩]; rfl
      have ey : IntKind.i64.wrap ((yn : Int) + 1) = (yn : Int) + 1 := wraps_i64 _ (by omega) (by omega)
      obtain ⟨gr, rfl⟩ := own_is HO.out.2.2.2.1 (by omega)
      clear h hok hd hp
      go_enter Try.func41, Try.ntmps41
      go_wp2_with fail
      go_region
      go_wp2_with fail
      have HOd : Hid (OH base H ta tc rows (some ⟨gr, 0, none⟩) rc rs bz (w.alloc (.cells #[.int .i64 6, .int .i64 x, .int .i64 (yn : Int)] 43)).drew.drew) := HO.out
      have HXd : Hid ((w.alloc (.cells #[.int .i64 6, .int .i64 x, .int .i64 (yn : Int)] 43)).drew.drew.heap[w.heap.size]? = some (.cells #[.int .i64 6, .int .i64 x, .int .i64 (yn : Int)] 43 (0, 0))) := HBX.out
      have HBd : Hid (Below base w (w.alloc (.cells #[.int .i64 6, .int .i64 x, .int .i64 (yn : Int)] 43)).drew.drew) := HBB.out.drew.drew
      refine wp_region_noPanic ?_
      refine wp_region_held_drew (S := fun w' => w'.cell? ⟨w.heap.size, 2, none⟩ = some (.int .i64 (yn : Int))) (by kernel_rfl) e2 (fun hS0 => ?_)
      have HS0 := Lib.hid hS0
      clear hS0
      refine take_val 0 (.pointer (some ⟨H, 0, none⟩)) rfl (by kernel_rfl) (by kernel_rfl) (by kernel_rfl) (fun _ _ _ _ h => h) (by rfl) rfl (fun wz hS => by go_simp) HS0.out ?_
      try simp only [List.set_cons_zero, List.set_cons_succ]
      refine take_val 1 (.pointer (some ⟨H, 0, none⟩)) rfl (by kernel_rfl) (by kernel_rfl) (by kernel_rfl) (fun _ _ _ _ h => h) (by rfl) rfl (fun wz hS => by go_simp) HS0.out ?_
      try simp only [List.set_cons_zero, List.set_cons_succ]
      refine take_val 2 (.pointer (some ⟨H, 0, none⟩)) rfl (by kernel_rfl) (by kernel_rfl) (by kernel_rfl) (fun _ _ _ _ h => h) (by rfl) rfl (fun wz hS => by go_simp) HS0.out ?_
      try simp only [List.set_cons_zero, List.set_cons_succ]
      refine take_val 3 (.pointer (some ⟨H, 0, none⟩)) rfl (by kernel_rfl) (by kernel_rfl) (by kernel_rfl) (fun _ _ _ _ h => h) (by rfl) rfl (fun wz hS => by go_simp) HS0.out ?_
      try simp only [List.set_cons_zero, List.set_cons_succ]
      refine take_val 4 (.pointer (some ⟨H, 1, none⟩)) rfl (by kernel_rfl) (by kernel_rfl) (by kernel_rfl) (fun _ _ _ _ h => h) (by rfl) rfl (fun wz hS => by go_simp) HS0.out ?_
      try simp only [List.set_cons_zero, List.set_cons_succ]
      refine take_val 6 (.pointer (some ⟨w.heap.size, 2, none⟩)) rfl (by kernel_rfl) (by kernel_rfl) (by kernel_rfl) (fun _ _ _ _ h => h) (by rfl) rfl (fun wz hS => by go_simp) HS0.out ?_
      try simp only [List.set_cons_zero, List.set_cons_succ]
      refine take_val 7 (.int .i64 (yn : Int)) rfl (by kernel_rfl) (by kernel_rfl) (by kernel_rfl) (fun _ _ _ _ h => h) (by rfl) rfl (fun wz hS => by go_simp) HS0.out ?_
      try simp only [List.set_cons_zero, List.set_cons_succ]
      refine take_val 8 (.pointer (some ⟨w.heap.size, 2, none⟩)) rfl (by kernel_rfl) (by kernel_rfl) (by kernel_rfl) (fun _ _ _ _ h => h) (by rfl) rfl (fun wz hS => by go_simp) HS0.out ?_
      try simp only [List.set_cons_zero, List.set_cons_succ]
      refine take_val 9 (.int .i64 (yn : Int)) rfl (by kernel_rfl) (by kernel_rfl) (by kernel_rfl) (fun _ _ _ _ h => h) (by rfl) rfl (fun wz hS => by go_simp) HS0.out ?_
      try simp only [List.set_cons_zero, List.set_cons_succ]
      refine take_val 10 (.int .i64 ((yn : Int) + 1)) rfl (by kernel_rfl) (by kernel_rfl) (by kernel_rfl) (fun _ _ _ _ h => h) (by rfl) rfl (fun wz hS => by go_simp) HS0.out ?_
      try simp only [List.set_cons_zero, List.set_cons_succ]
      generalize (w.alloc (.cells #[.int .i64 6, .int .i64 x, .int .i64 (yn : Int)] 43)).drew.drew = wd at *
      have x1d := HOd.out.h1
      have HDL := Lib.hid (delete_any base gr rc rs yn wd HOd.out.2.2.2.1 (by omega))
      refine one_ready 5 (by kernel_rfl) rfl (by rfl) (fun K hK => ?_)
      go_simp
      refine hK.out _ _ HS0.out ?_
      clear hK K
      try simp only [Act.put, List.setIfInBounds_toArray]
      try simp only [List.set_cons_zero, List.set_cons_succ]
      refine one_ready 11 (by kernel_rfl) rfl (by rfl) (fun K hK => ?_)
      go_simp
      refine HDL.out.mono ?_
      rintro e w2 ⟨rfl, hown, hgrow⟩
      have hB2 : w2.heap[w.heap.size]? = _ := (hgrow.block _ (lt_of_block HXd.out) (own_neq HOd.out.2.2.2.1 HXd.out (by decide))).trans HXd.out
      have HB2 := Lib.hid hB2
      have s2 := cell_of_row w2 w.heap.size 2 _ _ _ hB2
      simp only [List.getElem?_toArray, List.getElem?_cons_zero, List.getElem?_cons_succ] at s2
      have HS2 := Lib.hid s2
      have hH : w2.heap[H]? = _ := (hgrow.block H (lt_of_block HOd.out.2.1) (own_neq HOd.out.2.2.2.1 HOd.out.2.1 (by decide))).trans HOd.out.2.1
      have cx2 := cell_of_row w2 H 1 _ _ _ hH
      simp only [List.getElem?_toArray, List.getElem?_cons_zero, List.getElem?_cons_succ] at cx2
      have fx2 := frozen_of_row w2 H 1 _ _ hH
      have HN := Lib.hid (HOd.out.grownR HD.out hgrow hown)
      have HB3 : Hid (Below base w (w2.setCell ⟨H, 1, none⟩ (.slice (some ⟨gr, 0, none⟩) (rs.eraseIdx yn).length rc))) := (below_own HBd.out hgrow HOd.out.size HOd.out.2.2.2.1 (Nat.le_refl _)).setCell (p := ⟨H, 1, none⟩) HOd.out.1 _
      have HSB : Hid (w.heap.size ≠ H) := by have := HHL.out; show _ ≠ _; omega
      clear hgrow hown hB2 hH s2
      go_wp2_with fail
      refine hK.out _ _ HS2.out ?_
      clear hK K
      try simp only [Act.put, List.setIfInBounds_toArray]
      try simp only [List.set_cons_zero, List.set_cons_succ]
      refine take_val 12 (.pointer (some ⟨H, 0, none⟩)) rfl (by kernel_rfl) (by kernel_rfl) (by kernel_rfl) (fun _ _ _ _ h => h) (by rfl) rfl (fun wz hS => by go_simp) HS2.out ?_
      try simp only [List.set_cons_zero, List.set_cons_succ]
      refine take_val 13 (.pointer (some ⟨H, 0, none⟩)) rfl (by kernel_rfl) (by kernel_rfl) (by kernel_rfl) (fun _ _ _ _ h => h) (by rfl) rfl (fun wz hS => by go_simp) HS2.out ?_
      try simp only [List.set_cons_zero, List.set_cons_succ]
      refine take_val 14 (.pointer (some ⟨H, 1, none⟩)) rfl (by kernel_rfl) (by kernel_rfl) (by kernel_rfl) (fun _ _ _ _ h => h) (by rfl) rfl (fun wz hS => by go_simp) HS2.out ?_
      try simp only [List.set_cons_zero, List.set_cons_succ]
      refine one_ready 15 (by kernel_rfl) rfl (by rfl) (fun K hK => ?_)
      go_simp
      refine hK.out _ _ (((World.cell?_of_block (a := ⟨w.heap.size, 2, none⟩) (heap_setCell_other w2 ⟨H, 1, none⟩ _ _ HSB.out)).trans HS2.out)) ?_
      clear hK K
      try simp only [Act.put, List.setIfInBounds_toArray]
      try simp only [List.set_cons_zero, List.set_cons_succ]
      refine wpAnyH_done (by kernel_rfl) ?_ _
      refine NoPanic.normal ?_
      go_wp2_with fail
      go_ret
      rw [HST.out, HR.out]
      exact ⟨HB3.out, rfl, _, _, _, _, _, _, _, HN.out, rfl⟩
end Go.Proofs.Ytgoocmocdimnoaa
