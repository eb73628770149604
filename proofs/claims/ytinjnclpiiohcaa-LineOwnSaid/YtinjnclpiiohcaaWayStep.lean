/- The walk of (*way).step. -/
import Derived.Test.YtinjnclpiiohcaaWayArr
import Derived.Test.YtinjnclpiiohcaaPkDelete
namespace Go.Proofs.Ytinjnclpiiohcaa
open Go.RowKit Plain
set_option linter.unusedVariables false
set_option linter.unusedSimpArgs false
set_option maxRecDepth 100000 in
theorem run_make_boolsL (n : Nat) (hn : n ≤ 1048576) (u : World) : (Instr.makeSlice 23 (.int .i64 (n : Int)) (.int .i64 (n : Int))).run Try.prog u = .ok (.slice (some ⟨u.heap.size, 0, none⟩) n n) (u.alloc (.cells ((List.replicate n false).flatMap boC).toArray 4)) := by
  have hib : (Try.prog.info? 4).map (fun i => (i.zero, i.size, i.bytes)) = some (some (.bool false), 1, 1) := by kernel_rfl
  obtain ⟨i, hi, hz, hs, hb⟩ := info_parts hib
  have := run_make (P := Try.prog) u 23 4 i (.bool false) Try.underlying23 hi hz .i64 .i64 (n : Int) (n : Int) (by omega) (Int.le_refl _) (by rw [hb]; omega) (by omega)
  rw [this, hs, Int.toNat_natCast]
  congr 3
  simp only [madeCells, Nat.mul_one]
  have hfl : (List.replicate n false).flatMap boC = List.replicate n (.bool false) := by
    clear this hb hs hz hi hib
    induction n with
    | zero => rfl
    | succ m ih => rw [List.replicate_succ, List.flatMap_cons, ih (by omega)]; rfl
  rw [hfl]
  apply Array.ext
  · simp
  · intro k h1 h2
    simp [Value.cells, Nat.mod_one]
theorem sat_replicate (n : Nat) (u : World) : SAt 1 boC (u.alloc (.cells ((List.replicate n false).flatMap boC).toArray 4)) (some ⟨u.heap.size, 0, none⟩) (List.replicate n false) := by
  intro i hi
  refine ⟨u.heap.size, 0, rfl, lt_of_block (heap_alloc_new u _), fun j v hv => ?_⟩
  have hj : j = 0 := by
    rcases Nat.lt_or_ge j 1 with h | h
    · omega
    · rw [List.getElem?_eq_none (by rw [boC_length]; exact h)] at hv; cases hv
  subst hj
  rw [cell_of_row _ _ _ _ _ _ (heap_alloc_new u _), List.getElem?_toArray, ← hv]
  have := flat_get boC_length (List.replicate n false) i 0 hi (by decide)
  rw [← this]
  congr 1
  omega
theorem wp_value_run {P : Program} {o : Oper} {a : Act} {w w' : World} {v : Value} {K : Act → World → Prop} {Q : Exit → Act → World → Prop} (he : (execOp a.eval o).run P w = .ok (.value v) w') (h : K (a.put o.dst v) w') : o.wp P a w K Q := by
  unfold Oper.wp
  rw [he]
  exact h
theorem below_grown2 {u u' : World} {x : Option Nat} (h : Below u.heap.size u u') : u.grownBy u' x := ⟨h.os, h.tape, h.output, h.size, fun k hk _ => h.block k hk⟩
def StEnd (B0 wb : Nat) (T : List ByteArray) (k : Nat) (s : LSt ByteArray) (w0 : World) (e : Ending) (w : World) : Prop := e = .returned (.tuple #[]) ∧ Below B0 w0 w ∧ ∃ s' ta tc ha hc ga gc la lc na nc, Moved ⟨#[]⟩ T k s s' ∧ WSt B0 wb T s' ta tc ha hc ga gc la lc na nc w
set_option maxRecDepth 100000 in
set_option maxHeartbeats 4000000 in
theorem step_any (B0 wb : Nat) (T : List ByteArray) (x : Int) (hx0 : -9223372036854775808 ≤ x) (hx1 : x ≤ 9223372036854775807) (K : Int) (hK : K = (x.tmod 9 + 9).tmod 9) (s : LSt ByteArray) (ta : Option Addr) (tc : Nat) (ha : Option Addr) (hc : Nat) (ga : Option Addr) (gc : Nat) (la : Option Addr) (lc : Nat) (na : Option Addr) (nc : Nat) (w : World) (hW : WSt B0 wb T s ta tc ha hc ga gc la lc na nc w) (hL : s.Ok T) (hT : Short T) (hn : s.net.length ≤ 3000) :
    Calls Try.prog 26 #[.pointer (some ⟨wb, 0, none⟩), .int .i64 x] w (StEnd B0 wb T K.toNat s w) := by
  obtain ⟨i0, hi0, hz0, hz1, hz2⟩ := info_pkM
  have HIS : Hid ((Try.prog.info? 25).map (·.size) = some 3) := by show _ = _; kernel_rfl
  have HIP : Hid ((Try.prog.info? 30).map (·.size) = some 3) := by show _ = _; kernel_rfl
  have HSOK := Lib.hid (LInv.sok hL.1 hT)
  have HLI := Lib.hid hL
  have HT := Lib.hid hT
  have hT1 : T.length ≤ 9223372036854775807 := by have := hT.1; omega
  have hT2 : s.had.length ≤ 9223372036854775807 := by rw [hL.1.len]; exact hT1
  have HLT : Hid (wb < w.heap.size) := lt_of_block hW.row
  have HB0 := Lib.hid hW.base
  have HWW := Lib.hid hW
  have HR : Hid (0 ≤ K ∧ K < 9 ∧ ∀ u, Calls Try.prog 58 #[.int .i64 x, .int .i64 9] u (fun e w' => e = .returned (.int .i64 K) ∧ w' = u)) := by
    have h1 := Int.tmod_lt_of_pos x (show (0 : Int) < 9 by decide)
    have h2 := Int.lt_tmod_of_pos x (show (0 : Int) < 9 by decide)
    have h3 : 0 ≤ (x.tmod 9 + 9).tmod 9 := Int.tmod_nonneg _ (by omega)
    have h4 := Int.tmod_lt_of_pos (x.tmod 9 + 9) (show (0 : Int) < 9 by decide)
    refine ⟨by omega, by omega, fun u => (rest_eq x 9 u (by decide) (by decide)).mono ?_⟩
    rintro e w' ⟨⟨r, _, hr, rfl⟩, rfl⟩
    exact ⟨by rw [hK, hr], rfl⟩
  have hk0 := HR.out.1
  have hk9 := HR.out.2.1
  have HRC := Lib.hid HR.out.2.2
  clear hW hL hT hK HR
  go_enter Try.func26, Try.ntmps26
  go_wp2_with fail
  refine (HRC.out _).mono ?_
  rintro e w0 ⟨rfl, hw0⟩
  obtain rfl := hw0.symm
  clear HRC hw0
  by_cases e0 : K = 0
  · obtain rfl := e0
    have r0 := cell_of_row _ _ 0 _ _ _ HWW.out.row
    have r1 := cell_of_row _ _ 1 _ _ _ HWW.out.row
    have r2 := cell_of_row _ _ 2 _ _ _ HWW.out.row
    have r3 := cell_of_row _ _ 3 _ _ _ HWW.out.row
    have r4 := cell_of_row _ _ 4 _ _ _ HWW.out.row
    have r5 := cell_of_row _ _ 5 _ _ _ HWW.out.row
    have r6 := cell_of_row _ _ 6 _ _ _ HWW.out.row
    have f5 := frozen_of_row _ _ 5 _ _ HWW.out.row
    have f6 := frozen_of_row _ _ 6 _ _ HWW.out.row
    simp only [List.getElem?_toArray, List.getElem?_cons_succ, List.getElem?_cons_zero] at r0 r1 r2 r3 r4 r5 r6
    go_wp2_with fail
    refine (sends_any ta ha tc hc T s.had (s.b : Int) _ HWW.out.t.1 HWW.out.h.1 hT1 hT2).mono ?_
    rintro e u1 ⟨hb1, hr⟩
    clear r0 r1 r2 r3 r4 r5 r6 f5 f6
    rcases hr with ⟨hn, _⟩ | ⟨_, out, oa, oc, rfl, hown, hsent, hlen⟩
    · exact absurd HSOK.out hn
    have HWE := Lib.hid (HWW.out.below hb1)
    have HBE : Hid (Below B0 _ u1) := Lib.hid (hb1.mono (Nat.le_trans HB0.out (Nat.le_of_lt HLT.out)))
    have HOU := Lib.hid hown
    have HSN := Lib.hid hsent
    have HLE : Hid (out.length + s.b ≤ T.length) := hlen
    clear hb1 hown hsent hlen
    have r0 := cell_of_row _ _ 0 _ _ _ HWE.out.row
    have r1 := cell_of_row _ _ 1 _ _ _ HWE.out.row
    have r2 := cell_of_row _ _ 2 _ _ _ HWE.out.row
    have r3 := cell_of_row _ _ 3 _ _ _ HWE.out.row
    have r4 := cell_of_row _ _ 4 _ _ _ HWE.out.row
    have r5 := cell_of_row _ _ 5 _ _ _ HWE.out.row
    have r6 := cell_of_row _ _ 6 _ _ _ HWE.out.row
    have f5 := frozen_of_row _ _ 5 _ _ HWE.out.row
    have f6 := frozen_of_row _ _ 6 _ _ HWE.out.row
    simp only [List.getElem?_toArray, List.getElem?_cons_succ, List.getElem?_cons_zero] at r0 r1 r2 r3 r4 r5 r6
    have HFL := Lib.hid HWE.out.flag
    have HBG : Hid (Below B0 w (u1.setCell ⟨wb, 6, none⟩ (.bool false))) := Lib.hid (below_setCells HB0.out [.bool false] 6 HBE.out)
    have HMG : Hid (SAt 3 pkC (u1.setCell ⟨wb, 6, none⟩ (.bool false)) oa out) := sat_own1 pkC_length (own_keep HOU.out fun g cs hg _ => heap_setCell_other u1 ⟨wb, 6, none⟩ g _ (type_ne hg HWE.out.row (by decide)))
    have hml : (out).length ≤ 60 := by have := HLE.out; have := HT.out.1; omega
    have D3 : Hid (s.net.length + (out).length ≤ maxLen) := by show _ ≤ _; unfold maxLen; omega
    have D4 : Hid ((s.net.length + (out).length) * 32 ≤ 140737488355328) := by show _ ≤ _; omega
    have hlt := lt_of_block HFL.out.row
    have D5 : Hid (B0 ≤ (u1.setCell ⟨wb, 6, none⟩ (.bool false)).heap.size) := by show _ ≤ _; have := HB0.out; omega
    clear hlt hml
    go_wp2_with (at_builtin; refine wpList_append_sat2 rfl _ _ 26 rfl B0 30 i0 (.agg (pkC ((0, 0, ⟨#[]⟩) : PkT)).toArray) 3 32 Try.underlying26 hi0 hz0 hz1 hz2 rfl (by decide) _ _ _ rfl HFL.out.own oa oc out rfl HMG.out pkC_length pkC_one D3.out D4.out D5.out ?_)
    intro v' w3 hown' hgrow hnew
    obtain ⟨na2, nc2, rfl⟩ := own_formK hown'
    have HNA : Hid (NAnew (u1.setCell ⟨wb, 6, none⟩ (.bool false)) na na2) := fun nd e => (na_new hnew nd e).imp id (fun h => by simpa [World.setCell] using h)
    have HG := Lib.hid hgrow
    have HO3 : Hid (w3.ownsRow B0 30 3 (.slice na2 (s.net ++ out).length nc2) (s.net ++ out).length ((s.net ++ out).flatMap pkC)) := by
      show w3.ownsRow _ _ _ _ _ _
      rw [List.length_append, List.flatMap_append]
      exact hown'
    have HFIN := Lib.hid (HFL.out.net HG.out HNA.out HO3.out)
    have hr3 := (HG.out.block wb (lt_of_block HFL.out.row) (own_neqK HFL.out.own HFL.out.row (by decide))).trans HFL.out.row
    have s5 := cell_of_row _ _ 5 _ _ _ hr3
    have g5 := frozen_of_row _ _ 5 _ _ hr3
    simp only [List.getElem?_toArray, List.getElem?_cons_succ, List.getElem?_cons_zero] at s5
    have HBH := Lib.hid (below_setCells HB0.out [.slice na2 (s.net ++ out).length nc2] 5 (below_own HBG.out HG.out D5.out HFL.out.own (Nat.le_refl _)))
    obtain ⟨NL, hNL⟩ : ∃ NL, s.net.length + (out).length = NL := ⟨_, rfl⟩
    rw [hNL]
    have HNL := Lib.hid hNL
    clear hNL
    clear hown' hgrow hnew hr3
    go_wp2_with fail
    first | go_end0 | refine bodyPost_ret (results_none rfl _ _ _) rfl ?_
    obtain rfl : NL = (s.net ++ out).length := by rw [← HNL.out, List.length_append]
    exact ⟨rfl, HBH.out, _, _, _, _, _, _, _, _, _, _, _, .inl ⟨rfl, out, HSN.out, HLE.out, rfl⟩, HFIN.out⟩
  by_cases e1 : K = 1 ∧ x.tmod 5 = 0
  · obtain ⟨rfl, e5⟩ := e1
    clear e0
    go_wp2_with fail
    refine wp_region_noPanic ?_
    refine wp_region_held_drew (S := fun u => ∃ v1 v2 : Value, u.heap[wb]? = some (.cells #[.slice ta T.length tc, v1, v2, .slice ga s.got.length gc, .slice la s.held.length lc, .slice na s.net.length nc, .bool false] 57 (0, 0))) (by kernel_rfl) ⟨_, _, HWW.out.row⟩ (fun hS0 => ?_)
    have HS0 := Lib.hid hS0
    clear hS0
    have HWD := Lib.hid (HWW.out.below (Below.refl _ w).drew)
    have HBD : Hid (Below B0 w w.drew) := (Below.refl B0 w).drew
    refine take_val 0 (.pointer (some ⟨wb, 0, none⟩)) rfl (by kernel_rfl) (by kernel_rfl) (by kernel_rfl) (fun _ _ _ _ h => h) (by rfl) rfl (fun wz hS => by go_simp) HS0.out ?_
    try simp only [List.set_cons_zero, List.set_cons_succ]
    refine take_val 1 (.pointer (some ⟨wb, 0, none⟩)) rfl (by kernel_rfl) (by kernel_rfl) (by kernel_rfl) (fun _ _ _ _ h => h) (by rfl) rfl (fun wz hS => by go_simp) HS0.out ?_
    try simp only [List.set_cons_zero, List.set_cons_succ]
    refine take_val 2 (.pointer (some ⟨wb, 0, none⟩)) rfl (by kernel_rfl) (by kernel_rfl) (by kernel_rfl) (fun _ _ _ _ h => h) (by rfl) rfl (fun wz hS => by go_simp) HS0.out ?_
    try simp only [List.set_cons_zero, List.set_cons_succ]
    refine take_val 3 (.pointer (some ⟨wb, 0, none⟩)) rfl (by kernel_rfl) (by kernel_rfl) (by kernel_rfl) (fun _ _ _ _ h => h) (by rfl) rfl (fun wz hS => by go_simp) HS0.out ?_
    try simp only [List.set_cons_zero, List.set_cons_succ]
    refine take_val 4 (.pointer (some ⟨wb, 0, none⟩)) rfl (by kernel_rfl) (by kernel_rfl) (by kernel_rfl) (fun _ _ _ _ h => h) (by rfl) rfl (fun wz hS => by go_simp) HS0.out ?_
    try simp only [List.set_cons_zero, List.set_cons_succ]
    refine take_val 5 (.slice ta T.length tc) rfl (by kernel_rfl) (by kernel_rfl) (by kernel_rfl) (fun _ _ _ _ h => h) (by rfl) rfl (fun wz hS => by (obtain ⟨v1, v2, hS⟩ := hS; have r0 := cell_of_row _ _ 0 _ _ _ hS; simp only [List.getElem?_toArray, List.getElem?_cons_zero] at r0; go_simp)) HS0.out ?_
    try simp only [List.set_cons_zero, List.set_cons_succ]
    refine take_val 6 (.pointer (some ⟨wb, 0, none⟩)) rfl (by kernel_rfl) (by kernel_rfl) (by kernel_rfl) (fun _ _ _ _ h => h) (by rfl) rfl (fun wz hS => by go_simp) HS0.out ?_
    try simp only [List.set_cons_zero, List.set_cons_succ]
    refine take_val 7 (.pointer (some ⟨wb, 0, none⟩)) rfl (by kernel_rfl) (by kernel_rfl) (by kernel_rfl) (fun _ _ _ _ h => h) (by rfl) rfl (fun wz hS => by go_simp) HS0.out ?_
    try simp only [List.set_cons_zero, List.set_cons_succ]
    refine take_val 8 (.pointer (some ⟨wb, 0, none⟩)) rfl (by kernel_rfl) (by kernel_rfl) (by kernel_rfl) (fun _ _ _ _ h => h) (by rfl) rfl (fun wz hS => by go_simp) HS0.out ?_
    try simp only [List.set_cons_zero, List.set_cons_succ]
    refine take_val 9 (.pointer (some ⟨wb, 0, none⟩)) rfl (by kernel_rfl) (by kernel_rfl) (by kernel_rfl) (fun _ _ _ _ h => h) (by rfl) rfl (fun wz hS => by go_simp) HS0.out ?_
    try simp only [List.set_cons_zero, List.set_cons_succ]
    refine take_val 10 (.slice ta T.length tc) rfl (by kernel_rfl) (by kernel_rfl) (by kernel_rfl) (fun _ _ _ _ h => h) (by rfl) rfl (fun wz hS => by (obtain ⟨v1, v2, hS⟩ := hS; have r0 := cell_of_row _ _ 0 _ _ _ hS; simp only [List.getElem?_toArray, List.getElem?_cons_zero] at r0; go_simp)) HS0.out ?_
    try simp only [List.set_cons_zero, List.set_cons_succ]
    refine take_val 11 (.int .i64 (T.length : Int)) rfl (by kernel_rfl) (by kernel_rfl) (by kernel_rfl) (fun _ _ _ _ h => h) (by rfl) rfl (fun wz hS => by go_simp) HS0.out ?_
    try simp only [List.set_cons_zero, List.set_cons_succ]
    refine one_ready 12 (by kernel_rfl) rfl (by rfl) (fun K hK => ?_)
    refine wp_value_run (v := .slice (some ⟨w.drew.heap.size, 0, none⟩) T.length T.length) (w' := w.drew.alloc (.cells ((List.replicate T.length false).flatMap boC).toArray 4)) (by have hmk := run_make_boolsL T.length (by have := HT.out.1; omega) w.drew; go_simp) ?_
    have HW3 := Lib.hid (HWD.out.below ((Below.refl w.drew.heap.size w.drew).alloc (Nat.le_refl _) (.cells ((List.replicate T.length false).flatMap boC).toArray 4)))
    have HSR := Lib.hid (sat_replicate T.length w.drew)
    have HB3 := Lib.hid (HBD.out.alloc (by have := HLT.out; have := HB0.out; show _ ≤ w.heap.size; omega) (.cells ((List.replicate T.length false).flatMap boC).toArray 4))
    refine hK.out _ _ ⟨_, _, HW3.out.row⟩ ?_
    clear hK K
    try simp only [Act.put, List.setIfInBounds_toArray]
    try simp only [List.set_cons_zero, List.set_cons_succ]
    refine take_val 13 (.agg #[.slice ta T.length tc, .slice (some ⟨w.drew.heap.size, 0, none⟩) T.length T.length, .int .i64 0]) rfl (by kernel_rfl) (by kernel_rfl) (by kernel_rfl) (fun _ _ _ _ h => h) (by rfl) rfl (fun wz hS => by go_simp) ⟨_, _, HW3.out.row⟩ ?_
    try simp only [List.set_cons_zero, List.set_cons_succ]
    refine take_val 14 (.pointer (some ⟨wb, 0, none⟩)) rfl (by kernel_rfl) (by kernel_rfl) (by kernel_rfl) (fun _ _ _ _ h => h) (by rfl) rfl (fun wz hS => by go_simp) ⟨_, _, HW3.out.row⟩ ?_
    try simp only [List.set_cons_zero, List.set_cons_succ]
    refine take_val 15 (.pointer (some ⟨wb, 0, none⟩)) rfl (by kernel_rfl) (by kernel_rfl) (by kernel_rfl) (fun _ _ _ _ h => h) (by rfl) rfl (fun wz hS => by go_simp) ⟨_, _, HW3.out.row⟩ ?_
    try simp only [List.set_cons_zero, List.set_cons_succ]
    refine one_ready 16 (by kernel_rfl) rfl (by rfl) (fun K hK => ?_)
    refine wp_store_mid 25 _ _ rfl wb 0 #[.slice ta T.length tc, .slice (some ⟨w.drew.heap.size, 0, none⟩) T.length T.length, .int .i64 0] rfl rfl (there_part HW3.out.row (show 0 + 3 ≤ 7 from by decide)) HIS.out (sender_one _ _ _ _ _ _ _) ?_
    have hlr : (List.replicate T.length false).length = T.length := List.length_replicate
    have HFS := Lib.hid (HW3.out.sender (b := 0) (tc' := tc) (hc' := T.length) HW3.out.t (LAt.fresh HSR.out (B := w.drew.heap.size) (fun ad e => by cases e; exact Nat.le_refl _) HLT.out HWW.out.na_lt))
    rw [hlr] at HFS
    clear hlr
    have HBF := Lib.hid (below_setCells HB0.out [.slice ta T.length tc, .slice (some ⟨w.drew.heap.size, 0, none⟩) T.length T.length, .int .i64 0] 0 HB3.out)
    refine hK.out _ _ ⟨_, _, HFS.out.row⟩ ?_
    clear hK K
    try simp only [Act.put, List.setIfInBounds_toArray]
    try simp only [List.set_cons_zero, List.set_cons_succ]
    refine wpAnyH_done (by kernel_rfl) ?_ _
    refine NoPanic.normal ?_
    go_wp2_with fail
    first | go_end0 | refine bodyPost_ret (results_none rfl _ _ _) rfl ?_
    exact ⟨rfl, HBF.out, _, _, _, _, _, _, _, _, _, _, _, .inr (.inl ⟨rfl, rfl⟩), HFS.out⟩
  by_cases e2 : K = 1
  · have e5 : ¬ x.tmod 5 = 0 := fun h => e1 ⟨e2, h⟩
    obtain rfl := e2
    clear e0 e1
    have r0 := cell_of_row _ _ 0 _ _ _ HWW.out.row
    have r1 := cell_of_row _ _ 1 _ _ _ HWW.out.row
    have r2 := cell_of_row _ _ 2 _ _ _ HWW.out.row
    have r3 := cell_of_row _ _ 3 _ _ _ HWW.out.row
    have r4 := cell_of_row _ _ 4 _ _ _ HWW.out.row
    have r5 := cell_of_row _ _ 5 _ _ _ HWW.out.row
    have r6 := cell_of_row _ _ 6 _ _ _ HWW.out.row
    have f5 := frozen_of_row _ _ 5 _ _ HWW.out.row
    have f6 := frozen_of_row _ _ 6 _ _ HWW.out.row
    simp only [List.getElem?_toArray, List.getElem?_cons_succ, List.getElem?_cons_zero] at r0 r1 r2 r3 r4 r5 r6
    have HK0 : Hid ((1 : Int).toNat ≠ 0) := by show _ ≠ _; decide
    by_cases hnl : s.net.length = 0
    · have hnz : (s.net.length : Int) = 0 := by omega
      go_wp2_with fail
      first | go_end0 | refine bodyPost_ret (results_none rfl _ _ _) rfl ?_
      exact ⟨rfl, Below.refl _ _, _, _, _, _, _, _, _, _, _, _, _, .inr (.inr (.inl ⟨HK0.out, List.length_eq_zero_iff.1 hnl, rfl⟩)), HWW.out⟩
    have hnz : ¬ (s.net.length : Int) = 0 := by omega
    have hnp : 0 < s.net.length := by omega
    go_wp2_with fail
    refine (rest_eq (x.tdiv 9) (s.net.length : Int) w (by omega) (by omega)).mono ?_
    rintro e w1 ⟨⟨i, hi, heq, rfl⟩, hw1⟩
    obtain rfl := hw1.symm
    clear hw1 heq
    have hil : i < s.net.length := by omega
    have HIL := Lib.hid hil
    obtain ⟨p, hp⟩ : ∃ p, s.net[i] = p := ⟨_, rfl⟩
    obtain ⟨pk, pq, px⟩ := p
    obtain ⟨g, off, hna, hg, c0, c1, c2⟩ := SAt.packet (sat_own1 pkC_length HWW.out.own) i hil (pk, pq, px) hp
    subst hna
    simp only at c0 c1 c2
    have HPE : Hid (s.net[i] = (pk, pq, px)) := hp
    clear hp hg
    have m0 : (0 : Int) ≤ (i : Int) := Int.natCast_nonneg _
    have HWA := Lib.hid (HWW.out.below ((Below.refl w.heap.size w).alloc (Nat.le_refl _) (.cells #[.int .i64 pk, .int .i64 pq, .string px] 30)))
    have HPA : Hid ((w.alloc (.cells #[.int .i64 pk, .int .i64 pq, .string px] 30)).heap[w.heap.size]? = some (.cells #[.int .i64 pk, .int .i64 pq, .string px] 30 (0, 0))) := heap_alloc_new w _
    have HBA : Hid (Below B0 w (w.alloc (.cells #[.int .i64 pk, .int .i64 pq, .string px] 30))) := (Below.refl B0 w).alloc (Nat.le_trans HB0.out (Nat.le_of_lt HLT.out)) _
    have HSA : Hid (SAt 3 pkC (w.alloc (.cells #[.int .i64 pk, .int .i64 pq, .string px] 30)) (some ⟨g, off, none⟩) s.net) := sat_own1 pkC_length HWA.out.own
    have a0 := cell_of_row _ _ 0 _ _ _ HWA.out.row
    have a1 := cell_of_row _ _ 1 _ _ _ HWA.out.row
    have a2 := cell_of_row _ _ 2 _ _ _ HWA.out.row
    have a3 := cell_of_row _ _ 3 _ _ _ HWA.out.row
    have a4 := cell_of_row _ _ 4 _ _ _ HWA.out.row
    have a5 := cell_of_row _ _ 5 _ _ _ HWA.out.row
    have a6 := cell_of_row _ _ 6 _ _ _ HWA.out.row
    have b5 := frozen_of_row _ _ 5 _ _ HWA.out.row
    have b6 := frozen_of_row _ _ 6 _ _ HWA.out.row
    simp only [List.getElem?_toArray, List.getElem?_cons_succ, List.getElem?_cons_zero] at a0 a1 a2 a3 a4 a5 a6
    go_wp2_with fail
    refine (cloneK_any (some ⟨g, off, none⟩) nc s.net _ HSA.out (by omega)).mono ?_
    rintro e w2 ⟨hb2, a2, cc, rfl, hown2⟩
    obtain ⟨g2, rfl⟩ : ∃ g2, a2 = some ⟨g2, 0, none⟩ := by
      rcases hown2.2 with ⟨h1, h2⟩ | ⟨g', cap', cur, h1, _⟩
      · omega
      · injection h1 with h2; exact ⟨g', h2⟩
    have HO2 := Lib.hid hown2
    have HB2 := Lib.hid hb2
    have HG2 : Hid ((w.alloc (.cells #[.int .i64 pk, .int .i64 pq, .string px] 30)).heap.size ≤ g2) := (own_block hown2).1
    clear hown2 hb2
    go_wp2_with fail
    refine (delete_any _ g2 cc s.net i _ HO2.out HIL.out).mono ?_
    rintro e w3 ⟨hgr, rfl, hown3⟩
    have HB3 := Lib.hid (below_grown HB2.out hgr HB2.out.size HG2.out)
    have HW3 := Lib.hid (HWA.out.below HB3.out)
    have HO3 := Lib.hid hown3
    clear hgr hown3
    clear r0 r1 r2 r3 r4 r5 r6 f5 f6 c0 c1 c2 a0 a1 a2 a3 a4 a5 a6 b5 b6
    have r0 := cell_of_row _ _ 0 _ _ _ HW3.out.row
    have r1 := cell_of_row _ _ 1 _ _ _ HW3.out.row
    have r2 := cell_of_row _ _ 2 _ _ _ HW3.out.row
    have r3 := cell_of_row _ _ 3 _ _ _ HW3.out.row
    have r4 := cell_of_row _ _ 4 _ _ _ HW3.out.row
    have r5 := cell_of_row _ _ 5 _ _ _ HW3.out.row
    have r6 := cell_of_row _ _ 6 _ _ _ HW3.out.row
    have f5 := frozen_of_row _ _ 5 _ _ HW3.out.row
    have f6 := frozen_of_row _ _ 6 _ _ HW3.out.row
    simp only [List.getElem?_toArray, List.getElem?_cons_succ, List.getElem?_cons_zero] at r0 r1 r2 r3 r4 r5 r6
    obtain ⟨NL, hNL⟩ : ∃ NL, s.net.length - 1 = NL := ⟨_, rfl⟩
    rw [hNL]
    have HNE : Hid (NL = (s.net.take i ++ s.net.drop (i + 1)).length) := by show _ = _; rw [← hNL]; simp only [List.length_append, List.length_take, List.length_drop]; omega
    have HO4 : Hid (w3.ownsRow B0 30 3 (.slice (some ⟨g2, 0, none⟩) NL cc) NL ((s.net.take i ++ s.net.drop (i + 1)).flatMap pkC)) := by
      have h := own_mono HO3.out (show B0 ≤ (w.alloc (.cells #[.int .i64 pk, .int .i64 pq, .string px] 30)).heap.size from by have := HB0.out; have := HLT.out; have := HWA.out.row; have h5 := lt_of_block this; omega)
      rw [hNL] at h
      exact h
    have HW4 : Hid (WSt B0 wb T ⟨s.had, s.b, s.got, s.held, s.net.take i ++ s.net.drop (i + 1)⟩ ta tc ha hc ga gc la lc (some ⟨g2, 0, none⟩) cc (w3.setCell ⟨wb, 5, none⟩ (.slice (some ⟨g2, 0, none⟩) NL cc))) := by
      have e := HNE.out
      have h := HO4.out
      subst e
      exact HWA.out.net (below_grown2 HB3.out) (fun nd e => by cases e; exact .inr HG2.out) h
    have HP4 : Hid ((w3.setCell ⟨wb, 5, none⟩ (.slice (some ⟨g2, 0, none⟩) NL cc)).heap[w.heap.size]? = some (.cells #[.int .i64 pk, .int .i64 pq, .string px] 30 (0, 0))) := by
      show _ = _
      rw [heap_setCell_other _ ⟨wb, 5, none⟩ _ _ (by have := HLT.out; simp only; omega), HB3.out.block _ (lt_of_block HPA.out)]
      exact HPA.out
    have HB4 := Lib.hid (below_setCells HB0.out [.slice (some ⟨g2, 0, none⟩) NL cc] 5 (Below.trans HBA.out (HB3.out.mono (Nat.le_trans HB0.out (Nat.le_of_lt (lt_of_block HWA.out.row))))))
    clear hNL
    have q0 := cell_of_row _ _ 0 _ _ _ HP4.out
    have q1 := cell_of_row _ _ 1 _ _ _ HP4.out
    have q2 := cell_of_row _ _ 2 _ _ _ HP4.out
    simp only [List.getElem?_toArray, List.getElem?_cons_succ, List.getElem?_cons_zero] at q0 q1 q2
    go_wp2_with fail
    refine (arrives_any B0 wb T (pk, pq, px) ⟨s.had, s.b, s.got, s.held, s.net.take i ++ s.net.drop (i + 1)⟩ ta tc ha hc ga gc la lc _ _ _ HW4.out HLI.out.1 HT.out (by simp only [List.length_append, List.length_take, List.length_drop]; omega)).mono ?_
    rintro e u9 ⟨rfl, hb9, s9, ta9, tc9, ha9, hc9, ga9, gc9, la9, lc9, na9, nc9, harr, hw9⟩
    have H9 := Lib.hid hw9
    have HA9 := Lib.hid harr
    have HB9 := Lib.hid (HB4.out.trans hb9)
    clear hw9 harr hb9
    go_wp2_with fail
    first | go_end0 | refine bodyPost_ret (results_none rfl _ _ _) rfl ?_
    exact ⟨rfl, HB9.out, s9, _, _, _, _, _, _, _, _, _, _, .inr (.inr (.inr ⟨HK0.out, i, HIL.out, _, .inr ⟨by decide, by decide, rfl⟩, .inr ⟨by decide, Eq.mpr (congrArg (fun z => Arr (⟨#[]⟩ : ByteArray) z _ s9) HPE.out) HA9.out⟩⟩)), H9.out⟩
  · clear e1
    have r0 := cell_of_row _ _ 0 _ _ _ HWW.out.row
    have r1 := cell_of_row _ _ 1 _ _ _ HWW.out.row
    have r2 := cell_of_row _ _ 2 _ _ _ HWW.out.row
    have r3 := cell_of_row _ _ 3 _ _ _ HWW.out.row
    have r4 := cell_of_row _ _ 4 _ _ _ HWW.out.row
    have r5 := cell_of_row _ _ 5 _ _ _ HWW.out.row
    have r6 := cell_of_row _ _ 6 _ _ _ HWW.out.row
    have f5 := frozen_of_row _ _ 5 _ _ HWW.out.row
    have f6 := frozen_of_row _ _ 6 _ _ HWW.out.row
    simp only [List.getElem?_toArray, List.getElem?_cons_succ, List.getElem?_cons_zero] at r0 r1 r2 r3 r4 r5 r6
    have HK0 : Hid (K.toNat ≠ 0) := by show _ ≠ _; omega
    by_cases hnl : s.net.length = 0
    · have hnz : (s.net.length : Int) = 0 := by omega
      go_wp2_with fail
      first | go_end0 | refine bodyPost_ret (results_none rfl _ _ _) rfl ?_
      exact ⟨rfl, Below.refl _ _, _, _, _, _, _, _, _, _, _, _, _, .inr (.inr (.inl ⟨HK0.out, List.length_eq_zero_iff.1 hnl, rfl⟩)), HWW.out⟩
    have hnz : ¬ (s.net.length : Int) = 0 := by omega
    have hnp : 0 < s.net.length := by omega
    go_wp2_with fail
    refine (rest_eq (x.tdiv 9) (s.net.length : Int) w (by omega) (by omega)).mono ?_
    rintro e w1 ⟨⟨i, hi, heq, rfl⟩, hw1⟩
    obtain rfl := hw1.symm
    clear hw1 heq
    have hil : i < s.net.length := by omega
    have HIL := Lib.hid hil
    obtain ⟨p, hp⟩ : ∃ p, s.net[i] = p := ⟨_, rfl⟩
    obtain ⟨pk, pq, px⟩ := p
    obtain ⟨g, off, hna, hg, c0, c1, c2⟩ := SAt.packet (sat_own1 pkC_length HWW.out.own) i hil (pk, pq, px) hp
    subst hna
    simp only at c0 c1 c2
    have HPE : Hid (s.net[i] = (pk, pq, px)) := hp
    clear hp hg
    have m0 : (0 : Int) ≤ (i : Int) := Int.natCast_nonneg _
    have HWA := Lib.hid (HWW.out.below ((Below.refl w.heap.size w).alloc (Nat.le_refl _) (.cells #[.int .i64 pk, .int .i64 pq, .string px] 30)))
    have HPA : Hid ((w.alloc (.cells #[.int .i64 pk, .int .i64 pq, .string px] 30)).heap[w.heap.size]? = some (.cells #[.int .i64 pk, .int .i64 pq, .string px] 30 (0, 0))) := heap_alloc_new w _
    have HBA : Hid (Below B0 w (w.alloc (.cells #[.int .i64 pk, .int .i64 pq, .string px] 30))) := (Below.refl B0 w).alloc (Nat.le_trans HB0.out (Nat.le_of_lt HLT.out)) _
    by_cases k2 : K = 2
    · obtain rfl := k2
      have q0 := cell_of_row _ _ 0 _ _ _ HPA.out
      have q1 := cell_of_row _ _ 1 _ _ _ HPA.out
      have q2 := cell_of_row _ _ 2 _ _ _ HPA.out
      simp only [List.getElem?_toArray, List.getElem?_cons_succ, List.getElem?_cons_zero] at q0 q1 q2
      go_wp2_with fail
      refine (arrives_any B0 wb T (pk, pq, px) ⟨s.had, s.b, s.got, s.held, s.net⟩ ta tc ha hc ga gc la lc _ _ _ HWA.out HLI.out.1 HT.out (by show s.net.length ≤ 4000; omega)).mono ?_
      rintro e u9 ⟨rfl, hb9, s9, ta9, tc9, ha9, hc9, ga9, gc9, la9, lc9, na9, nc9, harr, hw9⟩
      have H9 := Lib.hid hw9
      have HA9 := Lib.hid harr
      have HB9 := Lib.hid (HBA.out.trans hb9)
      clear hw9 harr hb9
      go_wp2_with fail
      first | go_end0 | refine bodyPost_ret (results_none rfl _ _ _) rfl ?_
      exact ⟨rfl, HB9.out, s9, _, _, _, _, _, _, _, _, _, _, .inr (.inr (.inr ⟨HK0.out, i, HIL.out, _, .inl ⟨by decide, rfl⟩, .inr ⟨by decide, Eq.mpr (congrArg (fun z => Arr (⟨#[]⟩ : ByteArray) z _ s9) HPE.out) HA9.out⟩⟩)), H9.out⟩

    by_cases k3 : K = 3
    · obtain rfl := k3
      have q0 := cell_of_row _ _ 0 _ _ _ HPA.out
      have q1 := cell_of_row _ _ 1 _ _ _ HPA.out
      have q2 := cell_of_row _ _ 2 _ _ _ HPA.out
      simp only [List.getElem?_toArray, List.getElem?_cons_succ, List.getElem?_cons_zero] at q0 q1 q2
      go_wp2_with fail
      refine (arrives_any B0 wb T (pk, pq, px) ⟨s.had, s.b, s.got, s.held, s.net⟩ ta tc ha hc ga gc la lc _ _ _ HWA.out HLI.out.1 HT.out (by show s.net.length ≤ 4000; omega)).mono ?_
      rintro e u9 ⟨rfl, hb9, s9, ta9, tc9, ha9, hc9, ga9, gc9, la9, lc9, na9, nc9, harr, hw9⟩
      have H9 := Lib.hid hw9
      have HA9 := Lib.hid harr
      have HB9 := Lib.hid (HBA.out.trans hb9)
      clear hw9 harr hb9
      go_wp2_with fail
      first | go_end0 | refine bodyPost_ret (results_none rfl _ _ _) rfl ?_
      exact ⟨rfl, HB9.out, s9, _, _, _, _, _, _, _, _, _, _, .inr (.inr (.inr ⟨HK0.out, i, HIL.out, _, .inl ⟨by decide, rfl⟩, .inr ⟨by decide, Eq.mpr (congrArg (fun z => Arr (⟨#[]⟩ : ByteArray) z _ s9) HPE.out) HA9.out⟩⟩)), H9.out⟩

    have HK2 := Lib.hid k2
    have HK3 := Lib.hid k3
    have n2 : (K != 2) = true := by simpa using k2
    have n3 : (K != 3) = true := by simpa using k3
    have HSA : Hid (SAt 3 pkC (w.alloc (.cells #[.int .i64 pk, .int .i64 pq, .string px] 30)) (some ⟨g, off, none⟩) s.net) := sat_own1 pkC_length HWA.out.own
    have a0 := cell_of_row _ _ 0 _ _ _ HWA.out.row
    have a1 := cell_of_row _ _ 1 _ _ _ HWA.out.row
    have a2 := cell_of_row _ _ 2 _ _ _ HWA.out.row
    have a3 := cell_of_row _ _ 3 _ _ _ HWA.out.row
    have a4 := cell_of_row _ _ 4 _ _ _ HWA.out.row
    have a5 := cell_of_row _ _ 5 _ _ _ HWA.out.row
    have a6 := cell_of_row _ _ 6 _ _ _ HWA.out.row
    have b5 := frozen_of_row _ _ 5 _ _ HWA.out.row
    have b6 := frozen_of_row _ _ 6 _ _ HWA.out.row
    simp only [List.getElem?_toArray, List.getElem?_cons_succ, List.getElem?_cons_zero] at a0 a1 a2 a3 a4 a5 a6
    go_wp2_with fail
    refine (cloneK_any (some ⟨g, off, none⟩) nc s.net _ HSA.out (by omega)).mono ?_
    rintro e w2 ⟨hb2, a2, cc, rfl, hown2⟩
    obtain ⟨g2, rfl⟩ : ∃ g2, a2 = some ⟨g2, 0, none⟩ := by
      rcases hown2.2 with ⟨h1, h2⟩ | ⟨g', cap', cur, h1, _⟩
      · omega
      · injection h1 with h2; exact ⟨g', h2⟩
    have HO2 := Lib.hid hown2
    have HB2 := Lib.hid hb2
    have HG2 : Hid ((w.alloc (.cells #[.int .i64 pk, .int .i64 pq, .string px] 30)).heap.size ≤ g2) := (own_block hown2).1
    clear hown2 hb2
    go_wp2_with fail
    refine (delete_any _ g2 cc s.net i _ HO2.out HIL.out).mono ?_
    rintro e w3 ⟨hgr, rfl, hown3⟩
    have HB3 := Lib.hid (below_grown HB2.out hgr HB2.out.size HG2.out)
    have HW3 := Lib.hid (HWA.out.below HB3.out)
    have HO3 := Lib.hid hown3
    clear hgr hown3
    clear r0 r1 r2 r3 r4 r5 r6 f5 f6 c0 c1 c2 a0 a1 a2 a3 a4 a5 a6 b5 b6
    have r0 := cell_of_row _ _ 0 _ _ _ HW3.out.row
    have r1 := cell_of_row _ _ 1 _ _ _ HW3.out.row
    have r2 := cell_of_row _ _ 2 _ _ _ HW3.out.row
    have r3 := cell_of_row _ _ 3 _ _ _ HW3.out.row
    have r4 := cell_of_row _ _ 4 _ _ _ HW3.out.row
    have r5 := cell_of_row _ _ 5 _ _ _ HW3.out.row
    have r6 := cell_of_row _ _ 6 _ _ _ HW3.out.row
    have f5 := frozen_of_row _ _ 5 _ _ HW3.out.row
    have f6 := frozen_of_row _ _ 6 _ _ HW3.out.row
    simp only [List.getElem?_toArray, List.getElem?_cons_succ, List.getElem?_cons_zero] at r0 r1 r2 r3 r4 r5 r6
    obtain ⟨NL, hNL⟩ : ∃ NL, s.net.length - 1 = NL := ⟨_, rfl⟩
    rw [hNL]
    have HNE : Hid (NL = (s.net.take i ++ s.net.drop (i + 1)).length) := by show _ = _; rw [← hNL]; simp only [List.length_append, List.length_take, List.length_drop]; omega
    have HO4 : Hid (w3.ownsRow B0 30 3 (.slice (some ⟨g2, 0, none⟩) NL cc) NL ((s.net.take i ++ s.net.drop (i + 1)).flatMap pkC)) := by
      have h := own_mono HO3.out (show B0 ≤ (w.alloc (.cells #[.int .i64 pk, .int .i64 pq, .string px] 30)).heap.size from by have := HB0.out; have := HLT.out; have := HWA.out.row; have h5 := lt_of_block this; omega)
      rw [hNL] at h
      exact h
    have HW4 : Hid (WSt B0 wb T ⟨s.had, s.b, s.got, s.held, s.net.take i ++ s.net.drop (i + 1)⟩ ta tc ha hc ga gc la lc (some ⟨g2, 0, none⟩) cc (w3.setCell ⟨wb, 5, none⟩ (.slice (some ⟨g2, 0, none⟩) NL cc))) := by
      have e := HNE.out
      have h := HO4.out
      subst e
      exact HWA.out.net (below_grown2 HB3.out) (fun nd e => by cases e; exact .inr HG2.out) h
    have HP4 : Hid ((w3.setCell ⟨wb, 5, none⟩ (.slice (some ⟨g2, 0, none⟩) NL cc)).heap[w.heap.size]? = some (.cells #[.int .i64 pk, .int .i64 pq, .string px] 30 (0, 0))) := by
      show _ = _
      rw [heap_setCell_other _ ⟨wb, 5, none⟩ _ _ (by have := HLT.out; simp only; omega), HB3.out.block _ (lt_of_block HPA.out)]
      exact HPA.out
    have HB4 := Lib.hid (below_setCells HB0.out [.slice (some ⟨g2, 0, none⟩) NL cc] 5 (Below.trans HBA.out (HB3.out.mono (Nat.le_trans HB0.out (Nat.le_of_lt (lt_of_block HWA.out.row))))))
    clear hNL
    by_cases k4 : K = 4
    · obtain rfl := k4
      go_wp2_with fail
      first | go_end0 | refine bodyPost_ret (results_none rfl _ _ _) rfl ?_
      exact ⟨rfl, HB4.out, _, _, _, _, _, _, _, _, _, _, _, .inr (.inr (.inr ⟨HK0.out, i, HIL.out, _, .inr ⟨by decide, by decide, rfl⟩, .inl ⟨rfl, rfl⟩⟩)), HW4.out⟩
    · have HK4 := Lib.hid k4
      have n4 : (K != 4) = true := by simpa using k4
      have q0 := cell_of_row _ _ 0 _ _ _ HP4.out
      have q1 := cell_of_row _ _ 1 _ _ _ HP4.out
      have q2 := cell_of_row _ _ 2 _ _ _ HP4.out
      simp only [List.getElem?_toArray, List.getElem?_cons_succ, List.getElem?_cons_zero] at q0 q1 q2
      go_wp2_with fail
      refine (arrives_any B0 wb T (pk, pq, px) ⟨s.had, s.b, s.got, s.held, s.net.take i ++ s.net.drop (i + 1)⟩ ta tc ha hc ga gc la lc _ _ _ HW4.out HLI.out.1 HT.out (by simp only [List.length_append, List.length_take, List.length_drop]; omega)).mono ?_
      rintro e u9 ⟨rfl, hb9, s9, ta9, tc9, ha9, hc9, ga9, gc9, la9, lc9, na9, nc9, harr, hw9⟩
      have H9 := Lib.hid hw9
      have HA9 := Lib.hid harr
      have HB9 := Lib.hid (HB4.out.trans hb9)
      clear hw9 harr hb9
      go_wp2_with fail
      first | go_end0 | refine bodyPost_ret (results_none rfl _ _ _) rfl ?_
      exact ⟨rfl, HB9.out, s9, _, _, _, _, _, _, _, _, _, _, .inr (.inr (.inr ⟨HK0.out, i, HIL.out, _, .inr ⟨by have := HK2.out; omega, by have := HK3.out; omega, rfl⟩, .inr ⟨by have := HK4.out; omega, Eq.mpr (congrArg (fun z => Arr (⟨#[]⟩ : ByteArray) z _ s9) HPE.out) HA9.out⟩⟩)), H9.out⟩


end Go.Proofs.Ytinjnclpiiohcaa
