/- shield.Check. Printed by gen_shieldver.py. -/
import Derived.Test.YtigdpmeeibkifaaDoorShieldMend
namespace Go.Proofs.YtigdpmeeibkifaaDoor
open Go.RowKit Plain
set_option linter.unusedVariables false
set_option linter.unusedSimpArgs false
/-- what a shard ought to be, by the parts -/
def ought (l : List ShT) (n : Nat) (N : Mtx) (i : Nat) : ByteArray := strOf (comb (szS l (first0 l)) n (rowF n i) (outsM l n N n))
def VEnd (l : List ShT) (m : Int) (w0 : World) (e : Ending) (w : World) : Prop := Below w0.heap.size w0 w ∧ ∃ c : Nat, e = .returned (.int .i64 (c : Int)) ∧
  ((c ≠ 0 ∧ BadC l m c) ∨ (∃ (n : Nat) (N : Mtx), m = (n : Int) ∧ AOk l m ∧ POk l ∧ n ≤ (pres l).length ∧ Mended l n N ∧
    ((c = 0 ∧ ∀ i, i < l.length → (shG l i).1 = true → (shG l i).2 = ought l n N i) ∨ (c = 6 ∧ ∃ i, i < l.length ∧ (shG l i).1 = true ∧ (shG l i).2 ≠ ought l n N i))))
theorem outsM_size {l : List ShT} {n : Nat} {N : Mtx} : ∀ s ∈ outsM l n N n, s.size = szS l (first0 l) := by
  intro s hs
  obtain ⟨r, _, rfl⟩ := List.mem_map.1 hs
  rw [strOf_size]
  exact mapr_length _ _
theorem toList_eq {a b : ByteArray} : (a.toList == b.toList) = decide (a = b) := by
  rw [ByteArray.toList_eq, ByteArray.toList_eq]
  by_cases h : a = b
  · subst h; simp
  · have : a.data.toList ≠ b.data.toList := fun e => h (by
      cases a; cases b
      simp only at e
      congr 1
      exact Array.toList_inj.1 e)
    have h2 : ¬ a.data = b.data := fun e => this (by rw [e])
    simp [h, h2]
set_option maxRecDepth 100000 in
set_option maxHeartbeats 8000000 in
theorem ver_any (a : Option Addr) (cap : Nat) (l : List ShT) (m : Int) (w : World) (hS : SAt 2 shC w a l) (hl : l.length ≤ 9223372036854775807) (hm : I64 m) :
    Calls Tryd.prog 9 #[.slice a l.length cap, .int .i64 m] w (VEnd l m w) := by
  have HS := Lib.hid hS
  have HMC := Lib.hid (mend_any a cap l m w hS hl hm)
  clear hS
  go_enter Tryd.func9, Tryd.ntmps9
  go_wp2_with fail
  refine HMC.out.mono ?_
  rintro e w1 ⟨hb1, ⟨n, oa, oc, N, rfl, rfl, hA, hP, hnp, hmd, hown⟩ | ⟨c, rfl, hc0, hbad⟩⟩
  · have HB1 := Lib.hid hb1
    have HA := Lib.hid hA
    have HP := Lib.hid hP
    have HNP := Lib.hid hnp
    have HMD := Lib.hid hmd
    have hn1 : 1 ≤ n := by have := hA.1; omega
    have hn16 : n ≤ 16 := by have := hA.2.1; omega
    have hl8 : l.length ≤ n + 8 := by have := hA.2.2.2; omega
    have htl : w1.ownsRow w.heap.size 9 1 (.slice oa (outsM l n N n).length oc) (outsM l n N n).length ((outsM l n N n).flatMap sC) := by rw [outsM_length]; exact hown
    have HSX := Lib.hid (sat_own1 (c := sC) (fun _ => rfl) htl)
    have HS1 := Lib.hid (HS.out.below hb1)
    obtain ⟨og, oo, rfl, hox⟩ := str_cell HSX.out 0 (by rw [outsM_length]; omega)
    obtain ⟨p0, hp0⟩ : ∃ s, (outsM l n N n)[0]'(by rw [outsM_length]; omega) = s := ⟨_, rfl⟩
    have hps : p0.size = szS l (first0 l) := by rw [← hp0]; exact outsM_size _ (List.getElem_mem _)
    rw [hp0] at hox
    simp only [Nat.add_zero] at hox
    have hL : szS l (first0 l) ≤ 4096 := by
      have h0 : 0 < (pres l).length := by omega
      have := hP (prs l 0) (prs_mem h0)
      omega
    have HOX : Hid (∀ W, Below w1.heap.size w1 W → W.cell? ⟨og, oo, none⟩ = some (.string p0)) := Lib.hid fun W hb => (hb.cell (World.block_lt_of_cell? w1 _ hox)).trans hox
    have HCB := Lib.hid fun (i B : Nat) (W : World) (hB : BRow W 5 B (mapr n (rowF n i))) (hb : Below w1.heap.size w1 W) => combine_any B n (szS l (first0 l)) (rowF n i) (some ⟨og, oo, none⟩) oc (outsM l n N n) W hB (rowF_byt n i) (HSX.out.below hb) (outsM_length l n N n) hn16 hL outsM_size
    rw [← hps] at HCB
    have HPS := Lib.hid hps
    clear hb1 hA hP hnp hmd hown htl hox hp0 hps hL HS HMC
    go_wp2_with fail
    go_loopw [20] (fun iv wr => ∃ i : Nat, i ≤ l.length ∧ iv = .int .i64 (i : Int) ∧ Below w1.heap.size w1 wr ∧ ∀ k, k < i → (shG l k).1 = true → (shG l k).2 = ought l n N k) (fun iv _ => l.length - (intOf iv).toNat)
    case atStart => exact ⟨0, by omega, rfl, Below.refl _ _, fun k hk => by omega⟩
    case round =>
      obtain ⟨i, hi, rfl, hbr, hall⟩ := hrel
      have HBR := Lib.hid hbr
      have HALL := Lib.hid hall
      clear hbr hall
      by_cases hil : i < l.length
      · have m1 : (i : Int) < (l.length : Int) := by omega
        have m0 : (0 : Int) ≤ (i : Int) := by omega
        obtain ⟨p, hp⟩ : ∃ p, l[i] = p := ⟨_, rfl⟩
        obtain ⟨g, off, rfl, hg, b0, b1⟩ := (HS1.out.below HBR.out).shard i hil p hp
        have HPE : Hid (shG l i = p) := Lib.hid (by rw [shG_get hil, hp])
        clear hp hg
        obtain ⟨hb, s⟩ := p
        have HBA := Lib.hid (HBR.out.alloc HBR.out.size (.cells #[.bool hb, .string s] 31))
        have HROW : Hid ((wr.alloc (.cells #[.bool hb, .string s] 31)).heap[wr.heap.size]? = some (.cells #[.bool hb, .string s] 31 (0, 0))) := Lib.hid (heap_alloc_new wr _)
        cases hb with
        | false =>
          have HN : Hid (∀ k, k < i + 1 → (shG l k).1 = true → (shG l k).2 = ought l n N k) := Lib.hid fun k hk h => by
            by_cases e : k = i
            · rw [e, HPE.out] at h; cases h
            · exact HALL.out k (by omega) h
          have r0 := cell_of_row _ _ 0 _ _ _ HROW.out
          simp only [List.getElem?_toArray, List.getElem?_cons_succ, List.getElem?_cons_zero] at r0
          go_wp2_with fail
          go_quiet (fail)
          go_wp2_with fail
          go_roundw
          case rel => exact ⟨i + 1, by omega, by go_num, below_dn HBA.out _, HN.out⟩
          case measure => simp [intOf]; omega
        | true =>
          have HRW := Lib.hid fun (W : World) => row_any i n W hn16 (by omega)
          go_wp2_with fail
          refine wp_region_noPanic ?_
          refine wp_region_held_drew (S := fun v => v.heap[wr.heap.size]? = some (.cells #[.bool true, .string s] 31 (0, 0)) ∧ v.cell? ⟨og, oo, none⟩ = some (.string p0)) (by kernel_rfl) ⟨HROW.out, HOX.out _ HBA.out.drew⟩ (fun hS0 => ?_)
          have HS0 := Lib.hid hS0
          clear hS0
          have HBD := Lib.hid HBA.out.drew
          generalize (wr.alloc (.cells #[.bool true, .string s] 31)).drew = u0 at *
          generalize wr.heap.size = sb at *
          refine take_val 0 (.pointer (some ⟨sb, 0, none⟩)) rfl (by kernel_rfl) (by kernel_rfl) (by kernel_rfl) (fun _ _ _ _ h => h) (by rfl) rfl (fun wz hS => by go_simp) HS0.out ?_
          try simp only [List.set_cons_zero, List.set_cons_succ]
          refine take_val 1 (.bool true) rfl (by kernel_rfl) (by kernel_rfl) (by kernel_rfl) (fun _ _ _ _ h => h) (by rfl) rfl (fun wz hS => by have hz := cell_of_row _ _ 0 _ _ _ hS.1; simp only [List.getElem?_toArray, List.getElem?_cons_succ, List.getElem?_cons_zero] at hz; go_simp) HS0.out ?_
          try simp only [List.set_cons_zero, List.set_cons_succ]
          refine take_val 2 (.bool true) rfl (by kernel_rfl) (by kernel_rfl) (by kernel_rfl) (fun _ _ _ _ h => h) (by rfl) rfl (fun wz hS => by go_simp) HS0.out ?_
          try simp only [List.set_cons_zero, List.set_cons_succ]
          refine take_val 3 (.pointer (some ⟨sb, 1, none⟩)) rfl (by kernel_rfl) (by kernel_rfl) (by kernel_rfl) (fun _ _ _ _ h => h) (by rfl) rfl (fun wz hS => by go_simp) HS0.out ?_
          try simp only [List.set_cons_zero, List.set_cons_succ]
          refine take_val 4 (.string s) rfl (by kernel_rfl) (by kernel_rfl) (by kernel_rfl) (fun _ _ _ _ h => h) (by rfl) rfl (fun wz hS => by have hz := cell_of_row _ _ 1 _ _ _ hS.1; simp only [List.getElem?_toArray, List.getElem?_cons_succ, List.getElem?_cons_zero] at hz; go_simp) HS0.out ?_
          try simp only [List.set_cons_zero, List.set_cons_succ]
          refine take_val 5 (.int .i64 (i : Int)) rfl (by kernel_rfl) (by kernel_rfl) (by kernel_rfl) (fun _ _ _ _ h => h) (by rfl) rfl (fun wz hS => by go_simp) HS0.out ?_
          try simp only [List.set_cons_zero, List.set_cons_succ]
          refine take_val 6 (.int .i64 (n : Int)) rfl (by kernel_rfl) (by kernel_rfl) (by kernel_rfl) (fun _ _ _ _ h => h) (by rfl) rfl (fun wz hS => by go_simp) HS0.out ?_
          try simp only [List.set_cons_zero, List.set_cons_succ]
          refine take_val 8 (.slice (some ⟨og, oo, none⟩) n oc) rfl (by kernel_rfl) (by kernel_rfl) (by kernel_rfl) (fun _ _ _ _ h => h) (by rfl) rfl (fun wz hS => by go_simp) HS0.out ?_
          try simp only [List.set_cons_zero, List.set_cons_succ]
          refine take_val 9 (.slice (some ⟨og, oo, none⟩) n oc) rfl (by kernel_rfl) (by kernel_rfl) (by kernel_rfl) (fun _ _ _ _ h => h) (by rfl) rfl (fun wz hS => by go_simp) HS0.out ?_
          try simp only [List.set_cons_zero, List.set_cons_succ]
          refine take_val 10 (.pointer (some ⟨og, oo, none⟩)) rfl (by kernel_rfl) (by kernel_rfl) (by kernel_rfl) (fun _ _ _ _ h => h) (by rfl) rfl (fun wz hS => by go_simp; intro h0; omega) HS0.out ?_
          try simp only [List.set_cons_zero, List.set_cons_succ]
          refine take_val 11 (.string p0) rfl (by kernel_rfl) (by kernel_rfl) (by kernel_rfl) (fun _ _ _ _ h => h) (by rfl) rfl (fun wz hS => by have hz := hS.2; go_simp) HS0.out ?_
          try simp only [List.set_cons_zero, List.set_cons_succ]
          refine take_val 12 (.int .i64 (p0.size : Int)) rfl (by kernel_rfl) (by kernel_rfl) (by kernel_rfl) (fun _ _ _ _ h => h) (by rfl) rfl (fun wz hS => by go_simp) HS0.out ?_
          try simp only [List.set_cons_zero, List.set_cons_succ]
          refine one_ready 7 (by kernel_rfl) rfl (by rfl) (fun K hK => ?_)
          refine wp_call_run (f := 15) (args := #[.int .i64 (i : Int), .int .i64 (n : Int)]) (by kernel_rfl) (HRW.out u0) ?_
          rintro e u1 ⟨hb1, B1, rfl, hB1, hrow1⟩
          have HR1 := Lib.hid hrow1
          have HB1' := Lib.hid (Below.step HBD.out hb1)
          have HS1' := Lib.hid (⟨(hb1.block _ (lt_of_block HS0.out.1)).trans HS0.out.1, HOX.out _ HB1'.out⟩ : _ ∧ _)
          clear hb1 hrow1 HBD HS0
          refine ⟨_, rfl, hK.out _ _ HS1'.out ?_⟩
          rw [put_eq (d := 32) (by rfl)]
          clear hK K
          try simp only [List.set_cons_zero, List.set_cons_succ]
          refine one_ready 13 (by kernel_rfl) rfl (by rfl) (fun K hK => ?_)
          refine wp_call_run (f := 14) (args := #[.slice (some ⟨B1, 0, none⟩) n n, .slice (some ⟨og, oo, none⟩) n oc, .int .i64 (p0.size : Int)]) (by kernel_rfl) (HCB.out i B1 u1 HR1.out HB1'.out) ?_
          rintro e u2 ⟨rfl, hb2⟩
          have HB2 := Lib.hid (Below.step HB1'.out hb2)
          have HS2 := Lib.hid (⟨(hb2.block _ (lt_of_block HS1'.out.1)).trans HS1'.out.1, HOX.out _ HB2.out⟩ : _ ∧ _)
          have HOG : Hid (strOf (comb p0.size n (rowF n i) (outsM l n N n)) = ought l n N i) := Lib.hid (by unfold ought; rw [HPS.out])
          rw [HOG.out]
          clear hb2 HB1' HR1 HS1' HOG
          obtain ⟨X, hX⟩ : ∃ X, ought l n N i = X := ⟨_, rfl⟩
          rw [hX]
          have HX := Lib.hid hX
          clear hX
          refine ⟨_, rfl, hK.out _ _ HS2.out ?_⟩
          rw [put_eq (d := 38) (by rfl)]
          clear hK K
          try simp only [List.set_cons_zero, List.set_cons_succ]
          by_cases hsx : s = X
          · have hc1 : (s.toList == X.toList) = true := by rw [toList_eq]; simp [hsx]
            refine one_ready 14 (by kernel_rfl) rfl (by rfl) (fun K hK => ?_)
            refine wp_value_run (v := .bool false) (w' := u2) (by go_simp) ?_
            refine hK.out _ _ HS2.out ?_
            rw [put_eq (d := 39) (by rfl)]
            clear hK K
            try simp only [List.set_cons_zero, List.set_cons_succ]
            refine take_val 15 (.bool false) rfl (by kernel_rfl) (by kernel_rfl) (by kernel_rfl) (fun _ _ _ _ h => h) (by rfl) rfl (fun wz hS => by go_simp) HS2.out ?_
            try simp only [List.set_cons_zero, List.set_cons_succ]
            refine wpAnyH_done (by kernel_rfl) ?_ _
            refine NoPanic.normal ?_
            simp only [Exit.inBlock, Exit.then]
            rename_i HKK
            refine HKK _ _ ?_
            clear HKK hc1
            have HN : Hid (∀ k, k < i + 1 → (shG l k).1 = true → (shG l k).2 = ought l n N k) := Lib.hid fun k hk h => by
              by_cases e : k = i
              · rw [e, HPE.out, HX.out]; exact hsx
              · exact HALL.out k (by omega) h
            go_wp2_with fail
            go_roundw
            case rel => exact ⟨i + 1, by omega, by go_num, HB2.out, HN.out⟩
            case measure => simp [intOf]; omega
          · have hc1 : (s.toList == X.toList) = false := by rw [toList_eq]; simp [hsx]
            refine one_ready 14 (by kernel_rfl) rfl (by rfl) (fun K hK => ?_)
            refine wp_value_run (v := .bool true) (w' := u2) (by go_simp) ?_
            refine hK.out _ _ HS2.out ?_
            rw [put_eq (d := 39) (by rfl)]
            clear hK K
            try simp only [List.set_cons_zero, List.set_cons_succ]
            refine take_val 15 (.bool true) rfl (by kernel_rfl) (by kernel_rfl) (by kernel_rfl) (fun _ _ _ _ h => h) (by rfl) rfl (fun wz hS => by go_simp) HS2.out ?_
            try simp only [List.set_cons_zero, List.set_cons_succ]
            refine wpAnyH_done (by kernel_rfl) ?_ _
            refine NoPanic.normal ?_
            simp only [Exit.inBlock, Exit.then]
            rename_i HKK
            refine HKK _ _ ?_
            clear HKK hc1
            have HN : Hid (∃ k, k < l.length ∧ (shG l k).1 = true ∧ (shG l k).2 ≠ ought l n N k) := Lib.hid ⟨i, hil, by rw [HPE.out], by rw [HPE.out, HX.out]; exact hsx⟩
            go_wp2_with fail
            go_ret
            exact ⟨Below.step HB1.out HB2.out, 6, rfl, .inr ⟨n, N, rfl, HA.out, HP.out, HNP.out, HMD.out, .inr ⟨rfl, HN.out⟩⟩⟩
      · have m1 : ¬ (i : Int) < (l.length : Int) := by omega
        have HN : Hid (∀ k, k < l.length → (shG l k).1 = true → (shG l k).2 = ought l n N k) := Lib.hid fun k hk h => HALL.out k (by omega) h
        go_wp2_with fail
        go_ret
        exact ⟨Below.step HB1.out HBR.out, 0, rfl, .inr ⟨n, N, rfl, HA.out, HP.out, HNP.out, HMD.out, .inl ⟨rfl, HN.out⟩⟩⟩
  · have z1 : ((c : Int) != 0) = true := by simp; omega
    have HBD := Lib.hid hbad
    have HB1 := Lib.hid hb1
    have HC0 := Lib.hid hc0
    clear hbad hb1 hc0
    go_wp2_with fail
    go_ret
    exact ⟨HB1.out, c, rfl, .inl ⟨HC0.out, HBD.out⟩⟩
end Go.Proofs.YtigdpmeeibkifaaDoor
