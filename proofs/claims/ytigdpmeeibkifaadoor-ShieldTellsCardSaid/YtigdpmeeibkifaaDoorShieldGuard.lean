/- shield.Guard. Printed by gen_shieldguard.py. -/
import Derived.Test.YtigdpmeeibkifaaDoorShieldComb
import Derived.Test.YtigdpmeeibkifaaDoorDet3
import Derived.Test.YtigdpmeeibkifaaDoorAppendNew
import Derived.Test.YtigdpmeeibkifaaDoorDrawn
namespace Go.Proofs.YtigdpmeeibkifaaDoor
open Go.RowKit Plain
set_option linter.unusedVariables false
set_option linter.unusedSimpArgs false
def len0 (ts : List ByteArray) : Nat := (ts.getD 0 ⟨#[]⟩).size
/-- what Guard asks -/
def GOk (ts : List ByteArray) (p : Int) : Prop := 1 ≤ ts.length ∧ ts.length ≤ 16 ∧ 1 ≤ p ∧ p ≤ 8 ∧ ∀ s ∈ ts, s.size ≤ 4096 ∧ s.size = len0 ts
def shardB (ts : List ByteArray) (s : Nat) : ByteArray := strOf (comb (len0 ts) ts.length (rowF ts.length s) ts)
/-- the first j guards -/
def guardsN (ts : List ByteArray) (j : Nat) : List ByteArray := (List.range j).map fun k => shardB ts (ts.length + k)
theorem guards_length (ts : List ByteArray) (j : Nat) : (guardsN ts j).length = j := by simp [guardsN]
theorem guards_succ (ts : List ByteArray) (j : Nat) : guardsN ts (j + 1) = guardsN ts j ++ [shardB ts (ts.length + j)] := by simp [guardsN, List.range_succ]
def GdEnd (ts : List ByteArray) (p : Int) (w0 : World) (e : Ending) (w : World) : Prop := Below w0.heap.size w0 w ∧
  ((∃ oa oc, e = .returned (.tuple #[.slice oa p.toNat oc, .int .i64 0]) ∧ GOk ts p ∧ w.ownsRow w0.heap.size 9 1 (.slice oa p.toNat oc) p.toNat ((guardsN ts p.toNat).flatMap sC)) ∨
   (∃ c : Nat, c ≠ 0 ∧ e = .returned (.tuple #[.slice none 0 0, .int .i64 (c : Int)]) ∧ ¬ GOk ts p))
set_option maxRecDepth 100000 in
set_option maxHeartbeats 4000000 in
theorem guard_any (a : Option Addr) (cap : Nat) (ts : List ByteArray) (p : Int) (w : World) (hS : SAt 1 sC w a ts) (hn : ts.length ≤ 9223372036854775807) :
    Calls Tryd.prog 10 #[.slice a ts.length cap, .int .i64 p] w (GdEnd ts p w) := by
  obtain ⟨i0, hi0, hz0, hz1, hz2⟩ := info_parts info_str
  have HS := Lib.hid hS
  clear hS
  have HBAD : Hid (∀ (W : World) (c : Nat), Below w.heap.size w W → c ≠ 0 → ¬ GOk ts p → GdEnd ts p w (.returned (.tuple #[.slice none 0 0, .int .i64 (c : Int)])) W) := Lib.hid fun W c hb hc h => ⟨hb, .inr ⟨c, hc, rfl, h⟩⟩
  by_cases c1 : ts.length < 1
  · have n1 : (ts.length : Int) < 1 := by omega
    have HN : Hid (¬ GOk ts p) := fun h => by have := h.1; omega
    go_enter Tryd.func10, Tryd.ntmps10
    go_wp2_with fail
    go_ret2
    exact HBAD.out _ 1 (Below.refl _ _) (by decide) HN.out
  by_cases c2 : 16 < ts.length
  · have n1 : ¬ (ts.length : Int) < 1 := by omega
    have n2 : 16 < (ts.length : Int) := by omega
    have HN : Hid (¬ GOk ts p) := fun h => by have := h.2.1; omega
    go_enter Tryd.func10, Tryd.ntmps10
    go_wp2_with fail
    go_ret2
    exact HBAD.out _ 1 (Below.refl _ _) (by decide) HN.out
  by_cases c3 : p < 1
  · have n1 : ¬ (ts.length : Int) < 1 := by omega
    have n2 : ¬ 16 < (ts.length : Int) := by omega
    have HN : Hid (¬ GOk ts p) := fun h => by have := h.2.2.1; omega
    go_enter Tryd.func10, Tryd.ntmps10
    go_wp2_with fail
    go_ret2
    exact HBAD.out _ 1 (Below.refl _ _) (by decide) HN.out
  by_cases c4 : 8 < p
  · have n1 : ¬ (ts.length : Int) < 1 := by omega
    have n2 : ¬ 16 < (ts.length : Int) := by omega
    have HN : Hid (¬ GOk ts p) := fun h => by have := h.2.2.2.1; omega
    go_enter Tryd.func10, Tryd.ntmps10
    go_wp2_with fail
    go_ret2
    exact HBAD.out _ 1 (Below.refl _ _) (by decide) HN.out
  have n1 : ¬ (ts.length : Int) < 1 := by omega
  have n2 : ¬ 16 < (ts.length : Int) := by omega
  obtain ⟨n, hne⟩ : ∃ n, ts.length = n := ⟨_, rfl⟩
  obtain ⟨q, hq⟩ : ∃ q : Nat, p = (q : Int) := ⟨p.toNat, by omega⟩
  subst hq
  have hq8 : q ≤ 8 := by omega
  rw [hne] at n1 n2 hn c1 c2 ⊢
  have HNE := Lib.hid hne
  have HS0 := Lib.hid fun (W : World) (hb : Below w.heap.size w W) => str_cell (HS.out.below hb) 0 (by omega)
  obtain ⟨g, off, rfl, hg0⟩ := str_cell HS.out 0 (by omega)
  obtain ⟨s0, hs0⟩ : ∃ s, ts[0]'(by omega) = s := ⟨_, rfl⟩
  have HL0 : Hid (len0 ts = s0.size) := Lib.hid (by unfold len0; rw [getD_getB (by omega), hs0])
  have HG0 : Hid (∀ W, Below w.heap.size w W → W.cell? ⟨g, off, none⟩ = some (.string s0)) := Lib.hid fun W hb => by
    obtain ⟨g', off', hgg, hc⟩ := HS0.out W hb
    simp only [Option.some.injEq, Addr.mk.injEq, and_true] at hgg
    rw [hgg.1, hgg.2, ← hs0]
    exact hc
  clear HS0 hg0 hs0 hne
  go_enter Tryd.func10, Tryd.ntmps10
  go_wp2_with fail
  go_loopw [29] (fun iv wr => ∃ i : Nat, i ≤ n ∧ iv = .int .i64 (i : Int) ∧ Below w.heap.size w wr ∧ ∀ s ∈ ts.take i, s.size ≤ 4096 ∧ s.size = len0 ts) (fun iv _ => n - (intOf iv).toNat)
  case atStart => exact ⟨0, by omega, rfl, Below.refl _ _, by simp⟩
  case round =>
    obtain ⟨i, hi, rfl, hbr, hall⟩ := hrel
    have HBR := Lib.hid hbr
    have HALL := Lib.hid hall
    clear hbr hall
    by_cases hin : i < n
    · have m1 : (i : Int) < (n : Int) := by omega
      have m0 : (0 : Int) ≤ (i : Int) := by omega
      have mn : (0 : Int) < (n : Int) := by omega
      have hil : i < ts.length := by rw [HNE.out]; exact hin
      obtain ⟨g', off', hgg, hcs⟩ := str_cell (HS.out.below HBR.out) i hil
      obtain ⟨rfl, rfl⟩ : g' = g ∧ off' = off := by
        simp only [Option.some.injEq, Addr.mk.injEq, and_true] at hgg
        exact ⟨hgg.1.symm, hgg.2.symm⟩
      have HMEM : Hid (ts[i] ∈ ts) := List.getElem_mem hil
      have HST : Hid (ts[i].size ≤ 4096 ∧ ts[i].size = len0 ts → ∀ s ∈ ts.take (i + 1), s.size ≤ 4096 ∧ s.size = len0 ts) := Lib.hid fun h s hs => by
        rw [List.take_succ_eq_append_getElem hil] at hs
        rcases List.mem_append.1 hs with hs | hs
        · exact HALL.out s hs
        · simp only [List.mem_singleton] at hs; rw [hs]; exact h
      generalize ts[i] = s at *
      have hc0 := HG0.out wr HBR.out
      clear hgg
      by_cases d1 : 4096 < s.size
      · have e1 : (4096 : Int) < (s.size : Int) := by omega
        have HN : Hid (¬ GOk ts (q : Int)) := fun h => by have := (h.2.2.2.2 s HMEM.out).1; omega
        go_wp2_with fail
        go_ret2
        exact HBAD.out _ 2 HBR.out (by decide) HN.out
      · have e1 : ¬ (4096 : Int) < (s.size : Int) := by omega
        by_cases d2 : s.size = s0.size
        · have z1 : ((s.size : Int) != (s0.size : Int)) = false := by simp; omega
          have HN := Lib.hid (HST.out ⟨by omega, by rw [HL0.out]; exact d2⟩)
          clear d2
          go_wp2_with fail
          go_roundw
          case rel => exact ⟨i + 1, by omega, by go_num, HBR.out, HN.out⟩
          case measure => simp [intOf]; omega
        · have z1 : ((s.size : Int) != (s0.size : Int)) = true := by simp; omega
          have HN : Hid (¬ GOk ts (q : Int)) := fun h => by have := (h.2.2.2.2 s HMEM.out).2; rw [HL0.out] at this; exact d2 this
          clear d2
          go_wp2_with fail
          go_ret2
          exact HBAD.out _ 4 HBR.out (by decide) HN.out
    · have m1 : ¬ (i : Int) < (n : Int) := by omega
      have HALL2 : Hid (∀ s ∈ ts, s.size ≤ 4096 ∧ s.size = len0 ts) := Lib.hid (by
        have h := HALL.out
        rwa [List.take_of_length_le (by rw [HNE.out]; omega)] at h)
      have HOK : Hid (GOk ts (q : Int)) := Lib.hid ⟨by rw [HNE.out]; omega, by rw [HNE.out]; omega, by omega, by omega, HALL2.out⟩
      have hl4 : len0 ts ≤ 4096 := by
        have := HALL2.out (ts[0]'(by rw [HNE.out]; omega)) (List.getElem_mem _)
        omega
      go_wp2_with fail
      go_loopw [9, 45] (fun ov jv wv => ∃ (j : Nat) (oa : Option Addr) (oc : Nat), j ≤ q ∧ jv = .int .i64 (j : Int) ∧ ov = .slice oa j oc ∧ Below w.heap.size w wv ∧ wv.ownsRow w.heap.size 9 1 (.slice oa j oc) j ((guardsN ts j).flatMap sC)) (fun _ jv _ => q - (intOf jv).toNat)
      case atStart => exact ⟨0, none, 0, by omega, rfl, rfl, HBR.out, World.ownsRow_nil _ _ _ _⟩
      case round =>
        clear HALL HBR
        obtain ⟨j, oa, oc, hj, rfl, rfl, hbv, hov⟩ := hrel
        have HBV := Lib.hid hbv
        have HOV := Lib.hid hov
        clear hbv hov
        by_cases hjq : j < q
        · have j1 : (j : Int) < (q : Int) := by omega
          have j0 : (0 : Int) ≤ (j : Int) := by omega
          have mn : (0 : Int) < (n : Int) := by omega
          have HRW := Lib.hid fun (W : World) => row_any (n + j) n W (by omega) (by omega)
          simp only [Int.natCast_add] at HRW
          have HCB := Lib.hid fun (B : Nat) (W : World) (hB : BRow W 5 B (mapr n (rowF n (n + j)))) (hb : Below w.heap.size w W) => combine_any B n (len0 ts) (rowF n (n + j)) (some ⟨g, off, none⟩) cap ts W hB (rowF_byt n (n + j)) (HS.out.below hb) HNE.out (by omega) hl4 (fun s hs => (HALL2.out s hs).2)
          have HLS := Lib.hid HL0.out
          have wnj : Hid (IntKind.i64.wrap ((n : Int) + (j : Int)) = (n : Int) + (j : Int)) := Lib.hid (by rw [IntKind.wrap_i64]; omega)
          have hl0 : len0 ts = s0.size := HL0.out
          have hs64 : s0.size ≤ 4096 := by omega
          go_wp2_with fail
          refine wp_region_noPanic ?_
          refine wp_region_held_drew (S := fun v => v.cell? ⟨g, off, none⟩ = some (.string s0)) (by kernel_rfl) (HG0.out _ HBV.out.drew) (fun hS0 => ?_)
          have HS0 := Lib.hid hS0
          clear hS0
          have HBD := Lib.hid HBV.out.drew
          have HOD : Hid (wr.drew.ownsRow w.heap.size 9 1 (.slice oa j oc) j ((guardsN ts j).flatMap sC)) := HOV.out
          clear HBV HOV
          generalize wr.drew = u0 at *
          refine take_val 0 (.slice oa j oc) rfl (by kernel_rfl) (by kernel_rfl) (by kernel_rfl) (fun _ _ _ _ h => h) (by rfl) rfl (fun wz hS => by go_simp) HS0.out ?_
          try simp only [List.set_cons_zero, List.set_cons_succ]
          refine take_val 1 (.int .i64 (n : Int)) rfl (by kernel_rfl) (by kernel_rfl) (by kernel_rfl) (fun _ _ _ _ h => h) (by rfl) rfl (fun wz hS => by go_simp) HS0.out ?_
          try simp only [List.set_cons_zero, List.set_cons_succ]
          refine take_val 2 (.int .i64 (j : Int)) rfl (by kernel_rfl) (by kernel_rfl) (by kernel_rfl) (fun _ _ _ _ h => h) (by rfl) rfl (fun wz hS => by go_simp) HS0.out ?_
          try simp only [List.set_cons_zero, List.set_cons_succ]
          refine take_val 3 (.int .i64 ((n : Int) + (j : Int))) rfl (by kernel_rfl) (by kernel_rfl) (by kernel_rfl) (fun _ _ _ _ h => h) (by rfl) rfl (fun wz hS => by go_simp; exact wnj.out) HS0.out ?_
          try simp only [List.set_cons_zero, List.set_cons_succ]
          refine take_val 4 (.int .i64 (n : Int)) rfl (by kernel_rfl) (by kernel_rfl) (by kernel_rfl) (fun _ _ _ _ h => h) (by rfl) rfl (fun wz hS => by go_simp) HS0.out ?_
          try simp only [List.set_cons_zero, List.set_cons_succ]
          refine take_val 6 (.slice (some ⟨g, off, none⟩) n cap) rfl (by kernel_rfl) (by kernel_rfl) (by kernel_rfl) (fun _ _ _ _ h => h) (by rfl) rfl (fun wz hS => by go_simp) HS0.out ?_
          try simp only [List.set_cons_zero, List.set_cons_succ]
          refine take_val 7 (.slice (some ⟨g, off, none⟩) n cap) rfl (by kernel_rfl) (by kernel_rfl) (by kernel_rfl) (fun _ _ _ _ h => h) (by rfl) rfl (fun wz hS => by go_simp) HS0.out ?_
          try simp only [List.set_cons_zero, List.set_cons_succ]
          refine take_val 8 (.pointer (some ⟨g, off, none⟩)) rfl (by kernel_rfl) (by kernel_rfl) (by kernel_rfl) (fun _ _ _ _ h => h) (by rfl) rfl (fun wz hS => by go_simp; intro h0; omega) HS0.out ?_
          try simp only [List.set_cons_zero, List.set_cons_succ]
          refine take_val 9 (.string s0) rfl (by kernel_rfl) (by kernel_rfl) (by kernel_rfl) (fun _ _ _ _ h => h) (by rfl) rfl (fun wz hS => by go_simp) HS0.out ?_
          try simp only [List.set_cons_zero, List.set_cons_succ]
          refine take_val 10 (.int .i64 (s0.size : Int)) rfl (by kernel_rfl) (by kernel_rfl) (by kernel_rfl) (fun _ _ _ _ h => h) (by rfl) rfl (fun wz hS => by go_simp) HS0.out ?_
          try simp only [List.set_cons_zero, List.set_cons_succ]
          refine one_ready 5 (by kernel_rfl) rfl (by rfl) (fun K hK => ?_)
          refine wp_call_run (f := 15) (args := #[.int .i64 ((n : Int) + (j : Int)), .int .i64 (n : Int)]) (by kernel_rfl) (HRW.out u0) ?_
          rintro e u1 ⟨hb1, B1, rfl, hB1, hrow1⟩
          have HR1 := Lib.hid hrow1
          have HB1 := Lib.hid (Below.step HBD.out hb1)
          have HO1 := Lib.hid (own_below' HOD.out hb1)
          have HS1 := Lib.hid (HG0.out _ HB1.out)
          clear hb1 hrow1 HBD HOD HS0
          refine ⟨_, rfl, hK.out _ _ HS1.out ?_⟩
          rw [put_eq (d := 53) (by rfl)]
          clear hK K
          try simp only [List.set_cons_zero, List.set_cons_succ]
          refine one_ready 11 (by kernel_rfl) rfl (by rfl) (fun K hK => ?_)
          have hcb := HCB.out B1 u1 HR1.out HB1.out
          rw [hl0] at hcb
          refine wp_call_run (f := 14) (args := #[.slice (some ⟨B1, 0, none⟩) n n, .slice (some ⟨g, off, none⟩) n cap, .int .i64 (s0.size : Int)]) (by kernel_rfl) hcb ?_
          rintro e u2 ⟨rfl, hb2⟩
          have HB2 := Lib.hid (Below.step HB1.out hb2)
          have HO2 := Lib.hid (own_below' HO1.out hb2)
          have HS2 := Lib.hid (HG0.out _ HB2.out)
          have hsh : strOf (comb s0.size n (rowF n (n + j)) ts) = shardB ts (ts.length + j) := by unfold shardB; rw [hl0, HNE.out]
          rw [hsh]
          obtain ⟨x, hx⟩ : ∃ x, shardB ts (ts.length + j) = x := ⟨_, rfl⟩
          rw [hx]
          have HX := Lib.hid hx
          clear hb2 hcb hsh hx HB1 HO1 HS1 HR1
          refine ⟨_, rfl, hK.out _ _ HS2.out ?_⟩
          rw [put_eq (d := 59) (by rfl)]
          clear hK K
          try simp only [List.set_cons_zero, List.set_cons_succ]
          refine one_ready 12 (by kernel_rfl) rfl (by rfl) (fun K hK => ?_)
          refine wp_value_run (v := .slice (some ⟨u2.heap.size, 0, none⟩) 1 1) (w' := (u2.alloc (.cells #[.string x] 9))) (by go_simp) ?_
          have HB3 : Hid (Below w.heap.size w (u2.alloc (.cells #[.string x] 9))) := HB2.out.alloc HB2.out.size _
          have HS3 := Lib.hid (HG0.out _ HB3.out)
          refine hK.out _ _ HS3.out ?_
          rw [put_eq (d := 60) (by rfl)]
          clear hK K
          try simp only [List.set_cons_zero, List.set_cons_succ]
          refine one_ready 13 (by kernel_rfl) rfl (by rfl) (fun K hK => ?_)
          obtain ⟨v', w3, hrun, hown, hgr, hnew⟩ := run_append_own2 (P := Tryd.prog) (w := (u2.alloc (.cells #[.string x] 9))) w.heap.size 22 22 9 i0 (.string ⟨#[]⟩) 1 16 Tryd.underlying22 hi0 hz0 hz1 hz2 rfl (by decide) _ j ((guardsN ts j).flatMap sC) (HO2.out.alloc _) ⟨u2.heap.size, 0, none⟩ 1 1 (sC x) rfl (cells_new_at u2 u2.heap.size rfl #[.string x] 9 (sC x) rfl) (sC_one x) (by unfold maxLen; omega) (by omega) HB3.out.size
          refine wp_append_run _ _ 22 rfl rfl rfl hrun ?_
          have BW := Lib.hid (below_own HB3.out hgr HB3.out.size (HO2.out.alloc _) (Nat.le_refl _))
          obtain ⟨oa2, oc2, rfl⟩ := own_form' hown
          have OW : Hid (w3.ownsRow w.heap.size 9 1 (.slice oa2 (j + 1) oc2) (j + 1) ((guardsN ts (j + 1)).flatMap sC)) := by
            show w3.ownsRow _ _ _ _ _ _
            rw [guards_succ, HX.out, sCs_snoc]
            exact hown
          have HS4 := Lib.hid (HG0.out _ BW.out)
          clear hrun hown hgr hnew HB2 HB3 HO2 HS2 HS3
          refine hK.out _ _ HS4.out ?_
          rw [put_eq (d := 61) (by rfl)]
          clear hK K
          try simp only [List.set_cons_zero, List.set_cons_succ]
          refine take_val 14 (.slice oa2 (j + 1) oc2) rfl (by kernel_rfl) (by kernel_rfl) (by kernel_rfl) (fun _ _ _ _ h => h) (by rfl) rfl (fun wz hS => by go_simp) HS4.out ?_
          try simp only [List.set_cons_zero, List.set_cons_succ]
          refine wpAnyH_done (by kernel_rfl) ?_ _
          refine NoPanic.normal ?_
          simp only [Exit.inBlock, Exit.then]
          rename_i HKK
          refine HKK _ _ ?_
          go_wp2_with fail
          go_roundw
          case rel => exact ⟨j + 1, oa2, oc2, by omega, by go_num, rfl, BW.out, OW.out⟩
          case measure => simp [intOf]; omega
        · have j1 : ¬ (j : Int) < (q : Int) := by omega
          have hjq2 : j = q := by omega
          subst hjq2
          go_wp2_with fail
          go_ret2
          exact ⟨HBV.out, .inl ⟨oa, oc, rfl, HOK.out, HOV.out⟩⟩
end Go.Proofs.YtigdpmeeibkifaaDoor
