/- Joined: WalkHeap, WalkReap2. -/
import Derived.Test.YtbfoonfbhebhfaaGreatDoorKGoD
namespace Go.Proofs.YtbfoonfbhebhfaaGreatDoor
open Go.RowKit Plain Go.Maps Go.ChangeMaps
set_option linter.unusedVariables false
set_option linter.unusedSimpArgs false
theorem Cons.bad {l : List Bl} {b : Bl} {i : Nat} (htk : l.take (i + 1) = l.take i ++ [b]) (h : pcode b ≠ 0 ∨ ∃ c ∈ l.take i, pidL c = pidL b ∧ c ≠ b) : ¬ Cons l := by
 have hb : b ∈ l := List.mem_of_mem_take (i := i + 1) (by rw [htk]; simp)
 rintro ⟨h1, h2⟩
 rcases h with h | ⟨c, hc, e, hn⟩
 ·
  exact h (h1 b hb)
 ·
  exact hn (h2 c (List.mem_of_mem_take hc) b hb e)
theorem HpM.bad {l : List Bl} {es : List (List Nat × Bl)} {b c : Bl} {i : Nat} (hm : HpM (l.take i) es) (htk : l.take (i + 1) = l.take i ++ [b]) (hq : ilk es (pidL b) = some c) (hn : c ≠ b) : ¬ Cons l := by
 rw [hm.2] at hq
 obtain ⟨h1, h2⟩ := lkL_some hq
 exact Cons.bad htk (.inr ⟨c, h1, h2, hn⟩)
theorem HpM.go {l : List Bl} {es : List (List Nat × Bl)} {b : Bl} {i : Nat} (hm : HpM (l.take i) es) (hc : Cons (l.take i)) (htk : l.take (i + 1) = l.take i ++ [b]) (hp : pcode b = 0) (hq : ilk es (pidL b) = none) : HpM (l.take (i + 1)) (es ++ [(pidL b, b)]) ∧ Cons (l.take (i + 1)) := by
 rw [htk]
 exact ⟨hm.new b, hc.snoc hp (fun c h => by rw [← hm.2, hq] at h; cases h)⟩
theorem HpM.on {l : List Bl} {es : List (List Nat × Bl)} {b : Bl} {i : Nat} (hm : HpM (l.take i) es) (hc : Cons (l.take i)) (htk : l.take (i + 1) = l.take i ++ [b]) (hp : pcode b = 0) (hq : ilk es (pidL b) = some b) : HpM (l.take (i + 1)) es ∧ Cons (l.take (i + 1)) := by
 rw [htk]
 exact ⟨hm.same (by rw [← hm.2]; exact hq), hc.snoc hp (fun c h => by rw [← hm.2, hq] at h; injection h with h; exact h.symm)⟩
def HpEnd (l : List Bl) (w0 : World) (e : Ending) (w : World) : Prop := Below w0.heap.size w0 w ∧
 ((∃ es H, HpM l es ∧ Cons l ∧ l.length ≤ 1000 ∧ w0.heap.size ≤ H ∧ w.heap[H]? = some (imO blV es) ∧ e = .returned (.tuple #[.map (some H), .int .i64 0])) ∨
  (1000 < l.length ∧ e = .returned (.tuple #[.map none, .int .i64 2])) ∨
  (l.length ≤ 1000 ∧ ¬ Cons l ∧ ∃ c : Int, c ≠ 0 ∧ e = .returned (.tuple #[.map none, .int .i64 c])))
set_option maxRecDepth 100000 in
set_option maxHeartbeats 2000000 in
theorem heap_any (a : Option Addr) (cap : Nat) (l : List Bl) (w : World) (h : SAt 2 blC w a l) (hl : l.length ≤ 9223372036854775807) :
  Calls Tryz.prog 55 #[.slice a l.length cap] w (HpEnd l w) := by
 have HS := Lib.hid h
 clear h
 by_cases hbig : 1000 < l.length
 ·
  have z1 : (1000 : Int) < (l.length : Int) := by omega
  have HL := Lib.hid hbig
  clear hbig
  go_enter Tryz.func55, Tryz.ntmps55
  go_wp2_with fail
  go_ret2
  exact ⟨Below.refl _ _, .inr (.inl ⟨HL.out, rfl⟩)⟩
 ·
  have z1 : ¬ (1000 : Int) < (l.length : Int) := by omega
  have HL : Hid (l.length ≤ 1000) := Lib.hid (by omega)
  have hmm := @run_makeMap Tryz.prog
  have HM1 : Hid ((w.alloc (.map #[] 0)).heap[w.heap.size]? = some (imO blV [])) := Lib.hid (heap_alloc_new w (.map #[] 0))
  have HB1 : Hid (Below w.heap.size w (w.alloc (.map #[] 0))) := Lib.hid ((Below.refl w.heap.size w).alloc (Nat.le_refl _) (.map #[] 0))
  clear hbig
  go_enter Tryz.func55, Tryz.ntmps55
  go_wp2_with fail
  clear hmm
  go_loopw [17] (fun iv wr => ∃ (i : Nat) (es : List (List Nat × Bl)), i ≤ l.length ∧ iv = .int .i64 (i : Int) ∧ Hid (HpM (l.take i) es) ∧ Hid (Cons (l.take i)) ∧ Hid (wr.heap[w.heap.size]? = some (imO blV es)) ∧ Hid (Below w.heap.size w wr)) (fun iv _ => l.length - (intOf iv).toNat)
  case atStart => exact ⟨0, [], Nat.zero_le _, rfl, Lib.hid HpM.nil, Lib.hid Cons.nil, HM1, HB1⟩
  case round =>
   obtain ⟨i, es, hi, rfl, HES, HCS, HMR, HBR⟩ := hrel
   clear HM1 HB1
   by_cases hlt : i < l.length
   ·
    have m1 : (i : Int) < (l.length : Int) := by omega
    obtain ⟨g, off, rfl, hg, hr⟩ := (HS.out.below HBR.out) i hlt
    have htk : l.take (i + 1) = l.take i ++ [l[i]] := List.take_succ_eq_append_getElem hlt
    obtain ⟨⟨k, s⟩, hb⟩ : ∃ b : Bl, l[i] = b := ⟨_, rfl⟩
    rw [hb] at hr htk
    have HTK := Lib.hid htk
    have r0 : wr.cell? ⟨g, off + i * 2, none⟩ = some (.int .i64 k) := hr 0 _ rfl
    have r1 : wr.cell? ⟨g, off + i * 2 + 1, none⟩ = some (.string s) := hr 1 _ rfl
    have HLT := Lib.hid hlt
    have hna := heap_alloc_new wr (.cells #[.int .i64 k, .string s] 37)
    have HNA := Lib.hid hna
    have HBA := Lib.hid (HBR.out.alloc HBR.out.size (.cells #[.int .i64 k, .string s] 37))
    have HML : Hid (w.heap.size < wr.heap.size) := Lib.hid (lt_of_blockW HMR.out)
    have HMA : Hid ((wr.alloc (.cells #[.int .i64 k, .string s] 37)).heap[w.heap.size]? = some (imO blV es)) := Lib.hid ((Below.heap_alloc wr _ _ HML.out).trans HMR.out)
    have a0 := cell_of_row _ _ 0 _ _ _ hna
    have a1 := cell_of_row _ _ 1 _ _ _ hna
    simp only [List.getElem?_toArray, List.getElem?_cons_succ, List.getElem?_cons_zero] at a0 a1
    clear hb htk hr hg hna hlt
    go_wp2_with fail
    refine (pid_any (k, s) _).mono ?_
    rintro e w5 ⟨rfl, hb5⟩
    have hil := pidL_length (k, s)
    have hib := pidL_lt (k, s)
    obtain ⟨idl, hidl⟩ : ∃ idl, pidL (k, s) = idl := ⟨_, rfl⟩
    obtain ⟨pc, hpc⟩ : ∃ pc, pcode (k, s) = pc := ⟨_, rfl⟩
    rw [hidl] at hil hib ⊢
    rw [hpc]
    have HIL := Lib.hid hil
    have HPI := Lib.hid hidl
    have HPC := Lib.hid hpc
    have hn5 := (hb5.block _ (lt_of_blockW HNA.out)).trans HNA.out
    have hm5 := (hb5.block _ (lt_of_blockW HMA.out)).trans HMA.out
    have hb5' := HBA.out.trans (hb5.mono HBA.out.size)
    have hz5 := heap_alloc_new w5 (.cells z8A 30)
    have HTH : Hid ((w5.alloc (.cells z8A 30)).there w5.heap.size 0 (bC idl).size) := Lib.hid (there_idB hz5 rfl hil)
    have HIB : Hid ((Tryz.prog.info? 30).map (·.size) = some (bC idl).size) := Lib.hid (info_idB hil)
    have HOB : Hid ((bC idl).all (·.oneCell') = true) := Lib.hid (bC_oneP idl)
    obtain ⟨w6, hw6⟩ : ∃ w6, (w5.alloc (.cells z8A 30)).setCells w5.heap.size 0 (bC idl).toList = w6 := ⟨_, rfl⟩
    have hid6 : w6.heap[w5.heap.size]? = some (.cells (bC idl) 30 (0, 0)) := by rw [← hw6]; exact row_idB hz5 rfl hil
    have hold : ∀ g, g < w5.heap.size → w6.heap[g]? = w5.heap[g]? := fun g hg => by
     rw [← hw6, heap_setCells_other _ _ (by omega) _ _ _]
     exact Below.heap_alloc w5 _ g hg
    have HW6 := Lib.hid hw6
    have HID6 := Lib.hid hid6
    have HN6 := Lib.hid ((hold _ (lt_of_blockW hn5)).trans hn5)
    have HM6 := Lib.hid ((hold _ (lt_of_blockW hm5)).trans hm5)
    have HB6 : Hid (Below w.heap.size w w6) := Lib.hid (by
     rw [← hw6]
     exact below_setCells hb5'.size _ _ (hb5'.alloc hb5'.size _))
    have t0 := cell_of_row _ _ 0 _ _ _ HN6.out
    have t1 := cell_of_row _ _ 1 _ _ _ HN6.out
    simp only [List.getElem?_toArray, List.getElem?_cons_succ, List.getElem?_cons_zero] at t0 t1
    have hlk := look_id2 blV (w := w6) (b := w.heap.size) (mt := 97) Tryz.underlying97 (zero_blW w6) HM6.out idl HIL.out HES.out.1
    have HNE : Hid (w5.heap.size ≠ w.heap.size) := Lib.hid (by have := lt_of_blockW hm5; omega)
    have HNE2 : Hid (wr.heap.size ≠ w.heap.size) := Lib.hid (by have := HML.out; omega)
    clear hb5 hb5' hz5 hid6 hold hil hib hidl hpc hw6 hn5 hm5 a0 a1
    by_cases hc : pc = 0
    ·
     subst hc
     cases hq : ilk es idl with
     | some ob =>
      obtain ⟨k2, s2⟩ := ob
      rw [hq] at hlk
      replace hlk : (Instr.lookup 97 (.map (some w.heap.size)) (.agg (bC idl)) true).run Tryz.prog w6 = .ok (.tuple #[.agg #[.int .i64 k2, .string s2], .bool true]) w6 := hlk
      have HQ := Lib.hid hq
      have HB7 := Lib.hid (HB6.out.alloc HB6.out.size (.cells #[.int .i64 k2, .string s2] 37))
      have hm7 := (Below.heap_alloc w6 (.cells #[.int .i64 k2, .string s2] 37) _ (lt_of_blockW HM6.out)).trans HM6.out
      have hi7 := (Below.heap_alloc w6 (.cells #[.int .i64 k2, .string s2] 37) _ (lt_of_blockW HID6.out)).trans HID6.out
      have HI7 := Lib.hid hi7
      have hn7 := (Below.heap_alloc w6 (.cells #[.int .i64 k2, .string s2] 37) _ (lt_of_blockW HN6.out)).trans HN6.out
      have o0 := cell_of_row _ _ 0 _ _ _ hn7
      have o1 := cell_of_row _ _ 1 _ _ _ hn7
      simp only [List.getElem?_toArray, List.getElem?_cons_succ, List.getElem?_cons_zero] at o0 o1
      by_cases e1 : k2 = k
      ·
       subst e1
       by_cases e2 : s2 = s
       ·
        subst e2
        have hput := put_id8_same blV (mt := 97) Tryz.underlying97 hm7 idl ((k2 : Int), s2) HIL.out HES.out.1 hq
        replace hput : (Instr.mapUpdate 97 (.map (some w.heap.size)) (.agg (bC idl)) (.agg #[.int .i64 k2, .string s2])).run Tryz.prog (w6.alloc (.cells #[.int .i64 k2, .string s2] 37)) = .ok () (setBlock (w6.alloc (.cells #[.int .i64 k2, .string s2] 37)) w.heap.size (imO blV es)) := hput
        have hgo := HES.out.on HCS.out HTK.out HPC.out (by rw [HPI.out]; exact HQ.out)
        have HGO := Lib.hid hgo
        have HM8 := Lib.hid (setBlockI_same blV hm7 (imO blV es))
        have HB8 := Lib.hid (below_setBlockI HB7.out (Nat.le_refl _) (imO blV es))
        clear hq hn7 hm7 hi7 hgo
        go_wp2_with (first | (with_reducible refine wpList_store_mid rfl 30 (.tmp 7) (.tmp 24) rfl w5.heap.size 0 (bC idl) rfl rfl HTH.out HIB.out HOB.out ?_; rw [HW6.out]) | (with_reducible refine wpList_load_row rfl 30 (.tmp 7) rfl w5.heap.size rfl 30 (bC idl) (0, 0) _ HID6.out Tryz.underlying30 rfl HIB.out ?_) | (with_reducible refine wpList_load_row rfl 30 (.tmp 7) rfl w5.heap.size rfl 30 (bC idl) (0, 0) _ HI7.out Tryz.underlying30 rfl HIB.out ?_))
        go_roundw
        case rel => exact ⟨i + 1, es, HLT.out, by go_num, Lib.hid HGO.out.1, Lib.hid HGO.out.2, HM8, HB8⟩
        case measure => simp [intOf]; have := HLT.out; omega
       ·
        have z4 : (s2.toList == s.toList) = false := str_neW e2
        have HNG : Hid (¬ Cons l) := Lib.hid (HES.out.bad HTK.out (by rw [HPI.out]; exact HQ.out) (fun h => e2 (congrArg Prod.snd h)))
        clear hq hn7 hm7 hi7 e2
        go_wp2_with (first | (with_reducible refine wpList_store_mid rfl 30 (.tmp 7) (.tmp 24) rfl w5.heap.size 0 (bC idl) rfl rfl HTH.out HIB.out HOB.out ?_; rw [HW6.out]) | (with_reducible refine wpList_load_row rfl 30 (.tmp 7) rfl w5.heap.size rfl 30 (bC idl) (0, 0) _ HID6.out Tryz.underlying30 rfl HIB.out ?_))
        go_ret2
        exact ⟨HB7.out, .inr (.inr ⟨HL.out, HNG.out, _, by decide, rfl⟩)⟩
      ·
       have z4 : (k2 == k) = false := beq_eq_false_iff_ne.2 e1
       have HNG : Hid (¬ Cons l) := Lib.hid (HES.out.bad HTK.out (by rw [HPI.out]; exact HQ.out) (fun h => e1 (congrArg Prod.fst h)))
       clear hq hn7 hm7 hi7 e1
       go_wp2_with (first | (with_reducible refine wpList_store_mid rfl 30 (.tmp 7) (.tmp 24) rfl w5.heap.size 0 (bC idl) rfl rfl HTH.out HIB.out HOB.out ?_; rw [HW6.out]) | (with_reducible refine wpList_load_row rfl 30 (.tmp 7) rfl w5.heap.size rfl 30 (bC idl) (0, 0) _ HID6.out Tryz.underlying30 rfl HIB.out ?_))
       go_ret2
       exact ⟨HB7.out, .inr (.inr ⟨HL.out, HNG.out, _, by decide, rfl⟩)⟩
     | none =>
      rw [hq] at hlk
      replace hlk : (Instr.lookup 97 (.map (some w.heap.size)) (.agg (bC idl)) true).run Tryz.prog w6 = .ok (.tuple #[.agg #[.int .i64 0, .string ⟨#[]⟩], .bool false]) w6 := hlk
      have hm7 := (Below.heap_alloc w6 (.cells #[.int .i64 0, .string ⟨#[]⟩] 37) _ (lt_of_blockW HM6.out)).trans HM6.out
      have hi7 := (Below.heap_alloc w6 (.cells #[.int .i64 0, .string ⟨#[]⟩] 37) _ (lt_of_blockW HID6.out)).trans HID6.out
      have hn7 := (Below.heap_alloc w6 (.cells #[.int .i64 0, .string ⟨#[]⟩] 37) _ (lt_of_blockW HN6.out)).trans HN6.out
      have HI7 := Lib.hid hi7
      have o0 := cell_of_row _ _ 0 _ _ _ hn7
      have o1 := cell_of_row _ _ 1 _ _ _ hn7
      simp only [List.getElem?_toArray, List.getElem?_cons_succ, List.getElem?_cons_zero] at o0 o1
      have hput := put_id8 blV (mt := 97) Tryz.underlying97 hm7 idl ((k : Int), s) HIL.out HES.out.1 hq
      replace hput : (Instr.mapUpdate 97 (.map (some w.heap.size)) (.agg (bC idl)) (.agg #[.int .i64 k, .string s])).run Tryz.prog (w6.alloc (.cells #[.int .i64 0, .string ⟨#[]⟩] 37)) = .ok () (setBlock (w6.alloc (.cells #[.int .i64 0, .string ⟨#[]⟩] 37)) w.heap.size (imO blV (es ++ [(idl, (k, s))]))) := hput
      have hgo := HES.out.go HCS.out HTK.out HPC.out (by rw [HPI.out]; exact hq)
      rw [HPI.out] at hgo
      have HGO := Lib.hid hgo
      have HM8 := Lib.hid (setBlockI_same blV hm7 (imO blV (es ++ [(idl, (k, s))])))
      have HB8 := Lib.hid (below_setBlockI (HB6.out.alloc HB6.out.size (.cells #[.int .i64 0, .string ⟨#[]⟩] 37)) (Nat.le_refl _) (imO blV (es ++ [(idl, (k, s))])))
      clear hq hm7 hi7 hn7 hgo
      go_wp2_with (first | (with_reducible refine wpList_store_mid rfl 30 (.tmp 7) (.tmp 24) rfl w5.heap.size 0 (bC idl) rfl rfl HTH.out HIB.out HOB.out ?_; rw [HW6.out]) | (with_reducible refine wpList_load_row rfl 30 (.tmp 7) rfl w5.heap.size rfl 30 (bC idl) (0, 0) _ HID6.out Tryz.underlying30 rfl HIB.out ?_) | (with_reducible refine wpList_load_row rfl 30 (.tmp 7) rfl w5.heap.size rfl 30 (bC idl) (0, 0) _ HI7.out Tryz.underlying30 rfl HIB.out ?_))
      go_roundw
      case rel => exact ⟨i + 1, _, HLT.out, by go_num, Lib.hid HGO.out.1, Lib.hid HGO.out.2, HM8, HB8⟩
      case measure => simp [intOf]; have := HLT.out; omega
    ·
     have z2 : ((pc : Int) != 0) = true := by simp; omega
     have HCI : Hid ((pc : Int) ≠ 0) := Lib.hid (by omega)
     have HNGNE : Hid (¬ Cons l) := Lib.hid (Cons.bad HTK.out (.inl (by rw [HPC.out]; exact hc)))
     clear hc hlk
     go_wp2_with (first | (with_reducible refine wpList_store_mid rfl 30 (.tmp 7) (.tmp 24) rfl w5.heap.size 0 (bC idl) rfl rfl HTH.out HIB.out HOB.out ?_; rw [HW6.out]) | (with_reducible refine wpList_load_row rfl 30 (.tmp 7) rfl w5.heap.size rfl 30 (bC idl) (0, 0) _ HID6.out Tryz.underlying30 rfl HIB.out ?_))
     go_ret2
     exact ⟨HB6.out, .inr (.inr ⟨HL.out, HNGNE.out, _, HCI.out, rfl⟩)⟩
   ·
    have m1 : ¬ (i : Int) < (l.length : Int) := by omega
    obtain rfl : i = l.length := by omega
    have hta : l.take l.length = l := List.take_of_length_le (Nat.le_refl _)
    rw [hta] at HES HCS
    go_wp2_with fail
    go_ret2
    exact ⟨HBR.out, .inl ⟨es, _, HES.out, HCS.out, HL.out, Nat.le_refl _, HMR.out, rfl⟩⟩
end Go.Proofs.YtbfoonfbhebhfaaGreatDoor
namespace Go.Proofs.YtbfoonfbhebhfaaGreatDoor
open Go.RowKit Plain Go.Maps Go.ChangeMaps
set_option linter.unusedVariables false
set_option linter.unusedSimpArgs false
def RpEnd (wl : List It) (w0 : World) (e : Ending) (w : World) : Prop := Below w0.heap.size w0 w ∧ ∃ (oa : Option Addr) (oc : Nat), e = .returned (.tuple #[.slice oa wl.length oc, .int .i64 0]) ∧ w.ownsRow w0.heap.size 40 5 (.slice oa wl.length oc) wl.length (wl.flatMap iC)
theorem ilk_lk {l : List Bl} {es : List (List Nat × Bl)} (h : HpM l es) : ilk es = lkL l := funext h.2
set_option maxRecDepth 100000 in
set_option maxHeartbeats 2000000 in
theorem reap_any (a : Option Addr) (cap : Nat) (l : List Bl) (b0 b1 b2 b3 b4 b5 b6 b7 : Nat) (wl : List It) (w : World) (h : SAt 2 blC w a l) (hl : l.length ≤ 1000) (hc : Cons l) (ht : TellsW (lkL l) 8 [] [b0, b1, b2, b3, b4, b5, b6, b7] wl) (hw : wl.length ≤ 100) (hT : Tabs w) :
  Calls Tryz.prog 17 #[.slice a l.length cap, .agg #[.int .u8 (b0 : Int), .int .u8 (b1 : Int), .int .u8 (b2 : Int), .int .u8 (b3 : Int), .int .u8 (b4 : Int), .int .u8 (b5 : Int), .int .u8 (b6 : Int), .int .u8 (b7 : Int)]] w (RpEnd wl w) := by
 have hb0 := (Below.refl w.heap.size w).alloc (Nat.le_refl _) (.cells #[.int .u8 (b0 : Int), .int .u8 (b1 : Int), .int .u8 (b2 : Int), .int .u8 (b3 : Int), .int .u8 (b4 : Int), .int .u8 (b5 : Int), .int .u8 (b6 : Int), .int .u8 (b7 : Int)] 30)
 have hr0 := heap_alloc_new w (.cells #[.int .u8 (b0 : Int), .int .u8 (b1 : Int), .int .u8 (b2 : Int), .int .u8 (b3 : Int), .int .u8 (b4 : Int), .int .u8 (b5 : Int), .int .u8 (b6 : Int), .int .u8 (b7 : Int)] 30)
 have HB0 := Lib.hid hb0
 have HR0 := Lib.hid hr0
 have HC := Lib.hid hc
 have HT := Lib.hid ht
 have HTB := Lib.hid hT
 have HW := Lib.hid hw
 have HL := Lib.hid hl
 have HP := Lib.hid (heap_any a cap l (w.alloc (.cells #[.int .u8 (b0 : Int), .int .u8 (b1 : Int), .int .u8 (b2 : Int), .int .u8 (b3 : Int), .int .u8 (b4 : Int), .int .u8 (b5 : Int), .int .u8 (b6 : Int), .int .u8 (b7 : Int)] 30)) (h.below hb0) (by omega))
 clear hb0 hr0 hc ht hT hw h hl
 go_enter Tryz.func17, Tryz.ntmps17
 go_wp2_with fail
 refine HP.out.mono ?_
 rintro e w1 ⟨hb1, ⟨es, H, hes, _, _, hH, hmap, rfl⟩ | ⟨hbig, rfl⟩ | ⟨_, hnc, c, _, rfl⟩⟩
 ·
  have hr1 := (hb1.block _ (lt_of_block HR0.out)).trans HR0.out
  have HB1 := Lib.hid (HB0.out.trans (hb1.mono HB0.out.size))
  have h2 := heap_alloc_new w1 (.cells #[.map (some H), .slice none 0 0] 107)
  have hba := (Below.refl w1.heap.size w1).alloc (Nat.le_refl _) (.cells #[.map (some H), .slice none 0 0] 107)
  have HB2 := Lib.hid (HB1.out.trans (hba.mono HB1.out.size))
  have hr2 := (hba.block _ (lt_of_block hr1)).trans hr1
  have hHl : H < w1.heap.size := lt_of_blockW hmap
  have hm2 := (hba.block _ hHl).trans hmap
  have hRS : RS w.heap.size w1.heap.size H es [] none 0 (w1.alloc (.cells #[.map (some H), .slice none 0 0] 107)) := ⟨h2, World.ownsRow_nil _ _ _ _, hm2, HB1.out.size⟩
  have HRS := Lib.hid hRS
  have HD : Hid (Calls Tryz.prog 56 #[.pointer (some ⟨w1.heap.size, 0, none⟩), .agg #[.int .u8 (b0 : Int), .int .u8 (b1 : Int), .int .u8 (b2 : Int), .int .u8 (b3 : Int), .int .u8 (b4 : Int), .int .u8 (b5 : Int), .int .u8 (b6 : Int), .int .u8 (b7 : Int)], .string ⟨#[]⟩, .int .i64 0] (w1.alloc (.cells #[.map (some H), .slice none 0 0] 107)) (RdEnd w.heap.size w1.heap.size H es ([] ++ wl) none (w1.alloc (.cells #[.map (some H), .slice none 0 0] 107)))) :=
   Lib.hid (rdir_any HTB.out (Nat.le_refl _) hes.1 8 [] b0 b1 b2 b3 b4 b5 b6 b7 wl rfl (by decide) (by rw [ilk_lk hes]; exact HT.out) [] none 0 _ hRS HB2.out (by have := HW.out; simpa using this))
  have p0 := cell_of_row _ _ 0 _ _ _ hr2
  have p1 := cell_of_row _ _ 1 _ _ _ hr2
  have p2 := cell_of_row _ _ 2 _ _ _ hr2
  have p3 := cell_of_row _ _ 3 _ _ _ hr2
  have p4 := cell_of_row _ _ 4 _ _ _ hr2
  have p5 := cell_of_row _ _ 5 _ _ _ hr2
  have p6 := cell_of_row _ _ 6 _ _ _ hr2
  have p7 := cell_of_row _ _ 7 _ _ _ hr2
  simp only [List.getElem?_toArray, List.getElem?_cons_zero, List.getElem?_cons_succ] at p0 p1 p2 p3 p4 p5 p6 p7
  have HSZ : Hid (w.heap.size ≤ w1.heap.size) := Lib.hid HB1.out.size
  clear hb1 hr1 h2 hba hr2 hm2 hmap hRS hHl hes hH
  go_wp2_with fail
  refine HD.out.mono ?_
  rintro e w3 ⟨rfl, oa, oc, hrs, hfr⟩
  have HB3 := Lib.hid (HB2.out.trans (hfr.below (by have := HSZ.out; omega) (by intro g hg; cases hg) (by have := HSZ.out; simp; omega)))
  have c1 := hrs.1.c1
  have HOW := Lib.hid hrs.2.1
  rw [List.nil_append] at c1 HOW
  clear hrs hfr HD p0 p1 p2 p3 p4 p5 p6 p7
  go_wp2_with fail
  go_ret2
  exact ⟨HB3.out, oa, oc, rfl, HOW.out⟩
 ·
  exact absurd HL.out (by omega)
 ·
  exact absurd HC.out hnc
end Go.Proofs.YtbfoonfbhebhfaaGreatDoor
