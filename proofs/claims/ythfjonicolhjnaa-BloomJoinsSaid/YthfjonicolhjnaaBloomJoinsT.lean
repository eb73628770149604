/- BloomJoins: the walk of its last statement. -/
import Derived.Test.YthfjonicolhjnaaBloomFacts2
namespace Go.Proofs.Ythfjonicolhjnaa
open Go.RowKit Plain
def seqTail : Code → Code
  | .seq _ b => b
  | c => c
set_option maxRecDepth 100000 in
set_option maxHeartbeats 40000000 in
theorem joins_tail (l m k a lm ad : List Nat) (w w8 : World) (n5 n7 : Nat) (HL : Hid (IsB l)) (HM : Hid (IsB m)) (HA : Hid (a.length = 8)) (HAB : Hid (∀ c ∈ a, c < 256)) (ELM : Hid (lm = bjoin l m)) (ILM : Hid (IsB lm)) (EAD : Hid (ad = badd (List.replicate 16 0) (bpos a 0) (bpos a 1) (bpos a 2) (bpos a 3))) (IAD : Hid (IsB ad)) (B8 : Hid (Below w.heap.size w w8))
    (HS : Hid (∀ w', Below w8.heap.size w8 w' → (w'.rangeAt w.heap.size 0 (uC l).toList ∧ w'.rangeAt (w.heap.size + 1) 0 (uC m).toList ∧ w'.rangeAt (w.heap.size + 1 + 1) 0 (uC k).toList ∧ w'.rangeAt n5 0 (uC lm).toList ∧ w'.rangeAt n7 0 (uC ad).toList ∧ w'.rangeAt (w.heap.size + 1 + 1 + 1) 0 (idC a).toList ∧ Below w8.heap.size w8 w')))
    (hil : (Try.prog.info? 24).map (·.size) = some (uC l).toList.length) (hilm : (Try.prog.info? 24).map (·.size) = some (uC lm).toList.length) (hiad : (Try.prog.info? 24).map (·.size) = some (uC ad).toList.length) (hia : (Try.prog.info? 27).map (·.size) = some (idC a).toList.length)
    (x0 x1 x2 x3 x8 x12 x13 x14 x15 x16 x17 x18 x19 x20 x21 x22 x23 x24 x25 x26 x27 x28 x29 x30 x31 x32 x33 x34 x35 x36 x37 x38 x39 x40 x41 x42 x43 x44 x45 x46 x47 x48 x49 x50 x51 x52 x53 x54 x55 x56 x57 x58 x59 x60 x61 x62 x63 x64 x65 x66 x67 x68 x69 x70 x71 x72 x73 x74 x75 x76 x77 x78 x79 x80 x81 x82 x83 x84 x85 : Value) (v00 : World) (HH00 : Hid (Below w8.heap.size w8 v00)) :
    Code.wp Try.prog (seqTail (seqTail (seqTail (seqTail (Try.f4.body.getD .skip))))) (bodyPost Try.prog Try.f4 fun e w' => e = .returned (.bool true) ∧ Below w.heap.size w w') ⟨[x0, x1, x2, x3, Value.pointer (some ⟨w.heap.size, 0, none⟩), Value.pointer (some ⟨w.heap.size + 1, 0, none⟩), Value.pointer (some ⟨w.heap.size + 1 + 1, 0, none⟩), Value.pointer (some ⟨w.heap.size + 1 + 1 + 1, 0, none⟩), x8, Value.pointer (some ⟨n5, 0, none⟩), Value.pointer (some ⟨n7, 0, none⟩), Value.bool true, x12, x13, x14, x15, x16, x17, x18, x19, x20, x21, x22, x23, x24, x25, x26, x27, x28, x29, x30, x31, x32, x33, x34, x35, x36, x37, x38, x39, x40, x41, x42, x43, x44, x45, x46, x47, x48, x49, x50, x51, x52, x53, x54, x55, x56, x57, x58, x59, x60, x61, x62, x63, x64, x65, x66, x67, x68, x69, x70, x71, x72, x73, x74, x75, x76, x77, x78, x79, x80, x81, x82, x83, x84, x85].toArray, []⟩ v00 := by
  have EQA : Hid (badd l (bpos a 0) (bpos a 1) (bpos a 2) (bpos a 3) = bjoin l ad) := by rw [EAD.out]; exact badd_join HL.out a
  have HC2 : Hid ((bitb l (bpos a 0) && bitb l (bpos a 1) && bitb l (bpos a 2) && bitb l (bpos a 3)) = true → (bitb lm (bpos a 0) && bitb lm (bpos a 1) && bitb lm (bpos a 2) && bitb lm (bpos a 3)) = true) := by rw [ELM.out]; exact has_bjoin HL.out HM.out a
  have HC3 : Hid ((bitb ad (bpos a 0) && bitb ad (bpos a 1) && bitb ad (bpos a 2) && bitb ad (bpos a 3)) = true) := by rw [EAD.out]; exact has_badd zeros_ok a
  have hu := Try.underlying24
  have hu27 := Try.underlying27
  clear ELM EAD HM
  simp only [seqTail, Try.f4, Option.getD_some]
  go_wp2_with fail
  refine wp_region_noPanic ?_
  refine wp_region_held_drew (S := (fun w' => w'.rangeAt w.heap.size 0 (uC l).toList ∧ w'.rangeAt (w.heap.size + 1) 0 (uC m).toList ∧ w'.rangeAt (w.heap.size + 1 + 1) 0 (uC k).toList ∧ w'.rangeAt n5 0 (uC lm).toList ∧ w'.rangeAt n7 0 (uC ad).toList ∧ w'.rangeAt (w.heap.size + 1 + 1 + 1) 0 (idC a).toList ∧ Below w8.heap.size w8 w')) (by kernel_rfl) (HS.out _ (Below.drew HH00.out)) (fun _ => ?_)
  have HH0 := Lib.hid (Below.drew HH00.out)
  clear HH00
  generalize v00.drew = v0 at *
  try simp only [Act.put]
  cases HCx : (bitb l (bpos a 0) && bitb l (bpos a 1) && bitb l (bpos a 2) && bitb l (bpos a 3))
  · have HC := Lib.hid HCx
    clear HCx
    refine take_val 0 (.bool true) rfl (by kernel_rfl) (by kernel_rfl) (by kernel_rfl) (fun _ _ _ _ h => h) (by rfl) rfl (fun w _ => by go_simp) (HS.out _ HH0.out) ?_
    try simp only [List.set_cons_zero, List.set_cons_succ]
    refine take_val 1 (.bool true) rfl (by kernel_rfl) (by kernel_rfl) (by kernel_rfl) (fun _ _ _ _ h => h) (by rfl) rfl (fun w _ => by go_simp) (HS.out _ HH0.out) ?_
    try simp only [List.set_cons_zero, List.set_cons_succ]
    refine take_row 2 rfl (by kernel_rfl) (by kernel_rfl) (by kernel_rfl) (fun _ _ _ _ h => h) (by rfl) rfl rfl rfl (fun _ hSw => hSw.1) hu rfl hil (HS.out _ HH0.out) ?_
    try simp only [List.set_cons_zero, List.set_cons_succ]
    refine take_row 3 rfl (by kernel_rfl) (by kernel_rfl) (by kernel_rfl) (fun _ _ _ _ h => h) (by rfl) rfl rfl rfl (fun _ hSw => hSw.2.2.2.2.2.1) hu27 rfl hia (HS.out _ HH0.out) ?_
    try simp only [List.set_cons_zero, List.set_cons_succ]
    refine take_row 5 rfl (by kernel_rfl) (by kernel_rfl) (by kernel_rfl) (fun _ _ _ _ h => h) (by rfl) rfl rfl rfl (fun _ hSw => hSw.1) hu rfl hil (HS.out _ HH0.out) ?_
    try simp only [List.set_cons_zero, List.set_cons_succ]
    refine take_row 6 rfl (by kernel_rfl) (by kernel_rfl) (by kernel_rfl) (fun _ _ _ _ h => h) (by rfl) rfl rfl rfl (fun _ hSw => hSw.2.2.2.2.1) hu rfl hiad (HS.out _ HH0.out) ?_
    try simp only [List.set_cons_zero, List.set_cons_succ]
    refine two_ready 4 7 (by kernel_rfl) rfl rfl (by rfl) (by rfl) (fun K hK => ?_) (fun K hK => ?_)
    · go_simp
      refine (add_any l a v0 HL.out HA.out HAB.out).mono ?_
      rintro e v1 ⟨rfl, hb⟩
      go_wp2_with fail
      refine hK.out _ _ (HS.out _ (Below.step HH0.out hb)) ?_
      clear hK K
      try simp only [Act.put, List.setIfInBounds_toArray, List.set_cons_zero, List.set_cons_succ]
      have HH2 := Lib.hid (Below.step HH0.out hb)
      clear hb HH0
      refine one_ready 7 (by kernel_rfl) rfl (by rfl) (fun K hK => ?_)
      refine wp_bs2 _ _  rfl l ad (by rfl) (by rfl)  HL.out IAD.out ?_
      rw [put_eq rfl]
      try simp only [List.set_cons_zero, List.set_cons_succ]
      refine hK.out _ _ (HS.out _ (Below.alloc HH2.out (Below.size HH2.out) _)) ?_
      clear hK K
      have HH4 := Lib.hid (Below.alloc HH2.out (Below.size HH2.out) (Obj.cells (uC (l ++ ad)) 24))
      have HB6 := Lib.hid (heap_alloc_new v1 (Obj.cells (uC (l ++ ad)) 24))
      clear HH2
      generalize v1.alloc (Obj.cells (uC (l ++ ad)) 24) = v3 at *
      generalize v1.heap.size = b5 at *
      refine one_ready 8 (by kernel_rfl) rfl (by rfl) (fun K hK => ?_)
      go_simp
      refine (join2 l ad _ _ v3 HL.out IAD.out HB6.out).mono ?_
      rintro e v7 ⟨rfl, hb⟩
      go_wp2_with fail
      refine hK.out _ _ (HS.out _ (Below.step HH4.out hb)) ?_
      clear hK K
      try simp only [Act.put, List.setIfInBounds_toArray, List.set_cons_zero, List.set_cons_succ]
      have HH8 := Lib.hid (Below.step HH4.out hb)
      clear hb HH4 HB6
      refine take_val 9 (.bool true) rfl (by kernel_rfl) (by kernel_rfl) (by kernel_rfl) (fun _ _ _ _ h => h) (by rfl) rfl (fun w _ => val_eqB _ _ _ rfl (badd l (bpos a 0) (bpos a 1) (bpos a 2) (bpos a 3)) (bjoin l ad) rfl rfl (badd_ok HL.out _ _ _ _) (bjoin_ok HL.out IAD.out) EQA.out _) (HS.out _ HH8.out) ?_
      try simp only [List.set_cons_zero, List.set_cons_succ]
      refine take_val 10 (.bool true) rfl (by kernel_rfl) (by kernel_rfl) (by kernel_rfl) (fun _ _ _ _ h => h) (by rfl) rfl (fun w _ => by go_simp) (HS.out _ HH8.out) ?_
      try simp only [List.set_cons_zero, List.set_cons_succ]
      refine take_val 11 (.bool true) rfl (by kernel_rfl) (by kernel_rfl) (by kernel_rfl) (fun _ _ _ _ h => h) (by rfl) rfl (fun w _ => by go_simp) (HS.out _ HH8.out) ?_
      try simp only [List.set_cons_zero, List.set_cons_succ]
      refine take_row 12 rfl (by kernel_rfl) (by kernel_rfl) (by kernel_rfl) (fun _ _ _ _ h => h) (by rfl) rfl rfl rfl (fun _ hSw => hSw.1) hu rfl hil (HS.out _ HH8.out) ?_
      try simp only [List.set_cons_zero, List.set_cons_succ]
      refine take_row 13 rfl (by kernel_rfl) (by kernel_rfl) (by kernel_rfl) (fun _ _ _ _ h => h) (by rfl) rfl rfl rfl (fun _ hSw => hSw.2.2.2.2.2.1) hu27 rfl hia (HS.out _ HH8.out) ?_
      try simp only [List.set_cons_zero, List.set_cons_succ]
      refine one_ready 14 (by kernel_rfl) rfl (by rfl) (fun K hK => ?_)
      go_simp
      refine (has_any l a v7 HL.out HA.out HAB.out).mono ?_
      rintro e v9 ⟨rfl, hb⟩
      rw [HC.out]
      go_wp2_with fail
      refine hK.out _ _ (HS.out _ (Below.step HH8.out hb)) ?_
      clear hK K
      try simp only [Act.put, List.setIfInBounds_toArray, List.set_cons_zero, List.set_cons_succ]
      have HH10 := Lib.hid (Below.step HH8.out hb)
      clear hb HH8
      refine take_val 15 (.bool true) rfl (by kernel_rfl) (by kernel_rfl) (by kernel_rfl) (fun _ _ _ _ h => h) (by rfl) rfl (fun w _ => by go_simp) (HS.out _ HH10.out) ?_
      try simp only [List.set_cons_zero, List.set_cons_succ]
      refine take_val 16 (.bool true) rfl (by kernel_rfl) (by kernel_rfl) (by kernel_rfl) (fun _ _ _ _ h => h) (by rfl) rfl (fun w _ => by go_simp) (HS.out _ HH10.out) ?_
      try simp only [List.set_cons_zero, List.set_cons_succ]
      refine take_not 17 rfl (by kernel_rfl) (by kernel_rfl) (by kernel_rfl) (fun _ _ _ _ h => h) (by rfl) rfl (HS.out _ HH10.out) ?_
      try simp only [List.set_cons_zero, List.set_cons_succ]
      refine take_not 18 rfl (by kernel_rfl) (by kernel_rfl) (by kernel_rfl) (fun _ _ _ _ h => h) (by rfl) rfl (HS.out _ HH10.out) ?_
      try simp only [List.set_cons_zero, List.set_cons_succ]
      refine take_not 19 rfl (by kernel_rfl) (by kernel_rfl) (by kernel_rfl) (fun _ _ _ _ h => h) (by rfl) rfl (HS.out _ HH10.out) ?_
      try simp only [List.set_cons_zero, List.set_cons_succ]
      refine take_val 20 (.bool true) rfl (by kernel_rfl) (by kernel_rfl) (by kernel_rfl) (fun _ _ _ _ h => h) (by rfl) rfl (fun w _ => by go_simp) (HS.out _ HH10.out) ?_
      try simp only [List.set_cons_zero, List.set_cons_succ]
      refine take_val 21 (.bool true) rfl (by kernel_rfl) (by kernel_rfl) (by kernel_rfl) (fun _ _ _ _ h => h) (by rfl) rfl (fun w _ => by go_simp) (HS.out _ HH10.out) ?_
      try simp only [List.set_cons_zero, List.set_cons_succ]
      refine take_val 22 (.bool true) rfl (by kernel_rfl) (by kernel_rfl) (by kernel_rfl) (fun _ _ _ _ h => h) (by rfl) rfl (fun w _ => by go_simp) (HS.out _ HH10.out) ?_
      try simp only [List.set_cons_zero, List.set_cons_succ]
      refine take_row 23 rfl (by kernel_rfl) (by kernel_rfl) (by kernel_rfl) (fun _ _ _ _ h => h) (by rfl) rfl rfl rfl (fun _ hSw => hSw.2.2.2.2.1) hu rfl hiad (HS.out _ HH10.out) ?_
      try simp only [List.set_cons_zero, List.set_cons_succ]
      refine take_row 24 rfl (by kernel_rfl) (by kernel_rfl) (by kernel_rfl) (fun _ _ _ _ h => h) (by rfl) rfl rfl rfl (fun _ hSw => hSw.2.2.2.2.2.1) hu27 rfl hia (HS.out _ HH10.out) ?_
      try simp only [List.set_cons_zero, List.set_cons_succ]
      refine one_ready 25 (by kernel_rfl) rfl (by rfl) (fun K hK => ?_)
      go_simp
      refine (has_any ad a v9 IAD.out HA.out HAB.out).mono ?_
      rintro e v11 ⟨rfl, hb⟩
      rw [HC3.out]
      go_wp2_with fail
      refine hK.out _ _ (HS.out _ (Below.step HH10.out hb)) ?_
      clear hK K
      try simp only [Act.put, List.setIfInBounds_toArray, List.set_cons_zero, List.set_cons_succ]
      have HH12 := Lib.hid (Below.step HH10.out hb)
      clear hb HH10
      refine take_val 26 (.bool true) rfl (by kernel_rfl) (by kernel_rfl) (by kernel_rfl) (fun _ _ _ _ h => h) (by rfl) rfl (fun w _ => by go_simp) (HS.out _ HH12.out) ?_
      try simp only [List.set_cons_zero, List.set_cons_succ]
      refine take_val 27 (.bool true) rfl (by kernel_rfl) (by kernel_rfl) (by kernel_rfl) (fun _ _ _ _ h => h) (by rfl) rfl (fun w _ => by go_simp) (HS.out _ HH12.out) ?_
      try simp only [List.set_cons_zero, List.set_cons_succ]
      refine wpAnyH_done (by kernel_rfl) ?_ _
      refine NoPanic.normal ?_
      go_wp2_with fail
      try go_ret
      exact ⟨rfl, Below.step B8.out HH12.out⟩
    · refine wp_bs2 _ _  rfl l ad (by rfl) (by rfl)  HL.out IAD.out ?_
      rw [put_eq rfl]
      try simp only [List.set_cons_zero, List.set_cons_succ]
      refine hK.out _ _ (HS.out _ (Below.alloc HH0.out (Below.size HH0.out) _)) ?_
      clear hK K
      have HH14 := Lib.hid (Below.alloc HH0.out (Below.size HH0.out) (Obj.cells (uC (l ++ ad)) 24))
      have HB16 := Lib.hid (heap_alloc_new v0 (Obj.cells (uC (l ++ ad)) 24))
      clear HH0
      generalize v0.alloc (Obj.cells (uC (l ++ ad)) 24) = v13 at *
      generalize v0.heap.size = b15 at *
      refine one_ready 4 (by kernel_rfl) rfl (by rfl) (fun K hK => ?_)
      go_simp
      refine (add_any l a v13 HL.out HA.out HAB.out).mono ?_
      rintro e v17 ⟨rfl, hb⟩
      go_wp2_with fail
      refine hK.out _ _ (HS.out _ (Below.step HH14.out hb)) ?_
      clear hK K
      try simp only [Act.put, List.setIfInBounds_toArray, List.set_cons_zero, List.set_cons_succ]
      have HH18 := Lib.hid (Below.step HH14.out hb)
      have HB19 := Lib.hid ((hb.block _ (lt_of_block HB16.out)).trans HB16.out)
      clear hb HH14 HB16
      refine one_ready 8 (by kernel_rfl) rfl (by rfl) (fun K hK => ?_)
      go_simp
      refine (join2 l ad _ _ v17 HL.out IAD.out HB19.out).mono ?_
      rintro e v20 ⟨rfl, hb⟩
      go_wp2_with fail
      refine hK.out _ _ (HS.out _ (Below.step HH18.out hb)) ?_
      clear hK K
      try simp only [Act.put, List.setIfInBounds_toArray, List.set_cons_zero, List.set_cons_succ]
      have HH21 := Lib.hid (Below.step HH18.out hb)
      clear hb HH18 HB19
      refine take_val 9 (.bool true) rfl (by kernel_rfl) (by kernel_rfl) (by kernel_rfl) (fun _ _ _ _ h => h) (by rfl) rfl (fun w _ => val_eqB _ _ _ rfl (badd l (bpos a 0) (bpos a 1) (bpos a 2) (bpos a 3)) (bjoin l ad) rfl rfl (badd_ok HL.out _ _ _ _) (bjoin_ok HL.out IAD.out) EQA.out _) (HS.out _ HH21.out) ?_
      try simp only [List.set_cons_zero, List.set_cons_succ]
      refine take_val 10 (.bool true) rfl (by kernel_rfl) (by kernel_rfl) (by kernel_rfl) (fun _ _ _ _ h => h) (by rfl) rfl (fun w _ => by go_simp) (HS.out _ HH21.out) ?_
      try simp only [List.set_cons_zero, List.set_cons_succ]
      refine take_val 11 (.bool true) rfl (by kernel_rfl) (by kernel_rfl) (by kernel_rfl) (fun _ _ _ _ h => h) (by rfl) rfl (fun w _ => by go_simp) (HS.out _ HH21.out) ?_
      try simp only [List.set_cons_zero, List.set_cons_succ]
      refine take_row 12 rfl (by kernel_rfl) (by kernel_rfl) (by kernel_rfl) (fun _ _ _ _ h => h) (by rfl) rfl rfl rfl (fun _ hSw => hSw.1) hu rfl hil (HS.out _ HH21.out) ?_
      try simp only [List.set_cons_zero, List.set_cons_succ]
      refine take_row 13 rfl (by kernel_rfl) (by kernel_rfl) (by kernel_rfl) (fun _ _ _ _ h => h) (by rfl) rfl rfl rfl (fun _ hSw => hSw.2.2.2.2.2.1) hu27 rfl hia (HS.out _ HH21.out) ?_
      try simp only [List.set_cons_zero, List.set_cons_succ]
      refine one_ready 14 (by kernel_rfl) rfl (by rfl) (fun K hK => ?_)
      go_simp
      refine (has_any l a v20 HL.out HA.out HAB.out).mono ?_
      rintro e v22 ⟨rfl, hb⟩
      rw [HC.out]
      go_wp2_with fail
      refine hK.out _ _ (HS.out _ (Below.step HH21.out hb)) ?_
      clear hK K
      try simp only [Act.put, List.setIfInBounds_toArray, List.set_cons_zero, List.set_cons_succ]
      have HH23 := Lib.hid (Below.step HH21.out hb)
      clear hb HH21
      refine take_val 15 (.bool true) rfl (by kernel_rfl) (by kernel_rfl) (by kernel_rfl) (fun _ _ _ _ h => h) (by rfl) rfl (fun w _ => by go_simp) (HS.out _ HH23.out) ?_
      try simp only [List.set_cons_zero, List.set_cons_succ]
      refine take_val 16 (.bool true) rfl (by kernel_rfl) (by kernel_rfl) (by kernel_rfl) (fun _ _ _ _ h => h) (by rfl) rfl (fun w _ => by go_simp) (HS.out _ HH23.out) ?_
      try simp only [List.set_cons_zero, List.set_cons_succ]
      refine take_not 17 rfl (by kernel_rfl) (by kernel_rfl) (by kernel_rfl) (fun _ _ _ _ h => h) (by rfl) rfl (HS.out _ HH23.out) ?_
      try simp only [List.set_cons_zero, List.set_cons_succ]
      refine take_not 18 rfl (by kernel_rfl) (by kernel_rfl) (by kernel_rfl) (fun _ _ _ _ h => h) (by rfl) rfl (HS.out _ HH23.out) ?_
      try simp only [List.set_cons_zero, List.set_cons_succ]
      refine take_not 19 rfl (by kernel_rfl) (by kernel_rfl) (by kernel_rfl) (fun _ _ _ _ h => h) (by rfl) rfl (HS.out _ HH23.out) ?_
      try simp only [List.set_cons_zero, List.set_cons_succ]
      refine take_val 20 (.bool true) rfl (by kernel_rfl) (by kernel_rfl) (by kernel_rfl) (fun _ _ _ _ h => h) (by rfl) rfl (fun w _ => by go_simp) (HS.out _ HH23.out) ?_
      try simp only [List.set_cons_zero, List.set_cons_succ]
      refine take_val 21 (.bool true) rfl (by kernel_rfl) (by kernel_rfl) (by kernel_rfl) (fun _ _ _ _ h => h) (by rfl) rfl (fun w _ => by go_simp) (HS.out _ HH23.out) ?_
      try simp only [List.set_cons_zero, List.set_cons_succ]
      refine take_val 22 (.bool true) rfl (by kernel_rfl) (by kernel_rfl) (by kernel_rfl) (fun _ _ _ _ h => h) (by rfl) rfl (fun w _ => by go_simp) (HS.out _ HH23.out) ?_
      try simp only [List.set_cons_zero, List.set_cons_succ]
      refine take_row 23 rfl (by kernel_rfl) (by kernel_rfl) (by kernel_rfl) (fun _ _ _ _ h => h) (by rfl) rfl rfl rfl (fun _ hSw => hSw.2.2.2.2.1) hu rfl hiad (HS.out _ HH23.out) ?_
      try simp only [List.set_cons_zero, List.set_cons_succ]
      refine take_row 24 rfl (by kernel_rfl) (by kernel_rfl) (by kernel_rfl) (fun _ _ _ _ h => h) (by rfl) rfl rfl rfl (fun _ hSw => hSw.2.2.2.2.2.1) hu27 rfl hia (HS.out _ HH23.out) ?_
      try simp only [List.set_cons_zero, List.set_cons_succ]
      refine one_ready 25 (by kernel_rfl) rfl (by rfl) (fun K hK => ?_)
      go_simp
      refine (has_any ad a v22 IAD.out HA.out HAB.out).mono ?_
      rintro e v24 ⟨rfl, hb⟩
      rw [HC3.out]
      go_wp2_with fail
      refine hK.out _ _ (HS.out _ (Below.step HH23.out hb)) ?_
      clear hK K
      try simp only [Act.put, List.setIfInBounds_toArray, List.set_cons_zero, List.set_cons_succ]
      have HH25 := Lib.hid (Below.step HH23.out hb)
      clear hb HH23
      refine take_val 26 (.bool true) rfl (by kernel_rfl) (by kernel_rfl) (by kernel_rfl) (fun _ _ _ _ h => h) (by rfl) rfl (fun w _ => by go_simp) (HS.out _ HH25.out) ?_
      try simp only [List.set_cons_zero, List.set_cons_succ]
      refine take_val 27 (.bool true) rfl (by kernel_rfl) (by kernel_rfl) (by kernel_rfl) (fun _ _ _ _ h => h) (by rfl) rfl (fun w _ => by go_simp) (HS.out _ HH25.out) ?_
      try simp only [List.set_cons_zero, List.set_cons_succ]
      refine wpAnyH_done (by kernel_rfl) ?_ _
      refine NoPanic.normal ?_
      go_wp2_with fail
      try go_ret
      exact ⟨rfl, Below.step B8.out HH25.out⟩
  · have HC := Lib.hid HCx
    clear HCx
    refine take_val 0 (.bool true) rfl (by kernel_rfl) (by kernel_rfl) (by kernel_rfl) (fun _ _ _ _ h => h) (by rfl) rfl (fun w _ => by go_simp) (HS.out _ HH0.out) ?_
    try simp only [List.set_cons_zero, List.set_cons_succ]
    refine take_val 1 (.bool true) rfl (by kernel_rfl) (by kernel_rfl) (by kernel_rfl) (fun _ _ _ _ h => h) (by rfl) rfl (fun w _ => by go_simp) (HS.out _ HH0.out) ?_
    try simp only [List.set_cons_zero, List.set_cons_succ]
    refine take_row 2 rfl (by kernel_rfl) (by kernel_rfl) (by kernel_rfl) (fun _ _ _ _ h => h) (by rfl) rfl rfl rfl (fun _ hSw => hSw.1) hu rfl hil (HS.out _ HH0.out) ?_
    try simp only [List.set_cons_zero, List.set_cons_succ]
    refine take_row 3 rfl (by kernel_rfl) (by kernel_rfl) (by kernel_rfl) (fun _ _ _ _ h => h) (by rfl) rfl rfl rfl (fun _ hSw => hSw.2.2.2.2.2.1) hu27 rfl hia (HS.out _ HH0.out) ?_
    try simp only [List.set_cons_zero, List.set_cons_succ]
    refine take_row 5 rfl (by kernel_rfl) (by kernel_rfl) (by kernel_rfl) (fun _ _ _ _ h => h) (by rfl) rfl rfl rfl (fun _ hSw => hSw.1) hu rfl hil (HS.out _ HH0.out) ?_
    try simp only [List.set_cons_zero, List.set_cons_succ]
    refine take_row 6 rfl (by kernel_rfl) (by kernel_rfl) (by kernel_rfl) (fun _ _ _ _ h => h) (by rfl) rfl rfl rfl (fun _ hSw => hSw.2.2.2.2.1) hu rfl hiad (HS.out _ HH0.out) ?_
    try simp only [List.set_cons_zero, List.set_cons_succ]
    refine two_ready 4 7 (by kernel_rfl) rfl rfl (by rfl) (by rfl) (fun K hK => ?_) (fun K hK => ?_)
    · go_simp
      refine (add_any l a v0 HL.out HA.out HAB.out).mono ?_
      rintro e v1 ⟨rfl, hb⟩
      go_wp2_with fail
      refine hK.out _ _ (HS.out _ (Below.step HH0.out hb)) ?_
      clear hK K
      try simp only [Act.put, List.setIfInBounds_toArray, List.set_cons_zero, List.set_cons_succ]
      have HH2 := Lib.hid (Below.step HH0.out hb)
      clear hb HH0
      refine one_ready 7 (by kernel_rfl) rfl (by rfl) (fun K hK => ?_)
      refine wp_bs2 _ _  rfl l ad (by rfl) (by rfl)  HL.out IAD.out ?_
      rw [put_eq rfl]
      try simp only [List.set_cons_zero, List.set_cons_succ]
      refine hK.out _ _ (HS.out _ (Below.alloc HH2.out (Below.size HH2.out) _)) ?_
      clear hK K
      have HH4 := Lib.hid (Below.alloc HH2.out (Below.size HH2.out) (Obj.cells (uC (l ++ ad)) 24))
      have HB6 := Lib.hid (heap_alloc_new v1 (Obj.cells (uC (l ++ ad)) 24))
      clear HH2
      generalize v1.alloc (Obj.cells (uC (l ++ ad)) 24) = v3 at *
      generalize v1.heap.size = b5 at *
      refine one_ready 8 (by kernel_rfl) rfl (by rfl) (fun K hK => ?_)
      go_simp
      refine (join2 l ad _ _ v3 HL.out IAD.out HB6.out).mono ?_
      rintro e v7 ⟨rfl, hb⟩
      go_wp2_with fail
      refine hK.out _ _ (HS.out _ (Below.step HH4.out hb)) ?_
      clear hK K
      try simp only [Act.put, List.setIfInBounds_toArray, List.set_cons_zero, List.set_cons_succ]
      have HH8 := Lib.hid (Below.step HH4.out hb)
      clear hb HH4 HB6
      refine take_val 9 (.bool true) rfl (by kernel_rfl) (by kernel_rfl) (by kernel_rfl) (fun _ _ _ _ h => h) (by rfl) rfl (fun w _ => val_eqB _ _ _ rfl (badd l (bpos a 0) (bpos a 1) (bpos a 2) (bpos a 3)) (bjoin l ad) rfl rfl (badd_ok HL.out _ _ _ _) (bjoin_ok HL.out IAD.out) EQA.out _) (HS.out _ HH8.out) ?_
      try simp only [List.set_cons_zero, List.set_cons_succ]
      refine take_val 10 (.bool true) rfl (by kernel_rfl) (by kernel_rfl) (by kernel_rfl) (fun _ _ _ _ h => h) (by rfl) rfl (fun w _ => by go_simp) (HS.out _ HH8.out) ?_
      try simp only [List.set_cons_zero, List.set_cons_succ]
      refine take_val 11 (.bool true) rfl (by kernel_rfl) (by kernel_rfl) (by kernel_rfl) (fun _ _ _ _ h => h) (by rfl) rfl (fun w _ => by go_simp) (HS.out _ HH8.out) ?_
      try simp only [List.set_cons_zero, List.set_cons_succ]
      refine take_row 12 rfl (by kernel_rfl) (by kernel_rfl) (by kernel_rfl) (fun _ _ _ _ h => h) (by rfl) rfl rfl rfl (fun _ hSw => hSw.1) hu rfl hil (HS.out _ HH8.out) ?_
      try simp only [List.set_cons_zero, List.set_cons_succ]
      refine take_row 13 rfl (by kernel_rfl) (by kernel_rfl) (by kernel_rfl) (fun _ _ _ _ h => h) (by rfl) rfl rfl rfl (fun _ hSw => hSw.2.2.2.2.2.1) hu27 rfl hia (HS.out _ HH8.out) ?_
      try simp only [List.set_cons_zero, List.set_cons_succ]
      refine one_ready 14 (by kernel_rfl) rfl (by rfl) (fun K hK => ?_)
      go_simp
      refine (has_any l a v7 HL.out HA.out HAB.out).mono ?_
      rintro e v9 ⟨rfl, hb⟩
      rw [HC.out]
      go_wp2_with fail
      refine hK.out _ _ (HS.out _ (Below.step HH8.out hb)) ?_
      clear hK K
      try simp only [Act.put, List.setIfInBounds_toArray, List.set_cons_zero, List.set_cons_succ]
      have HH10 := Lib.hid (Below.step HH8.out hb)
      clear hb HH8
      refine take_val 15 (.bool false) rfl (by kernel_rfl) (by kernel_rfl) (by kernel_rfl) (fun _ _ _ _ h => h) (by rfl) rfl (fun w _ => by go_simp) (HS.out _ HH10.out) ?_
      try simp only [List.set_cons_zero, List.set_cons_succ]
      refine take_val 16 (.bool false) rfl (by kernel_rfl) (by kernel_rfl) (by kernel_rfl) (fun _ _ _ _ h => h) (by rfl) rfl (fun w _ => by go_simp) (HS.out _ HH10.out) ?_
      try simp only [List.set_cons_zero, List.set_cons_succ]
      refine take_row 17 rfl (by kernel_rfl) (by kernel_rfl) (by kernel_rfl) (fun _ _ _ _ h => h) (by rfl) rfl rfl rfl (fun _ hSw => hSw.2.2.2.1) hu rfl hilm (HS.out _ HH10.out) ?_
      try simp only [List.set_cons_zero, List.set_cons_succ]
      refine take_row 18 rfl (by kernel_rfl) (by kernel_rfl) (by kernel_rfl) (fun _ _ _ _ h => h) (by rfl) rfl rfl rfl (fun _ hSw => hSw.2.2.2.2.2.1) hu27 rfl hia (HS.out _ HH10.out) ?_
      try simp only [List.set_cons_zero, List.set_cons_succ]
      refine one_ready 19 (by kernel_rfl) rfl (by rfl) (fun K hK => ?_)
      go_simp
      refine (has_any lm a v9 ILM.out HA.out HAB.out).mono ?_
      rintro e v11 ⟨rfl, hb⟩
      rw [HC2.out HC.out]
      go_wp2_with fail
      refine hK.out _ _ (HS.out _ (Below.step HH10.out hb)) ?_
      clear hK K
      try simp only [Act.put, List.setIfInBounds_toArray, List.set_cons_zero, List.set_cons_succ]
      have HH12 := Lib.hid (Below.step HH10.out hb)
      clear hb HH10
      refine take_val 20 (.bool true) rfl (by kernel_rfl) (by kernel_rfl) (by kernel_rfl) (fun _ _ _ _ h => h) (by rfl) rfl (fun w _ => by go_simp) (HS.out _ HH12.out) ?_
      try simp only [List.set_cons_zero, List.set_cons_succ]
      refine take_val 21 (.bool true) rfl (by kernel_rfl) (by kernel_rfl) (by kernel_rfl) (fun _ _ _ _ h => h) (by rfl) rfl (fun w _ => by go_simp) (HS.out _ HH12.out) ?_
      try simp only [List.set_cons_zero, List.set_cons_succ]
      refine take_val 22 (.bool true) rfl (by kernel_rfl) (by kernel_rfl) (by kernel_rfl) (fun _ _ _ _ h => h) (by rfl) rfl (fun w _ => by go_simp) (HS.out _ HH12.out) ?_
      try simp only [List.set_cons_zero, List.set_cons_succ]
      refine take_row 23 rfl (by kernel_rfl) (by kernel_rfl) (by kernel_rfl) (fun _ _ _ _ h => h) (by rfl) rfl rfl rfl (fun _ hSw => hSw.2.2.2.2.1) hu rfl hiad (HS.out _ HH12.out) ?_
      try simp only [List.set_cons_zero, List.set_cons_succ]
      refine take_row 24 rfl (by kernel_rfl) (by kernel_rfl) (by kernel_rfl) (fun _ _ _ _ h => h) (by rfl) rfl rfl rfl (fun _ hSw => hSw.2.2.2.2.2.1) hu27 rfl hia (HS.out _ HH12.out) ?_
      try simp only [List.set_cons_zero, List.set_cons_succ]
      refine one_ready 25 (by kernel_rfl) rfl (by rfl) (fun K hK => ?_)
      go_simp
      refine (has_any ad a v11 IAD.out HA.out HAB.out).mono ?_
      rintro e v13 ⟨rfl, hb⟩
      rw [HC3.out]
      go_wp2_with fail
      refine hK.out _ _ (HS.out _ (Below.step HH12.out hb)) ?_
      clear hK K
      try simp only [Act.put, List.setIfInBounds_toArray, List.set_cons_zero, List.set_cons_succ]
      have HH14 := Lib.hid (Below.step HH12.out hb)
      clear hb HH12
      refine take_val 26 (.bool true) rfl (by kernel_rfl) (by kernel_rfl) (by kernel_rfl) (fun _ _ _ _ h => h) (by rfl) rfl (fun w _ => by go_simp) (HS.out _ HH14.out) ?_
      try simp only [List.set_cons_zero, List.set_cons_succ]
      refine take_val 27 (.bool true) rfl (by kernel_rfl) (by kernel_rfl) (by kernel_rfl) (fun _ _ _ _ h => h) (by rfl) rfl (fun w _ => by go_simp) (HS.out _ HH14.out) ?_
      try simp only [List.set_cons_zero, List.set_cons_succ]
      refine wpAnyH_done (by kernel_rfl) ?_ _
      refine NoPanic.normal ?_
      go_wp2_with fail
      try go_ret
      exact ⟨rfl, Below.step B8.out HH14.out⟩
    · refine wp_bs2 _ _  rfl l ad (by rfl) (by rfl)  HL.out IAD.out ?_
      rw [put_eq rfl]
      try simp only [List.set_cons_zero, List.set_cons_succ]
      refine hK.out _ _ (HS.out _ (Below.alloc HH0.out (Below.size HH0.out) _)) ?_
      clear hK K
      have HH16 := Lib.hid (Below.alloc HH0.out (Below.size HH0.out) (Obj.cells (uC (l ++ ad)) 24))
      have HB18 := Lib.hid (heap_alloc_new v0 (Obj.cells (uC (l ++ ad)) 24))
      clear HH0
      generalize v0.alloc (Obj.cells (uC (l ++ ad)) 24) = v15 at *
      generalize v0.heap.size = b17 at *
      refine one_ready 4 (by kernel_rfl) rfl (by rfl) (fun K hK => ?_)
      go_simp
      refine (add_any l a v15 HL.out HA.out HAB.out).mono ?_
      rintro e v19 ⟨rfl, hb⟩
      go_wp2_with fail
      refine hK.out _ _ (HS.out _ (Below.step HH16.out hb)) ?_
      clear hK K
      try simp only [Act.put, List.setIfInBounds_toArray, List.set_cons_zero, List.set_cons_succ]
      have HH20 := Lib.hid (Below.step HH16.out hb)
      have HB21 := Lib.hid ((hb.block _ (lt_of_block HB18.out)).trans HB18.out)
      clear hb HH16 HB18
      refine one_ready 8 (by kernel_rfl) rfl (by rfl) (fun K hK => ?_)
      go_simp
      refine (join2 l ad _ _ v19 HL.out IAD.out HB21.out).mono ?_
      rintro e v22 ⟨rfl, hb⟩
      go_wp2_with fail
      refine hK.out _ _ (HS.out _ (Below.step HH20.out hb)) ?_
      clear hK K
      try simp only [Act.put, List.setIfInBounds_toArray, List.set_cons_zero, List.set_cons_succ]
      have HH23 := Lib.hid (Below.step HH20.out hb)
      clear hb HH20 HB21
      refine take_val 9 (.bool true) rfl (by kernel_rfl) (by kernel_rfl) (by kernel_rfl) (fun _ _ _ _ h => h) (by rfl) rfl (fun w _ => val_eqB _ _ _ rfl (badd l (bpos a 0) (bpos a 1) (bpos a 2) (bpos a 3)) (bjoin l ad) rfl rfl (badd_ok HL.out _ _ _ _) (bjoin_ok HL.out IAD.out) EQA.out _) (HS.out _ HH23.out) ?_
      try simp only [List.set_cons_zero, List.set_cons_succ]
      refine take_val 10 (.bool true) rfl (by kernel_rfl) (by kernel_rfl) (by kernel_rfl) (fun _ _ _ _ h => h) (by rfl) rfl (fun w _ => by go_simp) (HS.out _ HH23.out) ?_
      try simp only [List.set_cons_zero, List.set_cons_succ]
      refine take_val 11 (.bool true) rfl (by kernel_rfl) (by kernel_rfl) (by kernel_rfl) (fun _ _ _ _ h => h) (by rfl) rfl (fun w _ => by go_simp) (HS.out _ HH23.out) ?_
      try simp only [List.set_cons_zero, List.set_cons_succ]
      refine take_row 12 rfl (by kernel_rfl) (by kernel_rfl) (by kernel_rfl) (fun _ _ _ _ h => h) (by rfl) rfl rfl rfl (fun _ hSw => hSw.1) hu rfl hil (HS.out _ HH23.out) ?_
      try simp only [List.set_cons_zero, List.set_cons_succ]
      refine take_row 13 rfl (by kernel_rfl) (by kernel_rfl) (by kernel_rfl) (fun _ _ _ _ h => h) (by rfl) rfl rfl rfl (fun _ hSw => hSw.2.2.2.2.2.1) hu27 rfl hia (HS.out _ HH23.out) ?_
      try simp only [List.set_cons_zero, List.set_cons_succ]
      refine one_ready 14 (by kernel_rfl) rfl (by rfl) (fun K hK => ?_)
      go_simp
      refine (has_any l a v22 HL.out HA.out HAB.out).mono ?_
      rintro e v24 ⟨rfl, hb⟩
      rw [HC.out]
      go_wp2_with fail
      refine hK.out _ _ (HS.out _ (Below.step HH23.out hb)) ?_
      clear hK K
      try simp only [Act.put, List.setIfInBounds_toArray, List.set_cons_zero, List.set_cons_succ]
      have HH25 := Lib.hid (Below.step HH23.out hb)
      clear hb HH23
      refine take_val 15 (.bool false) rfl (by kernel_rfl) (by kernel_rfl) (by kernel_rfl) (fun _ _ _ _ h => h) (by rfl) rfl (fun w _ => by go_simp) (HS.out _ HH25.out) ?_
      try simp only [List.set_cons_zero, List.set_cons_succ]
      refine take_val 16 (.bool false) rfl (by kernel_rfl) (by kernel_rfl) (by kernel_rfl) (fun _ _ _ _ h => h) (by rfl) rfl (fun w _ => by go_simp) (HS.out _ HH25.out) ?_
      try simp only [List.set_cons_zero, List.set_cons_succ]
      refine take_row 17 rfl (by kernel_rfl) (by kernel_rfl) (by kernel_rfl) (fun _ _ _ _ h => h) (by rfl) rfl rfl rfl (fun _ hSw => hSw.2.2.2.1) hu rfl hilm (HS.out _ HH25.out) ?_
      try simp only [List.set_cons_zero, List.set_cons_succ]
      refine take_row 18 rfl (by kernel_rfl) (by kernel_rfl) (by kernel_rfl) (fun _ _ _ _ h => h) (by rfl) rfl rfl rfl (fun _ hSw => hSw.2.2.2.2.2.1) hu27 rfl hia (HS.out _ HH25.out) ?_
      try simp only [List.set_cons_zero, List.set_cons_succ]
      refine one_ready 19 (by kernel_rfl) rfl (by rfl) (fun K hK => ?_)
      go_simp
      refine (has_any lm a v24 ILM.out HA.out HAB.out).mono ?_
      rintro e v26 ⟨rfl, hb⟩
      rw [HC2.out HC.out]
      go_wp2_with fail
      refine hK.out _ _ (HS.out _ (Below.step HH25.out hb)) ?_
      clear hK K
      try simp only [Act.put, List.setIfInBounds_toArray, List.set_cons_zero, List.set_cons_succ]
      have HH27 := Lib.hid (Below.step HH25.out hb)
      clear hb HH25
      refine take_val 20 (.bool true) rfl (by kernel_rfl) (by kernel_rfl) (by kernel_rfl) (fun _ _ _ _ h => h) (by rfl) rfl (fun w _ => by go_simp) (HS.out _ HH27.out) ?_
      try simp only [List.set_cons_zero, List.set_cons_succ]
      refine take_val 21 (.bool true) rfl (by kernel_rfl) (by kernel_rfl) (by kernel_rfl) (fun _ _ _ _ h => h) (by rfl) rfl (fun w _ => by go_simp) (HS.out _ HH27.out) ?_
      try simp only [List.set_cons_zero, List.set_cons_succ]
      refine take_val 22 (.bool true) rfl (by kernel_rfl) (by kernel_rfl) (by kernel_rfl) (fun _ _ _ _ h => h) (by rfl) rfl (fun w _ => by go_simp) (HS.out _ HH27.out) ?_
      try simp only [List.set_cons_zero, List.set_cons_succ]
      refine take_row 23 rfl (by kernel_rfl) (by kernel_rfl) (by kernel_rfl) (fun _ _ _ _ h => h) (by rfl) rfl rfl rfl (fun _ hSw => hSw.2.2.2.2.1) hu rfl hiad (HS.out _ HH27.out) ?_
      try simp only [List.set_cons_zero, List.set_cons_succ]
      refine take_row 24 rfl (by kernel_rfl) (by kernel_rfl) (by kernel_rfl) (fun _ _ _ _ h => h) (by rfl) rfl rfl rfl (fun _ hSw => hSw.2.2.2.2.2.1) hu27 rfl hia (HS.out _ HH27.out) ?_
      try simp only [List.set_cons_zero, List.set_cons_succ]
      refine one_ready 25 (by kernel_rfl) rfl (by rfl) (fun K hK => ?_)
      go_simp
      refine (has_any ad a v26 IAD.out HA.out HAB.out).mono ?_
      rintro e v28 ⟨rfl, hb⟩
      rw [HC3.out]
      go_wp2_with fail
      refine hK.out _ _ (HS.out _ (Below.step HH27.out hb)) ?_
      clear hK K
      try simp only [Act.put, List.setIfInBounds_toArray, List.set_cons_zero, List.set_cons_succ]
      have HH29 := Lib.hid (Below.step HH27.out hb)
      clear hb HH27
      refine take_val 26 (.bool true) rfl (by kernel_rfl) (by kernel_rfl) (by kernel_rfl) (fun _ _ _ _ h => h) (by rfl) rfl (fun w _ => by go_simp) (HS.out _ HH29.out) ?_
      try simp only [List.set_cons_zero, List.set_cons_succ]
      refine take_val 27 (.bool true) rfl (by kernel_rfl) (by kernel_rfl) (by kernel_rfl) (fun _ _ _ _ h => h) (by rfl) rfl (fun w _ => by go_simp) (HS.out _ HH29.out) ?_
      try simp only [List.set_cons_zero, List.set_cons_succ]
      refine wpAnyH_done (by kernel_rfl) ?_ _
      refine NoPanic.normal ?_
      go_wp2_with fail
      try go_ret
      exact ⟨rfl, Below.step B8.out HH29.out⟩
end Go.Proofs.Ythfjonicolhjnaa
