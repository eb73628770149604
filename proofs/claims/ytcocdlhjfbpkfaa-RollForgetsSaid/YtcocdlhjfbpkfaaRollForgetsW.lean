/- RollForgets: its walk. -/
import Derived.Test.YtcocdlhjfbpkfaaRollPushed
namespace Go.Proofs.Ytcocdlhjfbpkfaa
open Go.RowKit Plain
theorem strN_append (s t : ByteArray) : strN (s ++ t) = strN s ++ strN t := by
  simp [strN]
theorem rof_a : rof (strN ⟨#[97]⟩) = 97 := by decide +kernel
set_option maxRecDepth 100000 in
set_option maxHeartbeats 4000000 in
theorem rollForgets_any (s t : ByteArray) (w : World) (hs : s.size ≤ 140737488351232) (ht : t.size ≤ 140737488351232) :
    Calls Try.prog 11 #[.string s, .string t] w fun e w' => e = .returned (.bool true) ∧ Below w.heap.size w w' := by
  have i46' : (Try.prog.info? 46).map (·.size) = some 18 := by kernel_rfl
  have i46 := Lib.hid i46'
  have P0 : Hid (∀ wx, Calls Try.prog 23 #[.agg #[Value.int IntKind.u8 0, Value.int IntKind.u8 0, Value.int IntKind.u8 0, Value.int IntKind.u8 0, Value.int IntKind.u8 0, Value.int IntKind.u8 0, Value.int IntKind.u8 0, Value.int IntKind.u8 0, Value.int IntKind.u8 0, Value.int IntKind.u8 0, Value.int IntKind.u8 0, Value.int IntKind.u8 0, Value.int IntKind.u8 0, Value.int IntKind.u8 0, Value.int IntKind.u8 0, Value.int IntKind.u8 0, Value.int IntKind.i64 0, Value.int IntKind.u32 0], .string s] wx fun e w' =>
      (∃ win', Win (strN s) win' ∧ e = .returned (.tuple #[.agg (rC win' ((strN s).length % 16) (rof (strN s))), .bool true])) ∧ Below wx.heap.size wx w') :=
    fun wx => pushed_any (List.replicate 16 0) [] s wx Win.nil (by simp) (by omega)
  have P1 : Hid (∀ win', Win (strN s) win' → ∀ wx, Calls Try.prog 23 #[.agg (rC win' ((strN s).length % 16) (rof (strN s))), .string t] wx fun e w' =>
      (∃ win2, Win (strN s ++ strN t) win2 ∧ e = .returned (.tuple #[.agg (rC win2 ((strN s ++ strN t).length % 16) (rof (strN s ++ strN t))), .bool true])) ∧ Below wx.heap.size wx w') :=
    fun win' hw wx => pushed_any win' (strN s) t wx hw (strN_lt s) (by omega)
  have hsz : (s ++ t).size ≤ 9223372036854775807 := by rw [← strN_length, strN_append, List.length_append, strN_length, strN_length]; omega
  have OA := Lib.hid fun wx => of_any ⟨#[97]⟩ wx (by decide)
  have OS := Lib.hid fun wx => of_any s wx (by unfold maxLen; omega)
  have OT := Lib.hid fun wx => of_any t wx (by unfold maxLen; omega)
  have OST := Lib.hid fun wx => of_any (s ++ t) wx (by unfold maxLen; omega)
  have hlast : Hid (16 ≤ t.size → rof (strN s ++ strN t) = rof (strN t)) := fun h => rof_last _ _ (by rw [strN_length]; exact h)
  rw [strN_append] at OST
  clear i46' hsz
  have N64 : (t.size : Int) ≤ 140737488351232 := by omega
  have hss : s.size + t.size ≤ 9223372036854775807 := by omega
  clear hs ht
  go_enter Try.func11, Try.ntmps11
  go_wp2_with fail
  refine (P0.out _).mono ?_
  rintro e w2 ⟨⟨wa, hwa, rfl⟩, hb2⟩
  have B2 := Lib.hid hb2
  have HWA := Lib.hid hwa
  have P1a := Lib.hid (P1.out wa hwa)
  have sA : Hid ((rC wa ((strN s).length % 16) (rof (strN s))).size = 18) := rC_size _ _ _ hwa.1
  have oA : Hid ((rC wa ((strN s).length % 16) (rof (strN s))).all (·.oneCell') = true) := rC_one _ _ _
  have uA : Hid ((rC wa ((strN s).length % 16) (rof (strN s)))[17]? = some (.int .u32 (rof (strN s) : Int))) := rC_sum _ _ _ hwa.1
  clear P0 P1 hwa hb2
  generalize rC wa ((strN s).length % 16) (rof (strN s)) = CA at *
  have RA := Lib.hid (heap_alloc_new w2 (.cells CA 46))
  have BA := Lib.hid (B2.out.alloc B2.out.size (.cells CA 46))
  go_wp2_with (first
    | (with_reducible refine wpList_store_new rfl 46 (.tmp 5) (.tmp 13) rfl w2.heap.size CA rfl rfl ?_ ?_ oA.out rfl ?_; (rw [sA.out]; with_unfolding_all rfl); (rw [sA.out]; exact i46.out))
    | (with_reducible refine wpList_load_row rfl 46 (.tmp 5) rfl w2.heap.size rfl 46 CA (0, 0) _ RA.out Try.underlying46 rfl ?_ ?_; (rw [sA.out]; exact i46.out)))
  generalize w2.alloc (.cells CA 46) = w3 at *
  refine (P1a.out _).mono ?_
  rintro e w4 ⟨⟨wb, hwb, rfl⟩, hb4⟩
  have RA4 := Lib.hid ((hb4.block _ (lt_of_block RA.out)).trans RA.out)
  have B4 := Lib.hid (Below.step BA.out hb4)
  have sB : Hid ((rC wb ((strN s ++ strN t).length % 16) (rof (strN s ++ strN t))).size = 18) := rC_size _ _ _ hwb.1
  have oB : Hid ((rC wb ((strN s ++ strN t).length % 16) (rof (strN s ++ strN t))).all (·.oneCell') = true) := rC_one _ _ _
  have uB : Hid ((rC wb ((strN s ++ strN t).length % 16) (rof (strN s ++ strN t)))[17]? = some (.int .u32 (rof (strN s ++ strN t) : Int))) := rC_sum _ _ _ hwb.1
  clear P1a hwb hb4 RA BA
  generalize rC wb ((strN s ++ strN t).length % 16) (rof (strN s ++ strN t)) = CB at *
  have RB5 := Lib.hid (heap_alloc_new w4 (.cells CB 46))
  have RA5 := Lib.hid ((Below.heap_alloc w4 (.cells CB 46) _ (lt_of_block RA4.out)).trans RA4.out)
  have B5 := Lib.hid (B4.out.alloc B4.out.size (.cells CB 46))
  go_wp2_with (first
    | (with_reducible refine wpList_store_new rfl 46 (.tmp 7) (.tmp 19) rfl w4.heap.size CB rfl rfl ?_ ?_ oB.out rfl ?_; (rw [sB.out]; with_unfolding_all rfl); (rw [sB.out]; exact i46.out)))
  generalize w4.alloc (.cells CB 46) = w5 at *
  clear RA4 B4
  generalize w4.heap.size = nB at *
  generalize w2.heap.size = nA at *
  generalize rof (strN s ++ strN t) = rb at *
  generalize rof (strN s) = ra at *
  have hSall : ∀ w', Below w5.heap.size w5 w' → (w'.cell? ⟨nA, 17, none⟩ = some (.int .u32 (ra : Int)) ∧ w'.cell? ⟨nB, 17, none⟩ = some (.int .u32 (rb : Int)) ∧ Below w5.heap.size w5 w') := by
    intro w' hb
    refine ⟨?_, ?_, hb⟩
    · rw [cell_of_row _ _ _ _ _ _ ((hb.block nA (lt_of_block RA5.out)).trans RA5.out)]; exact uA.out
    · rw [cell_of_row _ _ _ _ _ _ ((hb.block nB (lt_of_block RB5.out)).trans RB5.out)]; exact uB.out
  have HS := Lib.hid hSall
  clear hSall RA5 RB5
  refine wp_region_noPanic ?_
  refine wp_region_held_drew (S := fun w' => (w'.cell? ⟨nA, 17, none⟩ = some (.int .u32 (ra : Int)) ∧ w'.cell? ⟨nB, 17, none⟩ = some (.int .u32 (rb : Int)) ∧ Below w5.heap.size w5 w')) (by kernel_rfl) (HS.out _ (Below.drew (Below.refl _ _))) (fun _ => ?_)
  have HH0 := Lib.hid (Below.drew (Below.refl w5.heap.size w5))
  generalize w5.drew = v0 at *
  refine take_val 0 (.bool true) rfl (by kernel_rfl) (by kernel_rfl) (by kernel_rfl) (fun _ _ _ _ h => h) (by rfl) rfl (fun w _ => by go_simp) (HS.out _ HH0.out) ?_
  try simp only [List.set_cons_zero, List.set_cons_succ]
  refine take_val 1 (.bool false) rfl (by kernel_rfl) (by kernel_rfl) (by kernel_rfl) (fun _ _ _ _ h => h) (by rfl) rfl (fun w _ => by go_simp) (HS.out _ HH0.out) ?_
  try simp only [List.set_cons_zero, List.set_cons_succ]
  refine take_val 2 (.bool false) rfl (by kernel_rfl) (by kernel_rfl) (by kernel_rfl) (fun _ _ _ _ h => h) (by rfl) rfl (fun w _ => by go_simp) (HS.out _ HH0.out) ?_
  try simp only [List.set_cons_zero, List.set_cons_succ]
  refine take_val 3 (.bool true) rfl (by kernel_rfl) (by kernel_rfl) (by kernel_rfl) (fun _ _ _ _ h => h) (by rfl) rfl (fun w _ => by go_simp) (HS.out _ HH0.out) ?_
  try simp only [List.set_cons_zero, List.set_cons_succ]
  refine take_val 4 (.bool false) rfl (by kernel_rfl) (by kernel_rfl) (by kernel_rfl) (fun _ _ _ _ h => h) (by rfl) rfl (fun w _ => by go_simp) (HS.out _ HH0.out) ?_
  try simp only [List.set_cons_zero, List.set_cons_succ]
  refine take_val 5 (.bool false) rfl (by kernel_rfl) (by kernel_rfl) (by kernel_rfl) (fun _ _ _ _ h => h) (by rfl) rfl (fun w _ => by go_simp) (HS.out _ HH0.out) ?_
  try simp only [List.set_cons_zero, List.set_cons_succ]
  refine take_val 6 (.bool false) rfl (by kernel_rfl) (by kernel_rfl) (by kernel_rfl) (fun _ _ _ _ h => h) (by rfl) rfl (fun w _ => by go_simp) (HS.out _ HH0.out) ?_
  try simp only [List.set_cons_zero, List.set_cons_succ]
  refine one_ready 7 (by kernel_rfl) rfl (by rfl) (fun K hK => ?_)
  go_simp
  refine (OA.out v0).mono ?_
  rintro e v1 ⟨rfl, hb⟩
  rw [rof_a]
  go_wp2_with fail
  refine hK.out _ _ (HS.out _ (Below.step HH0.out hb)) ?_
  clear hK K
  try simp only [Act.put, List.setIfInBounds_toArray, List.set_cons_zero, List.set_cons_succ]
  have HH2 := Lib.hid (Below.step HH0.out hb)
  clear hb HH0
  refine take_val 8 (.bool false) rfl (by kernel_rfl) (by kernel_rfl) (by kernel_rfl) (fun _ _ _ _ h => h) (by rfl) rfl (fun w _ => by go_simp) (HS.out _ HH2.out) ?_
  try simp only [List.set_cons_zero, List.set_cons_succ]
  refine take_val 9 (.bool false) rfl (by kernel_rfl) (by kernel_rfl) (by kernel_rfl) (fun _ _ _ _ h => h) (by rfl) rfl (fun w _ => by go_simp) (HS.out _ HH2.out) ?_
  try simp only [List.set_cons_zero, List.set_cons_succ]
  refine take_val 10 (.bool false) rfl (by kernel_rfl) (by kernel_rfl) (by kernel_rfl) (fun _ _ _ _ h => h) (by rfl) rfl (fun w _ => by go_simp) (HS.out _ HH2.out) ?_
  try simp only [List.set_cons_zero, List.set_cons_succ]
  refine take_val 11 (.pointer (some ⟨nA, 17, none⟩)) rfl (by kernel_rfl) (by kernel_rfl) (by kernel_rfl) (fun _ _ _ _ h => h) (by rfl) rfl (fun w _ => by go_simp) (HS.out _ HH2.out) ?_
  try simp only [List.set_cons_zero, List.set_cons_succ]
  refine take_val 12 (.int .u32 (ra : Int)) rfl (by kernel_rfl) (by kernel_rfl) (by kernel_rfl) (fun _ _ _ _ h => h) (by rfl) rfl (fun w hSw => by have h1 := hSw.1; have h2 := hSw.2.1; go_simp) (HS.out _ HH2.out) ?_
  try simp only [List.set_cons_zero, List.set_cons_succ]
  refine take_val 13 (.string s) rfl (by kernel_rfl) (by kernel_rfl) (by kernel_rfl) (fun _ _ _ _ h => h) (by rfl) rfl (fun w _ => by go_simp) (HS.out _ HH2.out) ?_
  try simp only [List.set_cons_zero, List.set_cons_succ]
  refine one_ready 14 (by kernel_rfl) rfl (by rfl) (fun K hK => ?_)
  go_simp
  refine (OS.out v1).mono ?_
  rintro e v3 ⟨rfl, hb⟩
  go_wp2_with fail
  refine hK.out _ _ (HS.out _ (Below.step HH2.out hb)) ?_
  clear hK K
  try simp only [Act.put, List.setIfInBounds_toArray, List.set_cons_zero, List.set_cons_succ]
  have HH4 := Lib.hid (Below.step HH2.out hb)
  clear hb HH2
  refine take_val 15 (.bool false) rfl (by kernel_rfl) (by kernel_rfl) (by kernel_rfl) (fun _ _ _ _ h => h) (by rfl) rfl (fun w _ => by go_simp) (HS.out _ HH4.out) ?_
  try simp only [List.set_cons_zero, List.set_cons_succ]
  refine take_val 16 (.bool false) rfl (by kernel_rfl) (by kernel_rfl) (by kernel_rfl) (fun _ _ _ _ h => h) (by rfl) rfl (fun w _ => by go_simp) (HS.out _ HH4.out) ?_
  try simp only [List.set_cons_zero, List.set_cons_succ]
  refine take_val 17 (.bool false) rfl (by kernel_rfl) (by kernel_rfl) (by kernel_rfl) (fun _ _ _ _ h => h) (by rfl) rfl (fun w _ => by go_simp) (HS.out _ HH4.out) ?_
  try simp only [List.set_cons_zero, List.set_cons_succ]
  refine take_val 18 (.pointer (some ⟨nB, 17, none⟩)) rfl (by kernel_rfl) (by kernel_rfl) (by kernel_rfl) (fun _ _ _ _ h => h) (by rfl) rfl (fun w _ => by go_simp) (HS.out _ HH4.out) ?_
  try simp only [List.set_cons_zero, List.set_cons_succ]
  refine take_val 19 (.int .u32 (rb : Int)) rfl (by kernel_rfl) (by kernel_rfl) (by kernel_rfl) (fun _ _ _ _ h => h) (by rfl) rfl (fun w hSw => by have h1 := hSw.1; have h2 := hSw.2.1; go_simp) (HS.out _ HH4.out) ?_
  try simp only [List.set_cons_zero, List.set_cons_succ]
  refine take_val 20 (.string s) rfl (by kernel_rfl) (by kernel_rfl) (by kernel_rfl) (fun _ _ _ _ h => h) (by rfl) rfl (fun w _ => by go_simp) (HS.out _ HH4.out) ?_
  try simp only [List.set_cons_zero, List.set_cons_succ]
  refine take_val 21 (.string t) rfl (by kernel_rfl) (by kernel_rfl) (by kernel_rfl) (fun _ _ _ _ h => h) (by rfl) rfl (fun w _ => by go_simp) (HS.out _ HH4.out) ?_
  try simp only [List.set_cons_zero, List.set_cons_succ]
  refine take_val 22 (.string (s ++ t)) rfl (by kernel_rfl) (by kernel_rfl) (by kernel_rfl) (fun _ _ _ _ h => h) (by rfl) rfl (fun w _ => by go_simp) (HS.out _ HH4.out) ?_
  try simp only [List.set_cons_zero, List.set_cons_succ]
  refine one_ready 23 (by kernel_rfl) rfl (by rfl) (fun K hK => ?_)
  go_simp
  refine (OST.out v3).mono ?_
  rintro e v5 ⟨rfl, hb⟩
  go_wp2_with fail
  refine hK.out _ _ (HS.out _ (Below.step HH4.out hb)) ?_
  clear hK K
  try simp only [Act.put, List.setIfInBounds_toArray, List.set_cons_zero, List.set_cons_succ]
  have HH6 := Lib.hid (Below.step HH4.out hb)
  clear hb HH4
  refine take_val 24 (.bool false) rfl (by kernel_rfl) (by kernel_rfl) (by kernel_rfl) (fun _ _ _ _ h => h) (by rfl) rfl (fun w _ => by go_simp) (HS.out _ HH6.out) ?_
  try simp only [List.set_cons_zero, List.set_cons_succ]
  refine take_val 25 (.bool false) rfl (by kernel_rfl) (by kernel_rfl) (by kernel_rfl) (fun _ _ _ _ h => h) (by rfl) rfl (fun w _ => by go_simp) (HS.out _ HH6.out) ?_
  try simp only [List.set_cons_zero, List.set_cons_succ]
  refine wpAnyH_done (by kernel_rfl) ?_ _
  refine NoPanic.normal ?_
  go_wp2_with fail
  have HHA := HH6
  clear HH6
  refine wp_region_noPanic ?_
  refine wp_region_held_drew (S := fun w' => (w'.cell? ⟨nA, 17, none⟩ = some (.int .u32 (ra : Int)) ∧ w'.cell? ⟨nB, 17, none⟩ = some (.int .u32 (rb : Int)) ∧ Below w5.heap.size w5 w')) (by kernel_rfl) (HS.out _ (Below.drew HHA.out)) (fun _ => ?_)
  have HHB := Lib.hid (Below.drew HHA.out)
  clear HHA
  generalize v5.drew = u0 at *
  by_cases hsh : t.size < 16
  · have hI : (t.size : Int) < 16 := by omega
    refine take_val 0 (.string t) rfl (by kernel_rfl) (by kernel_rfl) (by kernel_rfl) (fun _ _ _ _ h => h) (by rfl) rfl (fun w _ => by go_simp) (HS.out _ HHB.out) ?_
    try simp only [List.set_cons_zero, List.set_cons_succ]
    refine take_val 1 (.int .i64 (t.size : Int)) rfl (by kernel_rfl) (by kernel_rfl) (by kernel_rfl) (fun _ _ _ _ h => h) (by rfl) rfl (fun w _ => by go_simp) (HS.out _ HHB.out) ?_
    try simp only [List.set_cons_zero, List.set_cons_succ]
    refine take_val 2 (.bool true) rfl (by kernel_rfl) (by kernel_rfl) (by kernel_rfl) (fun _ _ _ _ h => h) (by rfl) rfl (fun w _ => by go_simp) (HS.out _ HHB.out) ?_
    try simp only [List.set_cons_zero, List.set_cons_succ]
    refine take_val 3 (.bool true) rfl (by kernel_rfl) (by kernel_rfl) (by kernel_rfl) (fun _ _ _ _ h => h) (by rfl) rfl (fun w _ => by go_simp) (HS.out _ HHB.out) ?_
    try simp only [List.set_cons_zero, List.set_cons_succ]
    refine take_not 4 rfl (by kernel_rfl) (by kernel_rfl) (by kernel_rfl) (fun _ _ _ _ h => h) (by rfl) rfl (HS.out _ HHB.out) ?_
    try simp only [List.set_cons_zero, List.set_cons_succ]
    refine take_not 5 rfl (by kernel_rfl) (by kernel_rfl) (by kernel_rfl) (fun _ _ _ _ h => h) (by rfl) rfl (HS.out _ HHB.out) ?_
    try simp only [List.set_cons_zero, List.set_cons_succ]
    refine take_not 6 rfl (by kernel_rfl) (by kernel_rfl) (by kernel_rfl) (fun _ _ _ _ h => h) (by rfl) rfl (HS.out _ HHB.out) ?_
    try simp only [List.set_cons_zero, List.set_cons_succ]
    refine take_not 7 rfl (by kernel_rfl) (by kernel_rfl) (by kernel_rfl) (fun _ _ _ _ h => h) (by rfl) rfl (HS.out _ HHB.out) ?_
    try simp only [List.set_cons_zero, List.set_cons_succ]
    refine take_not 8 rfl (by kernel_rfl) (by kernel_rfl) (by kernel_rfl) (fun _ _ _ _ h => h) (by rfl) rfl (HS.out _ HHB.out) ?_
    try simp only [List.set_cons_zero, List.set_cons_succ]
    refine take_val 9 (.bool true) rfl (by kernel_rfl) (by kernel_rfl) (by kernel_rfl) (fun _ _ _ _ h => h) (by rfl) rfl (fun w _ => by go_simp) (HS.out _ HHB.out) ?_
    try simp only [List.set_cons_zero, List.set_cons_succ]
    refine take_val 10 (.bool true) rfl (by kernel_rfl) (by kernel_rfl) (by kernel_rfl) (fun _ _ _ _ h => h) (by rfl) rfl (fun w _ => by go_simp) (HS.out _ HHB.out) ?_
    try simp only [List.set_cons_zero, List.set_cons_succ]
    refine wpAnyH_done (by kernel_rfl) ?_ _
    refine NoPanic.normal ?_
    go_wp2_with fail
    try go_ret
    exact ⟨rfl, Below.step B5.out HHB.out⟩
  · have hI : ¬ (t.size : Int) < 16 := by omega
    have HLT := Lib.hid (hlast.out (by omega))
    refine take_val 0 (.string t) rfl (by kernel_rfl) (by kernel_rfl) (by kernel_rfl) (fun _ _ _ _ h => h) (by rfl) rfl (fun w _ => by go_simp) (HS.out _ HHB.out) ?_
    try simp only [List.set_cons_zero, List.set_cons_succ]
    refine take_val 1 (.int .i64 (t.size : Int)) rfl (by kernel_rfl) (by kernel_rfl) (by kernel_rfl) (fun _ _ _ _ h => h) (by rfl) rfl (fun w _ => by go_simp) (HS.out _ HHB.out) ?_
    try simp only [List.set_cons_zero, List.set_cons_succ]
    refine take_val 2 (.bool false) rfl (by kernel_rfl) (by kernel_rfl) (by kernel_rfl) (fun _ _ _ _ h => h) (by rfl) rfl (fun w _ => by go_simp) (HS.out _ HHB.out) ?_
    try simp only [List.set_cons_zero, List.set_cons_succ]
    refine take_val 3 (.bool false) rfl (by kernel_rfl) (by kernel_rfl) (by kernel_rfl) (fun _ _ _ _ h => h) (by rfl) rfl (fun w _ => by go_simp) (HS.out _ HHB.out) ?_
    try simp only [List.set_cons_zero, List.set_cons_succ]
    refine take_val 4 (.pointer (some ⟨nB, 17, none⟩)) rfl (by kernel_rfl) (by kernel_rfl) (by kernel_rfl) (fun _ _ _ _ h => h) (by rfl) rfl (fun w _ => by go_simp) (HS.out _ HHB.out) ?_
    try simp only [List.set_cons_zero, List.set_cons_succ]
    refine take_val 5 (.int .u32 (rb : Int)) rfl (by kernel_rfl) (by kernel_rfl) (by kernel_rfl) (fun _ _ _ _ h => h) (by rfl) rfl (fun w hSw => by have h1 := hSw.1; have h2 := hSw.2.1; go_simp) (HS.out _ HHB.out) ?_
    try simp only [List.set_cons_zero, List.set_cons_succ]
    refine take_val 6 (.string t) rfl (by kernel_rfl) (by kernel_rfl) (by kernel_rfl) (fun _ _ _ _ h => h) (by rfl) rfl (fun w _ => by go_simp) (HS.out _ HHB.out) ?_
    try simp only [List.set_cons_zero, List.set_cons_succ]
    refine one_ready 7 (by kernel_rfl) rfl (by rfl) (fun K hK => ?_)
    go_simp
    refine (OT.out u0).mono ?_
    rintro e v1 ⟨rfl, hb⟩
    rw [← HLT.out]
    go_wp2_with fail
    refine hK.out _ _ (HS.out _ (Below.step HHB.out hb)) ?_
    clear hK K
    try simp only [Act.put, List.setIfInBounds_toArray, List.set_cons_zero, List.set_cons_succ]
    have HH2 := Lib.hid (Below.step HHB.out hb)
    clear hb HHB
    refine take_val 8 (.bool true) rfl (by kernel_rfl) (by kernel_rfl) (by kernel_rfl) (fun _ _ _ _ h => h) (by rfl) rfl (fun w _ => by go_simp) (HS.out _ HH2.out) ?_
    try simp only [List.set_cons_zero, List.set_cons_succ]
    refine take_val 9 (.bool true) rfl (by kernel_rfl) (by kernel_rfl) (by kernel_rfl) (fun _ _ _ _ h => h) (by rfl) rfl (fun w _ => by go_simp) (HS.out _ HH2.out) ?_
    try simp only [List.set_cons_zero, List.set_cons_succ]
    refine take_val 10 (.bool true) rfl (by kernel_rfl) (by kernel_rfl) (by kernel_rfl) (fun _ _ _ _ h => h) (by rfl) rfl (fun w _ => by go_simp) (HS.out _ HH2.out) ?_
    try simp only [List.set_cons_zero, List.set_cons_succ]
    refine wpAnyH_done (by kernel_rfl) ?_ _
    refine NoPanic.normal ?_
    go_wp2_with fail
    try go_ret
    exact ⟨rfl, Below.step B5.out HH2.out⟩
end Go.Proofs.Ytcocdlhjfbpkfaa
