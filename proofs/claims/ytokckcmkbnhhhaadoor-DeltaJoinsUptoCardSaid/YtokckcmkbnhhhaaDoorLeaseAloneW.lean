/- The walk of LeaseAlone. -/
import Derived.Test.YtokckcmkbnhhhaaDoorLeaseW
namespace Go.Proofs.YtokckcmkbnhhhaaDoor
open Go.RowKit Plain
def askS : Nat → ByteArray
  | 0 => ⟨#[97]⟩
  | 1 => ⟨#[98]⟩
  | _ => ⟨#[99]⟩
theorem askS_ok (k : Nat) (h : k < 3) : chkB (askS k) = 0 ∧ (askS k).size = 1 := by
  have : k = 0 ∨ k = 1 ∨ k = 2 := by omega
  rcases this with rfl | rfl | rfl
  · exact ⟨by decide +kernel, rfl⟩
  · exact ⟨by decide +kernel, rfl⟩
  · exact ⟨by decide +kernel, rfl⟩
theorem conv_one (w : World) (c : Nat) (hc : c < 256) : (convert 75 9 (.slice (some ⟨w.heap.size, 0, none⟩) 1 1)).run Tryd.prog (w.alloc (.cells #[.int .u8 (c : Int)] 5)) = .ok (.string (strOf [c])) (w.alloc (.cells #[.int .u8 (c : Int)] 5)) :=
  run_string_of_row (l := [c]) _ _ _ _ Tryd.underlying75 Tryd.underlying5 Tryd.underlying9 _ (BRow.new w 5 [c]) (fun x hx => by rw [List.mem_singleton] at hx; omega) 1
set_option maxRecDepth 100000 in
theorem asker_any (n : Int) (w : World) : Calls Tryd.prog 17 #[.int .i64 n] w fun e w' => Below w.heap.size w w' ∧ ∃ k, k < 3 ∧ e = .returned (.string (askS k)) := by
  have HR := Lib.hid (rest_any n 3 w (by decide) (by decide))
  have HB : ∀ c : Int, Hid (Below w.heap.size w (w.alloc (.cells #[.int .u8 c] 5))) := fun c => (Below.refl _ _).alloc (Nat.le_refl _) _
  have HBB := Lib.hid HB
  clear HB
  go_enter Tryd.func17, Tryd.ntmps17
  go_wp2_with fail
  refine HR.out.mono ?_
  rintro e w1 ⟨⟨r, hr, rfl⟩, rfl⟩
  have h3 : r = 0 ∨ r = 1 ∨ r = 2 := by omega
  have c0 : (convert 75 9 (.slice (some ⟨w1.heap.size, 0, none⟩) 1 1)).run Tryd.prog (w1.alloc (.cells #[.int .u8 97] 5)) = .ok (.string (askS 0)) (w1.alloc (.cells #[.int .u8 97] 5)) := conv_one w1 97 (by decide)
  have c1 : (convert 75 9 (.slice (some ⟨w1.heap.size, 0, none⟩) 1 1)).run Tryd.prog (w1.alloc (.cells #[.int .u8 98] 5)) = .ok (.string (askS 1)) (w1.alloc (.cells #[.int .u8 98] 5)) := conv_one w1 98 (by decide)
  have c2 : (convert 75 9 (.slice (some ⟨w1.heap.size, 0, none⟩) 1 1)).run Tryd.prog (w1.alloc (.cells #[.int .u8 99] 5)) = .ok (.string (askS 2)) (w1.alloc (.cells #[.int .u8 99] 5)) := conv_one w1 99 (by decide)
  clear hr
  rcases h3 with rfl | rfl | rfl
  · go_wp2_with fail
    go_ret
    exact ⟨(HBB.out _).out, 0, by decide, rfl⟩
  · go_wp2_with fail
    go_ret
    exact ⟨(HBB.out _).out, 1, by decide, rfl⟩
  · go_wp2_with fail
    go_ret
    exact ⟨(HBB.out _).out, 2, by decide, rfl⟩
theorem lsOk_zero : LsOk ⟨#[]⟩ 0 0 := ⟨⟨by decide, by decide⟩, ⟨by decide, by decide⟩, by decide, .inl rfl⟩
set_option maxRecDepth 100000 in
theorem asked_any (w : World) (hT : Tabs w) : Calls Tryd.prog 15 #[] w fun e w' => e = .returned (.bool true) ∧ Below w.heap.size w w' := by
  have ⟨ka, za⟩ := askS_ok 0 (by decide)
  have ⟨kb, zb⟩ := askS_ok 1 (by decide)
  have HA := Lib.hid (fun (w' : World) (h : Tabs w') => ask_any ⟨#[]⟩ 0 0 ⟨#[97]⟩ 5 w' lsOk_zero ka (by decide) h)
  have HOK1 : LsOk ⟨#[97]⟩ 15 1 := ⟨⟨by decide, by decide⟩, ⟨by decide, by decide⟩, by decide, .inr ka⟩
  have HB := Lib.hid (fun (w' : World) (h : Tabs w') => ask_any ⟨#[97]⟩ 15 1 ⟨#[98]⟩ 14 w' HOK1 kb (by decide) h)
  have HC := Lib.hid (fun (w' : World) (h : Tabs w') => ask_any ⟨#[97]⟩ 15 1 ⟨#[98]⟩ 15 w' HOK1 kb (by decide) h)
  have HT := Lib.hid hT
  have hne : (⟨#[97]⟩ : ByteArray) ≠ ⟨#[98]⟩ := by decide
  clear hT ka kb za zb HOK1
  go_enter Tryd.func15, Tryd.ntmps15
  go_wp2_with fail
  refine (HA.out w HT.out).mono ?_
  rintro e w1 ⟨hb1, ⟨_, _, _, rfl⟩ | ⟨_, hb, _⟩ | ⟨h, _⟩⟩
  rotate_left
  · exact absurd rfl hb.1
  · rcases h with h | h
    · exact absurd ⟨by decide, by decide⟩ h
    · cases h
  have HB1 := Lib.hid (Below.step (Below.refl _ _) hb1)
  have HM1 : max (5 + 10 : Int) 0 = 15 := by decide
  have HM2 : (0 + 1 : Int) = 1 := by decide
  rw [HM1, HM2]
  clear hb1
  have b2 : Below w1.heap.size w1 (w1.alloc (.cells #[.string ⟨#[97]⟩, .int .i64 15, .int .i64 1] 25)) := (Below.refl _ _).alloc (Nat.le_refl _) _
  have HB2 := Lib.hid (Below.step HB1.out b2)
  have HR2 := Lib.hid (heap_alloc_new w1 (.cells #[.string ⟨#[97]⟩, .int .i64 15, .int .i64 1] 25))
  have ⟨x0, x1, x2⟩ := ls_cells HR2.out
  clear b2
  go_wp2_with fail
  clear x0 x1 x2
  generalize w1.alloc (.cells #[.string ⟨#[97]⟩, .int .i64 15, .int .i64 1] 25) = wa at *
  generalize w1.heap.size = D at *
  refine (HB.out wa (HT.out.below HB2.out)).mono ?_
  rintro e w2 ⟨hb2, ⟨_, hb, _⟩ | ⟨_, _, rfl⟩ | ⟨h, _⟩⟩
  · exact absurd ⟨by decide, hne, by decide⟩ hb
  rotate_left
  · rcases h with h | h
    · exact absurd ⟨by decide, by decide⟩ h
    · cases h
  have HB3 := Lib.hid (Below.step HB2.out hb2)
  have HR3 := Lib.hid ((hb2.block _ (lt_of_block HR2.out)).trans HR2.out)
  have b4 : Below w2.heap.size w2 (w2.alloc (.cells #[.string ⟨#[]⟩, .int .i64 0, .int .i64 0] 25)) := (Below.refl _ _).alloc (Nat.le_refl _) _
  have HB4 := Lib.hid (Below.step HB3.out b4)
  have HR4 := Lib.hid ((b4.block _ (lt_of_block HR3.out)).trans HR3.out)
  have ⟨x0, x1, x2⟩ := ls_cells HR4.out
  clear b4 hb2
  go_wp2_with fail
  clear x0 x1 x2
  generalize w2.alloc (.cells #[.string ⟨#[]⟩, .int .i64 0, .int .i64 0] 25) = wb at *
  refine (HC.out wb (HT.out.below HB4.out)).mono ?_
  rintro e w3 ⟨hb3, ⟨_, _, _, rfl⟩ | ⟨_, hb, _⟩ | ⟨h, _⟩⟩
  rotate_left
  · exact absurd hb.2.2 (by decide)
  · rcases h with h | h
    · exact absurd ⟨by decide, by decide⟩ h
    · cases h
  have HM3 : max (15 + 10 : Int) 15 = 25 := by decide
  have HM4 : (1 + 1 : Int) = 2 := by decide
  rw [HM3, HM4]
  have HB5 := Lib.hid (Below.step HB4.out hb3)
  have b6 : Below w3.heap.size w3 (w3.alloc (.cells #[.string ⟨#[98]⟩, .int .i64 25, .int .i64 2] 25)) := (Below.refl _ _).alloc (Nat.le_refl _) _
  have HB6 := Lib.hid (Below.step HB5.out b6)
  have ⟨x0, x1, x2⟩ := ls_cells (heap_alloc_new w3 (.cells #[.string ⟨#[98]⟩, .int .i64 25, .int .i64 2] 25))
  have f1 : ((⟨#[98]⟩ : ByteArray).toList == [98]) = true := by rw [Lib.toList_data]; rfl
  clear b6 hb3
  go_wp2_with fail
  go_ret
  exact ⟨rfl, HB6.out⟩
end Go.Proofs.YtokckcmkbnhhhaaDoor
