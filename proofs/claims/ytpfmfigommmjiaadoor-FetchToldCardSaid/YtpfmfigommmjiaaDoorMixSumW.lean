/- The walk of mix.sum. -/
import Derived.Test.YtpfmfigommmjiaaDoorMixSum
import Derived.Laws.CopyOwn
namespace Go.Proofs.YtpfmfigommmjiaaDoor
open Go.RowKit Plain
namespace Plain
def mfold (mask x : Nat) (l : List Nat) : Nat :=
  if _h : l.length = 0 then x else mfold mask (mstep x (leL (pad8 l)) &&& mask) (l.drop 8)
termination_by l.length
decreasing_by simp only [List.length_drop]; omega
theorem mfold_nil (mask x : Nat) (l : List Nat) (h : l.length = 0) : mfold mask x l = x := by rw [mfold, dif_pos h]
theorem mfold_step (mask x : Nat) (l : List Nat) (h : l.length ≠ 0) : mfold mask x l = mfold mask (mstep x (leL (pad8 l)) &&& mask) (l.drop 8) := by rw [mfold, dif_neg h]
def msum (mask : Nat) (l : List Nat) : Nat := mstep (mfold mask 0 l) l.length &&& mask
theorem leL_lt (l : List Nat) (h : ∀ c ∈ l, c < 256) : leL l < 18446744073709551616 := by
  have hg : ∀ i, l.getD i 0 < 256 := fun i => by
    rw [List.getD_eq_getElem?_getD]
    cases hg : l[i]? with
    | none => decide
    | some v => exact h v (List.mem_of_getElem? hg)
  exact le64_lt _ _ _ _ _ _ _ _ (hg 0) (hg 1) (hg 2) (hg 3) (hg 4) (hg 5) (hg 6) (hg 7)
end Plain
theorem row_byte {w : World} {B : Nat} {t : TypeId} {l : List Nat} (h : w.heap[B]? = some (.cells (l.map bV).toArray t (0, 0))) (i : Nat) (hi : i < l.length) : w.cell? ⟨B, i, none⟩ = some (.int .u8 ((l.getD i 0 : Nat) : Int)) := by
  rw [cell_of_row _ _ _ _ _ _ h]
  simp [List.getElem?_map, List.getD_eq_getElem?_getD, List.getElem?_eq_getElem hi, bV]
theorem le64_row (B : Nat) (t : TypeId) (l : List Nat) (w : World) (h : w.heap[B]? = some (.cells (l.map bV).toArray t (0, 0))) (hl : l.length = 8) (hb : ∀ c ∈ l, c < 256) :
    Calls Tryd.prog 73 #[.agg #[], .slice (some ⟨B, 0, none⟩) 8 8] w fun e w' => e = .returned (.int .u64 (leL l : Nat)) ∧ Below w.heap.size w w' := by
  have hg : ∀ i, l.getD i 0 < 256 := fun i => by
    rw [List.getD_eq_getElem?_getD]
    cases hg : l[i]? with
    | none => decide
    | some v => exact hb v (List.mem_of_getElem? hg)
  have hc := fun i hi => row_byte h i hi
  have h0 := hc 0 (by omega)
  have h1 := hc 1 (by omega)
  have h2 := hc 2 (by omega)
  have h3 := hc 3 (by omega)
  have h4 := hc 4 (by omega)
  have h5 := hc 5 (by omega)
  have h6 := hc 6 (by omega)
  have h7 := hc 7 (by omega)
  exact le64_any B 0 8 _ _ _ _ _ _ _ _ w h0 h1 h2 h3 h4 h5 h6 h7 (hg 0) (hg 1) (hg 2) (hg 3) (hg 4) (hg 5) (hg 6) (hg 7)
def szOf : Value → Nat
  | .string b => b.size
  | _ => 0
set_option maxRecDepth 100000 in
set_option maxHeartbeats 1000000 in
theorem sum_any (s : ByteArray) (mask : Nat) (w : World) (hs : s.size ≤ 9223372036854775807) (hm : mask < M64) :
    Calls Tryd.prog 61 #[.string s, .int .u64 (mask : Int)] w fun e w' => e = .returned (.int .u64 (msum mask (strN s) : Nat)) ∧ Below w.heap.size w w' := by
  have HM := Lib.hid hm
  have HS0 := Lib.hid hs
  clear hm
  have hwr : IntKind.u64.wrap (s.size : Int) = (s.size : Int) := by rw [IntKind.wrap_u64]; omega
  clear hs
  go_enter Tryd.func61, Tryd.ntmps61
  go_wp2_with fail
  go_loopw [0, 5] (fun sv xv wr => ∃ (s' : ByteArray) (x : Nat), sv = .string s' ∧ xv = .int .u64 (x : Int) ∧ x < M64 ∧ mfold mask x (strN s') = mfold mask 0 (strN s) ∧ s'.size ≤ 9223372036854775807 ∧ Below w.heap.size w wr) (fun sv _ _ => szOf sv)
  case atStart => exact ⟨s, 0, rfl, rfl, by decide, rfl, HS0.out, Below.refl _ _⟩
  case round =>
    obtain ⟨s', x, rfl, rfl, hx, hf, hsz, hbl⟩ := hrel
    have HX := Lib.hid hx
    have HF := Lib.hid hf
    have HZ := Lib.hid hsz
    have BL := Lib.hid hbl
    clear hx hf hsz hbl
    have hemp : s'.toList.isEmpty = decide (s'.size = 0) := by
      have hl : s'.data.toList.length = s'.size := by rw [Array.length_toList]; rfl
      rw [Lib.toList_data]
      cases hd : s'.data.toList with
      | nil => rw [hd] at hl; simp at hl; simp [← hl]
      | cons a l => rw [hd] at hl; simp at hl; simp [← hl]
    by_cases he : s'.size = 0
    · have he2 : s'.toList.isEmpty = true := by rw [hemp]; exact decide_eq_true he
      clear hemp
      have hx := HF.out
      rw [mfold_nil _ _ _ (by rw [strN_length]; exact he)] at hx
      have HX2 := Lib.hid hx
      clear hx he
      have HC := Lib.hid fun wx => step_any x s.size wx HX.out (by have := HS0.out; show _ < M64; rw [m64]; omega)
      have hlt := mstep_lt x s.size
      have ha := bits_and_u64_nat (mstep x s.size) mask (lt64 hlt) (lt64 HM.out)
      have hr : Hid (mstep x s.size &&& mask = msum mask (strN s)) := by unfold msum; rw [← HX2.out, strN_length]; rfl
      generalize mstep x s.size = y at *
      generalize y &&& mask = z at *
      clear hlt
      go_wp2_with (go_at_call 72; refine (HC.out _).mono ?_; rintro e w' ⟨rfl, rfl⟩)
      go_ret
      exact ⟨ret_int (by rw [hr.out]), BL.out⟩
    · have he2 : s'.toList.isEmpty = false := by rw [hemp]; exact decide_eq_false he
      clear hemp
      have hne : (strN s').length ≠ 0 := by rw [strN_length]; exact he
      have hf := HF.out
      rw [mfold_step _ _ _ hne] at hf
      have hext : strN (s'.extract (min s'.size 8) s'.size) = (strN s').drop 8 := by
        rw [extract_strN]
        rcases Nat.lt_or_ge s'.size 8 with h | h
        · rw [Nat.min_eq_left (Nat.le_of_lt h), List.drop_eq_nil_of_le (by rw [strN_length]; omega), List.drop_eq_nil_of_le (by rw [strN_length]; omega)]
        · rw [Nat.min_eq_right h]
      have hes : (s'.extract (min s'.size 8) s'.size).size = s'.size - 8 := by rw [← strN_length, hext, List.length_drop, strN_length]
      have HES := Lib.hid hes
      have HEX := Lib.hid hext
      have hb := leL_lt _ (pad8_lt _ (strN_lt s'))
      have HC := Lib.hid fun wx => step_any x (leL (pad8 (strN s'))) wx HX.out (by show _ < M64; rw [m64]; exact hb)
      have hlt := mstep_lt x (leL (pad8 (strN s')))
      have ha := bits_and_u64_nat (mstep x (leL (pad8 (strN s')))) mask (lt64 hlt) (lt64 HM.out)
      have hz : mstep x (leL (pad8 (strN s'))) &&& mask < 18446744073709551616 := Nat.lt_of_le_of_lt Nat.and_le_left (lt64 hlt)
      have RZ := Lib.hid (heap_alloc_new wr (.cells ((List.replicate 8 0).map bV).toArray 42))
      have hcp := run_copy8 (P := Tryd.prog) (wr.alloc (.cells ((List.replicate 8 0).map bV).toArray 42)) 53 9 3 5 wr.heap.size s' 42 Tryd.underlying53 (by kernel_rfl) RZ.out
      have HCP := Lib.hid hcp
      have RP := Lib.hid (setRow_heap (wr.alloc (.cells ((List.replicate 8 0).map bV).toArray 42)) wr.heap.size _ ((pad8 (strN s')).map bV).toArray _ _ RZ.out)
      have BP := Lib.hid (below_setRow (BL.out.alloc BL.out.size (.cells ((List.replicate 8 0).map bV).toArray 42)) BL.out.size ((pad8 (strN s')).map bV).toArray)
      have HU : Hid (∀ (wx : World), wx.heap[wr.heap.size]? = some (.cells ((pad8 (strN s')).map bV).toArray 42 (0, 0)) → Calls Tryd.prog 73 #[.agg #[], .slice (some ⟨wr.heap.size, 0, none⟩) 8 8] wx fun e w' => e = .returned (.int .u64 (leL (pad8 (strN s')) : Nat)) ∧ Below wx.heap.size wx w') :=
        fun wx h => le64_row _ _ _ wx h (pad8_length _) (pad8_lt _ (strN_lt s'))
      have mn : ((min s'.size 8 : Nat) : Int) ≤ (s'.size : Int) := by omega
      have mn0 : (0 : Int) ≤ ((min s'.size 8 : Nat) : Int) := Int.natCast_nonneg _
      have HF2 := Lib.hid hf
      clear hf hext hes hcp hne hb hlt
      generalize leL (pad8 (strN s')) = bl at *
      generalize mstep x bl = y at *
      generalize y &&& mask = z at *
      generalize (wr.alloc (.cells ((List.replicate 8 0).map bV).toArray 42)).setRow wr.heap.size ((pad8 (strN s')).map bV).toArray = w2 at *
      generalize min s'.size 8 = m8 at *
      go_wp2_with (first | (refine Lib.wpList_copy_run _ rfl _ _ 53 9 rfl _ _ rfl rfl HCP.out ?_))
      refine wp_region_noPanic ?_
      refine wp_region_held_drew (S := fun _ => True) (by kernel_rfl) trivial (fun _ => ?_)
      have RV : Hid (w2.drew.heap[wr.heap.size]? = some (.cells ((pad8 (strN s')).map bV).toArray 42 (0, 0))) := RP.out
      have BV : Hid (Below w.heap.size w w2.drew) := BP.out.drew
      clear RP BP RZ HCP
      generalize w2.drew = v0 at *
      refine take_val 0 (.int .u64 (x : Int)) rfl (by kernel_rfl) (by kernel_rfl) (by kernel_rfl) (fun _ _ _ _ h => h) (by rfl) rfl (fun w _ => by go_simp) trivial ?_
      try simp only [List.set_cons_zero, List.set_cons_succ]
      refine take_val 1 (.agg #[]) rfl (by kernel_rfl) (by kernel_rfl) (by kernel_rfl) (fun _ _ _ _ h => h) (by rfl) rfl (fun w _ => by go_simp) trivial ?_
      try simp only [List.set_cons_zero, List.set_cons_succ]
      refine take_val 2 (.slice (some ⟨wr.heap.size, 0, none⟩) 8 8) rfl (by kernel_rfl) (by kernel_rfl) (by kernel_rfl) (fun _ _ _ _ h => h) (by rfl) rfl (fun w _ => by go_simp) trivial ?_
      try simp only [List.set_cons_zero, List.set_cons_succ]
      refine take_val 5 (.int .u64 (mask : Int)) rfl (by kernel_rfl) (by kernel_rfl) (by kernel_rfl) (fun _ _ _ _ h => h) (by rfl) rfl (fun w _ => by go_simp) trivial ?_
      try simp only [List.set_cons_zero, List.set_cons_succ]
      refine one_ready 3 (by kernel_rfl) rfl (by rfl) (fun K hK => ?_)
      go_simp
      refine (HU.out _ RV.out).mono ?_
      rintro e v1 ⟨rfl, hb1⟩
      go_wp2_with fail
      refine hK.out _ _ trivial ?_
      clear hK K
      try simp only [Act.put, List.setIfInBounds_toArray, List.set_cons_zero, List.set_cons_succ]
      have BV1 := Lib.hid (Below.step BV.out hb1)
      clear BV RV HU hb1
      refine one_ready 4 (by kernel_rfl) rfl (by rfl) (fun K hK => ?_)
      go_simp
      refine (HC.out _).mono ?_
      rintro e v2 ⟨rfl, rfl⟩
      go_wp2_with fail
      refine hK.out _ _ trivial ?_
      clear hK K
      try simp only [Act.put, List.setIfInBounds_toArray, List.set_cons_zero, List.set_cons_succ]
      refine take_val 6 (.int .u64 (z : Int)) rfl (by kernel_rfl) (by kernel_rfl) (by kernel_rfl) (fun _ _ _ _ h => h) (by rfl) rfl (fun w _ => by go_simp) trivial ?_
      try simp only [List.set_cons_zero, List.set_cons_succ]
      refine take_val 7 (.int .u64 (z : Int)) rfl (by kernel_rfl) (by kernel_rfl) (by kernel_rfl) (fun _ _ _ _ h => h) (by rfl) rfl (fun w _ => by go_simp) trivial ?_
      try simp only [List.set_cons_zero, List.set_cons_succ]
      refine wpAnyH_done (by kernel_rfl) ?_ _
      refine NoPanic.normal ?_
      go_wp2_with fail
      go_roundw
      case rel => exact ⟨_, z, rfl, rfl, by rw [m64]; exact hz, by rw [HEX.out]; exact HF2.out, by rw [HES.out]; have := HZ.out; omega, BV1.out⟩
      case measure => simp only [szOf]; rw [HES.out]; omega
end Go.Proofs.YtpfmfigommmjiaaDoor
