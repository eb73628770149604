/- Pack: the blob of an entry. -/
import Derived.Test.YtbfhhnpoogmlnaaDoorPackId
import Derived.Test.YtbfhhnpoogmlnaaDoorIdMap
import Derived.Test.YtbfhhnpoogmlnaaDoorPressOpenW
import Derived.Laws.StructEq
namespace Go.Proofs.YtbfhhnpoogmlnaaDoor
open Go.RowKit Plain
set_option linter.unusedVariables false
set_option linter.unusedSimpArgs false
/-- an entry's cells -/
def enL (id : List Nat) (k a n : Int) : List Value := id.map bV ++ [.int .i64 k, .int .i64 a, .int .i64 n]
def enA (id : List Nat) (k a n : Int) : Array Value := (enL id k a n).toArray
theorem enA_get {id : List Nat} {k a n : Int} (h : id.length = 8) : (enA id k a n)[8]? = some (.int .i64 k) ∧ (enA id k a n)[9]? = some (.int .i64 a) ∧ (enA id k a n)[10]? = some (.int .i64 n) := by
  unfold enA enL
  simp only [List.getElem?_toArray]
  rw [List.getElem?_append_right (by rw [List.length_map, h]; omega), List.getElem?_append_right (by rw [List.length_map, h]; omega), List.getElem?_append_right (by rw [List.length_map, h]; omega), List.length_map, h]
  exact ⟨rfl, rfl, rfl⟩
theorem enA_size {id : List Nat} {k a n : Int} (h : id.length = 8) : (enA id k a n).size = 11 := by simp [enA, enL, h]
theorem enA_one (id : List Nat) (k a n : Int) : (enA id k a n).all (·.oneCell') = true := by
  simp [enA, enL, bV, Value.oneCell']
theorem range_id {w : World} {g : Nat} {id : List Nat} {k a n : Int} {T : TypeId} {fr : Nat × Nat} (h : w.heap[g]? = some (.cells (enA id k a n) T fr)) : w.rangeAt g 0 (id.map bV) := by
  intro j u hu
  rw [Nat.zero_add, cell_of_row _ _ _ _ _ _ h]
  unfold enA enL
  simp only [List.getElem?_toArray]
  rw [List.getElem?_append_left (by
    rcases Nat.lt_or_ge j (id.map bV).length with h1 | h1
    · exact h1
    · rw [List.getElem?_eq_none h1] at hu; cases hu)]
  exact hu
/-- what One answers -/
def OneEnd (s : ByteArray) (id : List Nat) (k a n : Int) (w0 : World) (e : Ending) (w : World) : Prop := Below w0.heap.size w0 w ∧
  ((∃ c : Nat, c ≠ 0 ∧ e = .returned (.tuple #[.agg #[.int .i64 0, .string ⟨#[]⟩], .int .i64 (c : Int)]) ∧
      ¬ (0 ≤ a ∧ 0 ≤ n ∧ a + n ≤ s.size ∧ (1 ≤ k ∧ k ≤ 3) ∧ ∃ t : ByteArray, t.size ≤ 4096 ∧ pidL (k, t) = id ∧ (strN (s.extract a.toNat (a + n).toNat) = 0 :: strN t ∨ ∃ r, strN (s.extract a.toNat (a + n).toNat) = 1 :: r ∧ PGood r (strN t)))) ∨
   (∃ t : ByteArray, e = .returned (.tuple #[.agg #[.int .i64 k, .string t], .int .i64 0]) ∧ pcode (k, t) = 0 ∧ pidL (k, t) = id ∧
      ∀ u : ByteArray, u.size ≤ 4096 → (strN (s.extract a.toNat (a + n).toNat) = 0 :: strN u ∨ ∃ r, strN (s.extract a.toNat (a + n).toNat) = 1 :: r ∧ PGood r (strN u)) → t = u))
set_option maxRecDepth 100000 in
set_option maxHeartbeats 8000000 in
theorem one_any (s : ByteArray) (id : List Nat) (k a n : Int) (w : World) (hid : id.length = 8) (hs : s.size ≤ 9223372036854775807) :
    Calls Tryd.prog 28 #[.string s, .agg (enA id k a n)] w (OneEnd s id k a n w) := by
  have h2 := heap_twoK w (.cells (enA id k a n) 51) (.cells #[.int .i64 0, .string ⟨#[]⟩] 28)
  obtain ⟨g8, g9, g10⟩ := enA_get (k := k) (a := a) (n := n) hid
  have c8 := cell_of_row _ _ 8 _ _ _ h2.1
  have c9 := cell_of_row _ _ 9 _ _ _ h2.1
  have c10 := cell_of_row _ _ 10 _ _ _ h2.1
  rw [g8] at c8
  rw [g9] at c9
  rw [g10] at c10
  have HE2 := Lib.hid h2.1
  have HR2 := Lib.hid h2.2
  have HB2 := Lib.hid (((Below.refl w.heap.size w).alloc (Nat.le_refl _) (.cells (enA id k a n) 51)).alloc (by simp) (.cells #[.int .i64 0, .string ⟨#[]⟩] 28))
  have HID := Lib.hid hid
  have HS := Lib.hid hs
  have hes : (enA id k a n).size = 11 := enA_size hid
  have HKN := Lib.hid fun wx => known_any k wx
  clear h2 g8 g9 g10 hid hs
  generalize hen : enA id k a n = E at *
  have HEN := Lib.hid hen
  clear hen
  have hcase : (a < 0 ∨ (¬ a < 0 ∧ n < 0) ∨ (¬ a < 0 ∧ ¬ n < 0 ∧ (s.size : Int) < a) ∨ (¬ a < 0 ∧ ¬ n < 0 ∧ ¬ (s.size : Int) < a ∧ (s.size : Int) - a < n)) ∨ (¬ a < 0 ∧ ¬ n < 0 ∧ ¬ (s.size : Int) < a ∧ ¬ (s.size : Int) - a < n) := by omega
  rcases hcase with hbad | ⟨h1, h2, h3, h4⟩
  · have HNG : Hid (¬ (0 ≤ a ∧ 0 ≤ n ∧ a + n ≤ s.size)) := by show ¬ _; omega
    have hend : ∀ W : World, W = ((w.alloc (.cells E 51)).alloc (.cells #[.int .i64 0, .string ⟨#[]⟩] 28)) → OneEnd s id k a n w (.returned (.tuple #[.agg #[.int .i64 0, .string ⟨#[]⟩], .int .i64 1])) W := by
      rintro W rfl
      exact ⟨HB2.out, .inl ⟨1, by decide, rfl, fun h => HNG.out ⟨h.1, h.2.1, h.2.2.1⟩⟩⟩
    have HEND := Lib.hid hend
    clear hend
    rcases hbad with h1 | ⟨h1, h2⟩ | ⟨h1, h2, h3⟩ | ⟨h1, h2, h3, h4⟩
    · go_enter Tryd.func28, Tryd.ntmps28
      go_wp2_with fail
      refine bodyPost_ret (results_row_tmp1 rfl _ _ (w.heap.size + 1) 28 _ (0, 0) _ rfl HR2.out Tryd.underlying28 rfl (by kernel_rfl)) rfl ?_
      exact HEND.out _ rfl
    · go_enter Tryd.func28, Tryd.ntmps28
      go_wp2_with fail
      refine bodyPost_ret (results_row_tmp1 rfl _ _ (w.heap.size + 1) 28 _ (0, 0) _ rfl HR2.out Tryd.underlying28 rfl (by kernel_rfl)) rfl ?_
      exact HEND.out _ rfl
    · go_enter Tryd.func28, Tryd.ntmps28
      go_wp2_with fail
      refine bodyPost_ret (results_row_tmp1 rfl _ _ (w.heap.size + 1) 28 _ (0, 0) _ rfl HR2.out Tryd.underlying28 rfl (by kernel_rfl)) rfl ?_
      exact HEND.out _ rfl
    · have hw4 : IntKind.i64.wrap ((s.size : Int) - a) = (s.size : Int) - a := by have := HS.out; rw [IntKind.wrap_i64]; omega
      go_enter Tryd.func28, Tryd.ntmps28
      go_wp2_with fail
      refine bodyPost_ret (results_row_tmp1 rfl _ _ (w.heap.size + 1) 28 _ (0, 0) _ rfl HR2.out Tryd.underlying28 rfl (by kernel_rfl)) rfl ?_
      exact HEND.out _ rfl
  · have hw4 : IntKind.i64.wrap ((s.size : Int) - a) = (s.size : Int) - a := by have := HS.out; rw [IntKind.wrap_i64]; omega
    obtain ⟨A, rfl⟩ := Int.eq_ofNat_of_zero_le (show 0 ≤ a by omega)
    obtain ⟨N, rfl⟩ := Int.eq_ofNat_of_zero_le (show 0 ≤ n by omega)
    have hle : A + N ≤ s.size := by omega
    have hwa : IntKind.i64.wrap ((A : Int) + (N : Int)) = (A : Int) + (N : Int) := by have := HS.out; rw [IntKind.wrap_i64]; omega
    have HLE := Lib.hid hle
    have s1 : (0 : Int) ≤ (A : Int) := by omega
    have s2 : (A : Int) ≤ (A : Int) + (N : Int) := by omega
    have s3 : (A : Int) + (N : Int) ≤ (s.size : Int) := by omega
    by_cases hk : 1 ≤ k ∧ k ≤ 3
    · obtain ⟨y, hy⟩ : ∃ y, s.extract A (A + N) = y := ⟨_, rfl⟩
      have hys : y.size ≤ 9223372036854775807 := by rw [← hy, ByteArray.size_extract]; have := HS.out; omega
      have HY := Lib.hid hy
      have HYS := Lib.hid hys
      have HK := Lib.hid hk
      have hdk : decide (1 ≤ k ∧ k ≤ 3) = true := decide_eq_true hk
      have HDK := Lib.hid hdk
      clear hle hk hdk hys
      go_enter Tryd.func28, Tryd.ntmps28
      go_wp2_with fail
      refine (HKN.out _).mono ?_
      rintro e w1 ⟨rfl, rfl⟩
      rw [HDK.out]
      go_wp2_with fail
      refine (popen1_any y _ HYS.out).mono ?_
      rintro e w3 ⟨hb3, c, t, rfl, hc, ht, _, h5, h6⟩
      have hgood : ∀ u : ByteArray, u.size ≤ 4096 → (strN y = 0 :: strN u ∨ ∃ r, strN y = 1 :: r ∧ PGood r (strN u)) → c = 0 ∧ t = u := by
        intro u hu h
        rcases h with h | ⟨r, h, hg⟩
        · obtain ⟨h7, h8⟩ := h5 _ h (by rw [strN_length]; exact hu)
          exact ⟨h7, strN_inj h8⟩
        · obtain ⟨h7, h8⟩ := h6 r _ h hg
          exact ⟨h7, strN_inj h8⟩
      have HGD := Lib.hid hgood
      have hb3' := HB2.out.trans (hb3.mono HB2.out.size)
      have HB3 := Lib.hid hb3'
      have he3 : w3.heap[w.heap.size]? = some (.cells E 51 (0, 0)) := (hb3.block _ (by simp; omega)).trans HE2.out
      have hr3 : w3.heap[w.heap.size + 1]? = some (.cells #[.int .i64 0, .string ⟨#[]⟩] 28 (0, 0)) := (hb3.block _ (by simp)).trans HR2.out
      have HTT := Lib.hid ht
      have HCC := Lib.hid hc
      clear hb3 hb3' h5 h6 hgood ht hc c8 c9 c10
      by_cases hc0 : c = 0
      · subst hc0
        have d8 := cell_of_row _ _ 8 _ _ _ he3
        rw [← HEN.out, (enA_get (k := k) (a := (A : Int)) (n := (N : Int)) HID.out).1] at d8
        have hb4 := HB3.out.alloc HB3.out.size (.cells #[.int .i64 k, .string t] 28)
        have he4 := (Below.heap_alloc w3 (.cells #[.int .i64 k, .string t] 28) _ (lt_of_block he3)).trans he3
        have hr4 := (Below.heap_alloc w3 (.cells #[.int .i64 k, .string t] 28) _ (lt_of_block hr3)).trans hr3
        have hn4 := heap_alloc_new w3 (.cells #[.int .i64 k, .string t] 28)
        have HB4 := Lib.hid hb4
        have HE4 := Lib.hid he4
        have HR4 := Lib.hid hr4
        have HN4 := Lib.hid hn4
        have e0 := cell_of_row _ _ 0 _ _ _ hn4
        have e1 := cell_of_row _ _ 1 _ _ _ hn4
        simp only [List.getElem?_toArray, List.getElem?_cons_succ, List.getElem?_cons_zero] at e0 e1
        clear hb4 he4 hr4 hn4 he3 hr3
        go_wp2_with fail
        refine (pid_any (k, t) _).mono ?_
        rintro e w5 ⟨rfl, hb5⟩
        have HP : Hid (pcode (k, t) = 0) := pcode_ok HK.out (fun hh => absurd (show 4096 < t.size from hh) (by have := HTT.out; omega))
        rw [HP.out]
        have hil := pidL_length (k, t)
        obtain ⟨idl, hidl⟩ : ∃ idl, pidL (k, t) = idl := ⟨_, rfl⟩
        rw [hidl] at hil ⊢
        have HIL := Lib.hid hil
        have HPI := Lib.hid hidl
        have he5 : w5.heap[w.heap.size]? = some (.cells E 51 (0, 0)) := (hb5.block _ (lt_of_block HE4.out)).trans HE4.out
        have hr5 : w5.heap[w.heap.size + 1]? = some (.cells #[.int .i64 0, .string ⟨#[]⟩] 28 (0, 0)) := (hb5.block _ (lt_of_block HR4.out)).trans HR4.out
        have hn5 : w5.heap[w3.heap.size]? = some (.cells #[.int .i64 k, .string t] 28 (0, 0)) := (hb5.block _ (lt_of_block HN4.out)).trans HN4.out
        have hb5' := HB4.out.trans (hb5.mono HB4.out.size)
        have l1 := lt_of_block he5
        have l2 := lt_of_block hr5
        have l3 := lt_of_block hn5
        have hz5 := heap_alloc_new w5 (.cells z8A 49)
        have HTH : Hid ((w5.alloc (.cells z8A 49)).there w5.heap.size 0 (bC idl).size) := there_idB hz5 rfl hil
        have HIB : Hid ((Tryd.prog.info? 49).map (·.size) = some (bC idl).size) := info_idB hil
        have HOB : Hid ((bC idl).all (·.oneCell') = true) := bC_oneP idl
        obtain ⟨w6, hw6⟩ : ∃ w6, (w5.alloc (.cells z8A 49)).setCells w5.heap.size 0 (bC idl).toList = w6 := ⟨_, rfl⟩
        have hid6 : w6.heap[w5.heap.size]? = some (.cells (bC idl) 49 (0, 0)) := by rw [← hw6]; exact row_idB hz5 rfl hil
        have hold : ∀ g, g < w5.heap.size → w6.heap[g]? = w5.heap[g]? := fun g hg => by
          rw [← hw6, heap_setCells_other _ _ (by omega) _ _ _]
          exact Below.heap_alloc w5 _ g hg
        have HW6 := Lib.hid hw6
        have HID6 := Lib.hid hid6
        have HE6 := Lib.hid ((hold _ l1).trans he5)
        have HR6 := Lib.hid ((hold _ l2).trans hr5)
        have HN6 := Lib.hid ((hold _ l3).trans hn5)
        have HB6 : Hid (Below w.heap.size w w6) := by
          show Below _ _ _
          rw [← hw6]
          exact below_setCells (by omega) _ _ (hb5'.alloc hb5'.size _)
        have HRG : Hid (w6.rangeAt w.heap.size 0 (id.map bV)) := range_id (by rw [HEN.out]; exact HE6.out)
        have HI8 : Hid ((Tryd.prog.info? 49).map (·.size) = some (id.map bV).length) := by show _ = _; rw [List.length_map, HID.out]; exact info_id8
        have hne : (Op.equalIn 10000 49 (.agg (bC idl)) (.agg (id.map bV).toArray)).run Tryd.prog w6 = .ok (decide (idl = id)) w6 := equal_id8 w6 idl id hil HID.out
        have t0 := cell_of_row _ _ 0 _ _ _ HN6.out
        have t1 := cell_of_row _ _ 1 _ _ _ HN6.out
        simp only [List.getElem?_toArray, List.getElem?_cons_succ, List.getElem?_cons_zero] at t0 t1
        clear he5 hr5 hn5 hb5 hb5' hz5 hid6 hold l1 l2 l3 hil hidl e0 e1 d8 hw6
        by_cases hq : idl = id
        · rw [decide_eq_true hq] at hne
          have HQ := Lib.hid hq
          have HTH2 : Hid (w6.there (w.heap.size + 1) 0 (#[.int .i64 k, .string t] : Array Value).size) := there_part HR6.out (by show 0 + 2 ≤ 2; omega)
          have HI2 : Hid ((Tryd.prog.info? 28).map (·.size) = some (#[.int .i64 k, .string t] : Array Value).size) := by show (Tryd.prog.info? 28).map (·.size) = some 2; kernel_rfl
          have HO2 : Hid ((#[.int .i64 k, .string t] : Array Value).all (·.oneCell') = true) := by show _ = _; simp [Value.oneCell']
          have HRW : Hid ((w6.setCells (w.heap.size + 1) 0 [.int .i64 k, .string t]).heap[w.heap.size + 1]? = some (.cells #[.int .i64 k, .string t] 28 (0, 0))) := row_full (ns := #[.int .i64 k, .string t]) HR6.out rfl
          have HBW : Hid (Below w.heap.size w (w6.setCells (w.heap.size + 1) 0 [.int .i64 k, .string t])) := below_setCells (Nat.le_succ _) _ _ HB6.out
          clear hq
          go_wp2_with (first | (with_reducible refine wpList_store_mid rfl 49 (.tmp 9) (.tmp 68) rfl w5.heap.size 0 (bC idl) rfl rfl HTH.out HIB.out HOB.out ?_; rw [HW6.out]) | (with_reducible refine wpList_load_row rfl 49 (.tmp 9) rfl w5.heap.size rfl 49 (bC idl) (0, 0) _ HID6.out Tryd.underlying49 rfl HIB.out ?_) | (with_reducible refine wpList_load_mid rfl 49 (.tmp 71) rfl w.heap.size 0 rfl (id.map bV) _ HRG.out Tryd.underlying49 rfl HI8.out ?_) | (with_reducible refine wpList_store_mid rfl 28 (.tmp 4) (.tmp 75) rfl (w.heap.size + 1) 0 #[.int .i64 k, .string t] rfl rfl HTH2.out HI2.out HO2.out ?_))
          refine bodyPost_ret (results_row_tmp1 rfl _ _ (w.heap.size + 1) 28 _ (0, 0) _ rfl HRW.out Tryd.underlying28 rfl HI2.out) rfl ?_
          exact ⟨HBW.out, .inr ⟨t, rfl, HP.out, by rw [HPI.out, HQ.out], fun u hu hg => (HGD.out u hu (by rw [← HY.out]; exact hg)).2⟩⟩
        · rw [decide_eq_false hq] at hne
          have HQ := Lib.hid hq
          have HTH2 : Hid (w6.there (w.heap.size + 1) 0 (#[.int .i64 0, .string ⟨#[]⟩] : Array Value).size) := there_part HR6.out (by show 0 + 2 ≤ 2; omega)
          have HI2 : Hid ((Tryd.prog.info? 28).map (·.size) = some (#[.int .i64 0, .string ⟨#[]⟩] : Array Value).size) := by show (Tryd.prog.info? 28).map (·.size) = some 2; kernel_rfl
          have HO2 : Hid ((#[.int .i64 0, .string ⟨#[]⟩] : Array Value).all (·.oneCell') = true) := by show _ = _; simp [Value.oneCell']
          have HRW : Hid ((w6.setCells (w.heap.size + 1) 0 [.int .i64 0, .string ⟨#[]⟩]).heap[w.heap.size + 1]? = some (.cells #[.int .i64 0, .string ⟨#[]⟩] 28 (0, 0))) := row_full (ns := #[.int .i64 0, .string ⟨#[]⟩]) HR6.out rfl
          have HBW : Hid (Below w.heap.size w (w6.setCells (w.heap.size + 1) 0 [.int .i64 0, .string ⟨#[]⟩])) := below_setCells (Nat.le_succ _) _ _ HB6.out
          clear hq
          go_wp2_with (first | (with_reducible refine wpList_store_mid rfl 49 (.tmp 9) (.tmp 68) rfl w5.heap.size 0 (bC idl) rfl rfl HTH.out HIB.out HOB.out ?_; rw [HW6.out]) | (with_reducible refine wpList_load_row rfl 49 (.tmp 9) rfl w5.heap.size rfl 49 (bC idl) (0, 0) _ HID6.out Tryd.underlying49 rfl HIB.out ?_) | (with_reducible refine wpList_load_mid rfl 49 (.tmp 71) rfl w.heap.size 0 rfl (id.map bV) _ HRG.out Tryd.underlying49 rfl HI8.out ?_) | (with_reducible refine wpList_store_mid rfl 28 (.tmp 4) (.tmp 74) rfl (w.heap.size + 1) 0 #[.int .i64 0, .string ⟨#[]⟩] rfl rfl HTH2.out HI2.out HO2.out ?_))
          refine bodyPost_ret (results_row_tmp1 rfl _ _ (w.heap.size + 1) 28 _ (0, 0) _ rfl HRW.out Tryd.underlying28 rfl HI2.out) rfl ?_
          exact ⟨HBW.out, .inl ⟨6, by decide, rfl, fun ⟨_, _, _, _, u, hu, hpu, hg⟩ => HQ.out (by
            have := (HGD.out u hu (by rw [← HY.out]; exact hg)).2
            subst this
            rw [← HPI.out]
            exact hpu)⟩⟩
      · have z1 : ((c : Int) != 0) = true := by simp; omega
        have HTH : Hid (w3.there (w.heap.size + 1) 0 (#[.int .i64 0, .string ⟨#[]⟩] : Array Value).size) := there_part hr3 (by show 0 + 2 ≤ 2; omega)
        have HI2 : Hid ((Tryd.prog.info? 28).map (·.size) = some (#[.int .i64 0, .string ⟨#[]⟩] : Array Value).size) := by show (Tryd.prog.info? 28).map (·.size) = some 2; kernel_rfl
        have HO2 : Hid ((#[.int .i64 0, .string ⟨#[]⟩] : Array Value).all (·.oneCell') = true) := by show _ = _; simp [Value.oneCell']
        have HRW : Hid ((w3.setCells (w.heap.size + 1) 0 [.int .i64 0, .string ⟨#[]⟩]).heap[w.heap.size + 1]? = some (.cells #[.int .i64 0, .string ⟨#[]⟩] 28 (0, 0))) := row_full (ns := #[.int .i64 0, .string ⟨#[]⟩]) hr3 rfl
        have HBW : Hid (Below w.heap.size w (w3.setCells (w.heap.size + 1) 0 [.int .i64 0, .string ⟨#[]⟩])) := below_setCells (Nat.le_succ _) _ _ HB3.out
        have HC0 := Lib.hid hc0
        clear hc0 he3 hr3
        go_wp2_with (with_reducible refine wpList_store_mid rfl 28 (.tmp 4) (.tmp 59) rfl (w.heap.size + 1) 0 #[.int .i64 0, .string ⟨#[]⟩] rfl rfl HTH.out HI2.out HO2.out ?_)
        refine bodyPost_ret (results_row_tmp1 rfl _ _ (w.heap.size + 1) 28 _ (0, 0) _ rfl HRW.out Tryd.underlying28 rfl HI2.out) rfl ?_
        exact ⟨HBW.out, .inl ⟨c, HC0.out, rfl, fun ⟨_, _, _, _, u, hu, _, hg⟩ => HC0.out (HGD.out u hu (by rw [← HY.out]; exact hg)).1⟩⟩
    · have hdk : decide (1 ≤ k ∧ k ≤ 3) = false := decide_eq_false hk
      have HDK := Lib.hid hdk
      have HK := Lib.hid hk
      clear hle hk hdk
      go_enter Tryd.func28, Tryd.ntmps28
      go_wp2_with fail
      refine (HKN.out _).mono ?_
      rintro e w1 ⟨rfl, rfl⟩
      rw [HDK.out]
      go_wp2_with fail
      refine bodyPost_ret (results_row_tmp1 rfl _ _ (w.heap.size + 1) 28 _ (0, 0) _ rfl HR2.out Tryd.underlying28 rfl (by kernel_rfl)) rfl ?_
      exact ⟨HB2.out, .inl ⟨5, by decide, rfl, fun h => HK.out h.2.2.2.1⟩⟩
end Go.Proofs.YtbfhhnpoogmlnaaDoor
