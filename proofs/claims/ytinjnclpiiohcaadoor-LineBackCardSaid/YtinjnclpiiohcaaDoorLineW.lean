/- The walks of line.Pack, line.decode and line.Read. -/
import Derived.Test.YtinjnclpiiohcaaDoorPktPlain
import Derived.Test.YtinjnclpiiohcaaDoorIdxText
import Derived.Test.YtinjnclpiiohcaaDoorNumW3
import Derived.Test.YtinjnclpiiohcaaDoorScanW
import Derived.Test.YtinjnclpiiohcaaDoorDet3
import Derived.Test.YtinjnclpiiohcaaDoorResults
namespace Go.Proofs.YtinjnclpiiohcaaDoor
open Go.RowKit Plain
/-- the cell of bytealg.MaxLen holds a number -/
def MaxC (w : World) : Prop := ∃ m : Int, w.cell? ⟨4, 0, none⟩ = some (.int .i64 m)
theorem MaxC.below {w w' : World} (h : MaxC w) (hb : Below w.heap.size w w') : MaxC w' := by
  obtain ⟨m, hm⟩ := h
  have hlt : 4 < w.heap.size := by
    rcases Nat.lt_or_ge 4 w.heap.size with h | h
    · exact h
    · rw [World.cell?, Array.getElem?_eq_none h] at hm; cases hm
  exact ⟨m, (hb.cell (p := ⟨4, 0, none⟩) hlt).trans hm⟩
theorem putTextM (s : ByteArray) (hs : s.size ≤ 9223372036854775807) (w : World) (hm : MaxC w) : Calls Tryd.prog 36 #[.string s] w (PutTEnd w s) := by
  obtain ⟨m, hm⟩ := hm
  exact putText_any s m w hs hm
theorem putT_length (l : List Nat) : (putT l).length ≤ 2 * l.length + 2 := by
  have h2 : ∀ l : List Nat, (esc l).length ≤ 2 * l.length := by
    intro l
    induction l with
    | nil => simp [esc]
    | cons a l ih => cases a <;> simp only [esc, List.length_cons] <;> omega
  have := h2 l
  simp only [putT, List.length_append, List.length_cons, List.length_nil]
  omega
def PackEnd (w0 : World) (k q : Int) (t : ByteArray) (e : Ending) (w : World) : Prop :=
  ((PkOk (k, q, strN t) ∧ ∃ s : ByteArray, Packs idf (k, q, strN t) (strN s) ∧ s.size ≤ 2200 ∧ e = .returned (.tuple #[.string s, .int .i64 0])) ∨ (¬ PkOk (k, q, strN t) ∧ ∃ c : Nat, c ≠ 0 ∧ e = .returned (.tuple #[.string ⟨#[]⟩, .int .i64 (c : Int)]))) ∧ Below w0.heap.size w0 w
set_option maxRecDepth 100000 in
set_option maxHeartbeats 4000000 in
theorem pack_any (k q : Int) (t : ByteArray) (ht : t.size ≤ 9223372036854775807) (w : World) (hm : MaxC w) : Calls Tryd.prog 17 #[.agg #[.int .i64 k, .int .i64 q, .string t]] w (PackEnd w k q t) := by
  have HM := Lib.hid hm
  have HPT := Lib.hid fun u hu => putTextM t (by omega) u hu
  have HPT0 := Lib.hid fun u hu => putTextM ⟨#[]⟩ (by decide) u hu
  have HP := Lib.hid fun n hn u => putD_any n hn u
  have HB1 := Lib.hid ((Below.refl w.heap.size w).alloc (Nat.le_refl _) (.cells #[.int .i64 k, .int .i64 q, .string t] 47))
  clear hm
  by_cases hk : k = 1 ∨ k = 2
  · by_cases hq : 0 ≤ q ∧ q ≤ 2000
    · obtain ⟨hq1, hq2⟩ := hq
      obtain ⟨q, rfl⟩ := Int.eq_ofNat_of_zero_le hq1
      have f1 : decide ((q : Int) < 0) = false := decide_eq_false (by omega)
      have f2 : decide ((q : Int) > 2000) = false := decide_eq_false (by omega)
      have f3 : ¬ (q : Int) < 0 := by omega
      have f4 : ¬ (2000 : Int) < (q : Int) := by omega
      rcases hk with rfl | rfl
      · go_enter Tryd.func17, Tryd.ntmps17
        go_wp2_with fail
        refine (HPT.out _ (HM.out.below HB1.out)).mono ?_
        rintro e w2 ⟨⟨hbig, rfl⟩ | ⟨hsm, rfl⟩, hb2⟩
        · have HB2 := Lib.hid (Below.step HB1.out hb2)
          have HN : Hid (¬ PkOk (1, (q : Int), strN t)) := fun h => by have h2 : (strN t).length ≤ 1024 := h.2.2.2.2; rw [strN_length] at h2; omega
          clear hbig hb2
          go_wp2_with fail
          go_ret2
          exact ⟨.inr ⟨HN.out, 2, by decide, rfl⟩, HB2.out⟩
        · have HB2 := Lib.hid (Below.step HB1.out hb2)
          have HROW : Hid (w2.heap[w.heap.size]? = some (.cells #[.int .i64 1, .int .i64 (q : Int), .string t] 47 (0, 0))) := (hb2.block _ (by simp)).trans (heap_alloc_new w _)
          have HOK : Hid (PkOk (1, (q : Int), strN t)) := ⟨.inl rfl, by show (0 : Int) ≤ (q : Int); omega, by show (q : Int) ≤ 2000; omega, fun h => absurd (show (1 : Int) = 2 from h) (by decide), by show (strN t).length ≤ 1024; rw [strN_length]; omega⟩
          have hyl : (putT (strN t)).length ≤ 2050 := by
            have := putT_length (strN t)
            rw [strN_length] at this
            omega
          have HTL := Lib.hid (putT_lt (strN_lt t))
          obtain ⟨T, hT⟩ : ∃ T, strOf (putT (strN t)) = T := ⟨_, rfl⟩
          have hTN : strN T = putT (strN t) := by rw [← hT, strN_strOf _ HTL.out]
          have hTz : T.size ≤ 2050 := by rw [← strN_length, hTN]; exact hyl
          have HTN := Lib.hid hTN
          rw [hT]
          clear hT hTN hyl hsm hb2
          have HK1 : Hid (∀ (wz : World) (g : Nat), wz.heap[g]? = some (.cells #[.int .u8 1] 5 (0, 0)) → (convert 51 9 (.slice (some ⟨g, 0, none⟩) 1 1)).run Tryd.prog wz = .ok (.string (strOf [1])) wz) := fun wz g hz =>
            conv_front (l := [1]) (r := []) (fun c hc => by simp at hc; omega) hz 1
          have e0 : IntKind.u8.wrap 1 = 1 := rfl
          have e2 : IntKind.u64.wrap (q : Int) = (q : Int) := by
            show (q : Int) % 18446744073709551616 = _
            omega
          have y1 := numS_size q (by omega)
          have q1 : (strOf [1]).size = 1 := by rw [strOf_size]; rfl
          have z1 : (strOf [1]).size + (numS q).size ≤ 9223372036854775807 := by omega
          have z2 : (strOf [1]).size + (numS q).size + T.size ≤ 9223372036854775807 := by omega
          have hBz : (strOf [1] ++ numS q ++ T).size ≤ 2100 := by rw [size_add, size_add]; omega
          have HPB : Hid (PkB (1, (q : Int), strN t) (strN (strOf [1] ++ numS q ++ T))) := by
            refine ⟨strN (numS q), by simpa using numS_num q (by omega), ?_⟩
            rw [strN_add, strN_add, HTN.out, strN_strOf [1] (fun c hc => by simp at hc; omega)]
            simp
          clear y1 q1
          go_wp2_with fail
          refine wp_region_noPanic ?_
          refine wp_region_held_drew (S := fun w' => w'.heap[w.heap.size]? = some (.cells #[.int .i64 1, .int .i64 (q : Int), .string t] 47 (0, 0)) ∧ Below w.heap.size w w') (by kernel_rfl) ⟨HROW.out, HB2.out.drew⟩ (fun hS0 => ?_)
          have HS0 := Lib.hid hS0
          clear hS0
          refine take_val 0 (.pointer (some ⟨w.heap.size, 0, none⟩)) rfl (by kernel_rfl) (by kernel_rfl) (by kernel_rfl) (fun _ _ _ _ h => h) (by rfl) rfl (fun wz hS => by go_simp) HS0.out ?_
          try simp only [List.set_cons_zero, List.set_cons_succ]
          refine take_val 1 (.int .i64 1) rfl (by kernel_rfl) (by kernel_rfl) (by kernel_rfl) (fun _ _ _ _ h => h) (by rfl) rfl (fun wz hS => by have hz := cell_of_row _ _ 0 _ _ _ hS.1; simp only [List.getElem?_toArray, List.getElem?_cons_zero] at hz; go_simp) HS0.out ?_
          try simp only [List.set_cons_zero, List.set_cons_succ]
          refine take_val 2 (.int .u8 1) rfl (by kernel_rfl) (by kernel_rfl) (by kernel_rfl) (fun _ _ _ _ h => h) (by rfl) rfl (fun wz hS => by go_simp) HS0.out ?_
          try simp only [List.set_cons_zero, List.set_cons_succ]
          refine take_val 5 (.pointer (some ⟨w.heap.size, 1, none⟩)) rfl (by kernel_rfl) (by kernel_rfl) (by kernel_rfl) (fun _ _ _ _ h => h) (by rfl) rfl (fun wz hS => by go_simp) HS0.out ?_
          try simp only [List.set_cons_zero, List.set_cons_succ]
          refine take_val 6 (.int .i64 (q : Int)) rfl (by kernel_rfl) (by kernel_rfl) (by kernel_rfl) (fun _ _ _ _ h => h) (by rfl) rfl (fun wz hS => by have hz := cell_of_row _ _ 1 _ _ _ hS.1; simp only [List.getElem?_toArray, List.getElem?_cons_zero, List.getElem?_cons_succ] at hz; go_simp) HS0.out ?_
          try simp only [List.set_cons_zero, List.set_cons_succ]
          refine take_val 7 (.int .u64 (q : Int)) rfl (by kernel_rfl) (by kernel_rfl) (by kernel_rfl) (fun _ _ _ _ h => h) (by rfl) rfl (fun wz hS => by go_simp) HS0.out ?_
          try simp only [List.set_cons_zero, List.set_cons_succ]
          refine take_val 10 (.string T) rfl (by kernel_rfl) (by kernel_rfl) (by kernel_rfl) (fun _ _ _ _ h => h) (by rfl) rfl (fun wz hS => by go_simp) HS0.out ?_
          try simp only [List.set_cons_zero, List.set_cons_succ]
          refine wpAnyH_obls (γ := Nat) [3] (fun kx g w' => (kx = 3 → w'.heap[g]? = some (.cells #[.int .u8 1] 5 (0, 0)))) [48, 49, 53, 54, 56, 6] (fun g => [.slice (some ⟨g, 0, none⟩) 1 1, .string (strOf [1]), .string (numS q), .string (strOf [1] ++ numS q), .string (strOf [1] ++ numS q ++ T), .string (strOf [1] ++ numS q ++ T)]) [3, 4, 8, 9, 11, 12] 0 (by kernel_rfl) (by kernel_rfl) (by kernel_rfl) (by kernel_rfl) (by kernel_rfl) (by kernel_rfl) (by decide +kernel) (fun _ _ _ _ h => h) HS0.out ?_ ?_
          · skip
            refine .mk _ 48 [] (by kernel_rfl) rfl rfl (fun g => by kernel_rfl) (fun g u hS hB => ⟨u.heap.size, .slice (some ⟨u.heap.size, 0, none⟩) 1 1, u.alloc (.cells #[.int .u8 1] 5), by simp only [setAll, List.zip_cons_cons, List.zip_nil_right, List.foldl_cons, List.foldl_nil, List.set_cons_zero, List.set_cons_succ]; go_simp, by rfl, ⟨(Below.heap_alloc u _ _ (lt_of_block hS.1)).trans hS.1, hS.2.alloc hS.2.size _⟩, fun _ => heap_alloc_new u _, fun k hk hne _ => absurd (List.mem_singleton.1 hk) hne, fun t ht => (show Differ [48] _ _ by simp only [List.zip_cons_cons, List.zip_nil_right]; repeat (first | exact .nil | refine .same ?_ | refine .diff (by decide) ?_)).get _ _ rfl (fun _ _ => rfl) t ht⟩) ?_
            refine .val _ 49 (fun g => .string (strOf [1])) rfl (by decide) rfl (fun g => by kernel_rfl) (fun g u hS hB => by simp only [setAll, List.zip_cons_cons, List.zip_nil_right, List.foldl_cons, List.foldl_nil, List.set_cons_zero, List.set_cons_succ]; exact conv_run rfl rfl (HK1.out u g (hB 3 (by decide) (by kernel_rfl) rfl))) (fun g => by rfl) ?_
            refine .call _ 53 (.string (numS q)) _ _ rfl (by decide) rfl (fun g => by kernel_rfl) (fun g u hS => by simp only [setAll, List.zip_cons_cons, List.zip_nil_right, List.foldl_cons, List.foldl_nil, List.set_cons_zero, List.set_cons_succ]; go_simp) (fun g u hS => (HP.out q (by omega) u).mono (fun e w' ⟨he, hb⟩ => ⟨he, ⟨(hb.block _ (lt_of_block hS.1)).trans hS.1, Below.step hS.2 hb⟩, fun k _ hk e => (hb.block _ (lt_of_block (hk e))).trans (hk e)⟩)) (fun g => by rfl) ?_
            refine .val _ 54 (fun g => .string (strOf [1] ++ numS q)) rfl (by decide) rfl (fun g => by kernel_rfl) (fun g u hS hB => by simp only [setAll, List.zip_cons_cons, List.zip_nil_right, List.foldl_cons, List.foldl_nil, List.set_cons_zero, List.set_cons_succ]; go_simp) (fun g => by rfl) ?_
            refine .val _ 56 (fun g => .string (strOf [1] ++ numS q ++ T)) rfl (by decide) rfl (fun g => by kernel_rfl) (fun g u hS hB => by simp only [setAll, List.zip_cons_cons, List.zip_nil_right, List.foldl_cons, List.foldl_nil, List.set_cons_zero, List.set_cons_succ]; go_simp) (fun g => by rfl) ?_
            refine .val _ 6 (fun g => .string (strOf [1] ++ numS q ++ T)) rfl (by decide) rfl (fun g => by kernel_rfl) (fun g u hS hB => by simp only [setAll, List.zip_cons_cons, List.zip_nil_right, List.foldl_cons, List.foldl_nil, List.set_cons_zero, List.set_cons_succ]; go_simp) (fun g => by rfl) ?_
            exact .nil
          · intro g u hS hB'
            clear hB'
            refine NoPanic.normal ?_
            simp only [setAll, List.zip_cons_cons, List.zip_nil_right, List.foldl_cons, List.foldl_nil, List.set_cons_zero, List.set_cons_succ]
            have HSE := Lib.hid hS.2
            clear hS
            (try simp only [Exit.then])
            generalize strOf [1] ++ numS q ++ T = R at *
            obtain ⟨d0, d1, d2, d3, d4, d5, d6, d7, hd⟩ := idf_eight (strN R)
            have hdlt : ∀ c ∈ [d0, d1, d2, d3, d4, d5, d6, d7], c < 256 := by rw [← hd]; exact idf_lt _
            have HDL := Lib.hid hdlt
            have HD := Lib.hid hd
            have HID := Lib.hid fun u => id_bC R u (by omega)
            have hbc : bC (be8 (hsum (strN R))) = #[.int .u8 (d0 : Int), .int .u8 (d1 : Int), .int .u8 (d2 : Int), .int .u8 (d3 : Int), .int .u8 (d4 : Int), .int .u8 (d5 : Int), .int .u8 (d6 : Int), .int .u8 (d7 : Int)] := by
              show bC (idf _) = _
              rw [hd]
              rfl
            rw [hbc] at HID
            have h64 : R.size + (strOf [d0, d1, d2, d3, d4, d5, d6, d7]).size ≤ 9223372036854775807 := by rw [strOf_size]; simp; omega
            have HPK : Hid (Packs idf (1, (q : Int), strN t) (strN (R ++ strOf [d0, d1, d2, d3, d4, d5, d6, d7]))) := by
              refine ⟨HOK.out, strN R, HPB.out, ?_⟩
              rw [strN_add, strN_strOf _ HDL.out, HD.out]
            have HSZ : Hid ((R ++ strOf [d0, d1, d2, d3, d4, d5, d6, d7]).size ≤ 2200) := by show _ ≤ _; rw [size_add, strOf_size]; simp; omega
            clear hd hdlt hbc hBz
            go_wp2_with fail
            refine (HID.out _).mono ?_
            rintro e w3 ⟨rfl, hb3⟩
            have HB3 := Lib.hid (Below.step HSE.out hb3)
            clear hb3
            have hcv := conv_front (l := [d0, d1, d2, d3, d4, d5, d6, d7]) (r := []) HDL.out (heap_alloc_new w3 (.cells #[.int .u8 (d0 : Int), .int .u8 (d1 : Int), .int .u8 (d2 : Int), .int .u8 (d3 : Int), .int .u8 (d4 : Int), .int .u8 (d5 : Int), .int .u8 (d6 : Int), .int .u8 (d7 : Int)] 27)) 8
            have HB4 := Lib.hid (HB3.out.alloc HB3.out.size (.cells #[.int .u8 (d0 : Int), .int .u8 (d1 : Int), .int .u8 (d2 : Int), .int .u8 (d3 : Int), .int .u8 (d4 : Int), .int .u8 (d5 : Int), .int .u8 (d6 : Int), .int .u8 (d7 : Int)] 27))
            rw [show ([d0, d1, d2, d3, d4, d5, d6, d7] : List Nat).length = 8 from rfl] at hcv
            go_wp2_with fail
            go_ret2
            exact ⟨.inl ⟨HOK.out, _, HPK.out, HSZ.out, rfl⟩, HB4.out⟩
      · by_cases hz : t.size = 0
        · obtain rfl := str_nil_of' hz
          clear hz
          go_enter Tryd.func17, Tryd.ntmps17
          go_wp2_with fail
          refine (HPT0.out _ (HM.out.below HB1.out)).mono ?_
          rintro e w2 ⟨⟨hbig, rfl⟩ | ⟨hsm, rfl⟩, hb2⟩
          · have HB2 := Lib.hid (Below.step HB1.out hb2)
            have HN : Hid (¬ PkOk (2, (q : Int), strN ⟨#[]⟩)) := fun h => by have h2 : (strN ⟨#[]⟩).length ≤ 1024 := h.2.2.2.2; rw [strN_length] at h2; omega
            clear hbig hb2
            go_wp2_with fail
            go_ret2
            exact ⟨.inr ⟨HN.out, 2, by decide, rfl⟩, HB2.out⟩
          · have HB2 := Lib.hid (Below.step HB1.out hb2)
            have HROW : Hid (w2.heap[w.heap.size]? = some (.cells #[.int .i64 2, .int .i64 (q : Int), .string ⟨#[]⟩] 47 (0, 0))) := (hb2.block _ (by simp)).trans (heap_alloc_new w _)
            have HOK : Hid (PkOk (2, (q : Int), strN ⟨#[]⟩)) := ⟨.inr rfl, by show (0 : Int) ≤ (q : Int); omega, by show (q : Int) ≤ 2000; omega, fun _ => rfl, by show (strN ⟨#[]⟩).length ≤ 1024; rw [strN_length]; omega⟩
            have hyl : (putT (strN ⟨#[]⟩)).length ≤ 2050 := by
              have := putT_length (strN ⟨#[]⟩)
              rw [strN_length] at this
              omega
            have HTL := Lib.hid (putT_lt (strN_lt ⟨#[]⟩))
            obtain ⟨T, hT⟩ : ∃ T, strOf (putT (strN ⟨#[]⟩)) = T := ⟨_, rfl⟩
            have hTN : strN T = putT (strN ⟨#[]⟩) := by rw [← hT, strN_strOf _ HTL.out]
            have hTz : T.size ≤ 2050 := by rw [← strN_length, hTN]; exact hyl
            have HTN := Lib.hid hTN
            rw [hT]
            clear hT hTN hyl hsm hb2
            have HK2 : Hid (∀ (wz : World) (g : Nat), wz.heap[g]? = some (.cells #[.int .u8 2] 5 (0, 0)) → (convert 51 9 (.slice (some ⟨g, 0, none⟩) 1 1)).run Tryd.prog wz = .ok (.string (strOf [2])) wz) := fun wz g hz =>
              conv_front (l := [2]) (r := []) (fun c hc => by simp at hc; omega) hz 1
            have e0 : IntKind.u8.wrap 2 = 2 := rfl
            have e2 : IntKind.u64.wrap (q : Int) = (q : Int) := by
              show (q : Int) % 18446744073709551616 = _
              omega
            have y1 := numS_size q (by omega)
            have q1 : (strOf [2]).size = 1 := by rw [strOf_size]; rfl
            have z1 : (strOf [2]).size + (numS q).size ≤ 9223372036854775807 := by omega
            have z2 : (strOf [2]).size + (numS q).size + T.size ≤ 9223372036854775807 := by omega
            have hBz : (strOf [2] ++ numS q ++ T).size ≤ 2100 := by rw [size_add, size_add]; omega
            have HPB : Hid (PkB (2, (q : Int), strN ⟨#[]⟩) (strN (strOf [2] ++ numS q ++ T))) := by
              refine ⟨strN (numS q), by simpa using numS_num q (by omega), ?_⟩
              rw [strN_add, strN_add, HTN.out, strN_strOf [2] (fun c hc => by simp at hc; omega)]
              simp
            clear y1 q1
            go_wp2_with fail
            refine wp_region_noPanic ?_
            refine wp_region_held_drew (S := fun w' => w'.heap[w.heap.size]? = some (.cells #[.int .i64 2, .int .i64 (q : Int), .string ⟨#[]⟩] 47 (0, 0)) ∧ Below w.heap.size w w') (by kernel_rfl) ⟨HROW.out, HB2.out.drew⟩ (fun hS0 => ?_)
            have HS0 := Lib.hid hS0
            clear hS0
            refine take_val 0 (.pointer (some ⟨w.heap.size, 0, none⟩)) rfl (by kernel_rfl) (by kernel_rfl) (by kernel_rfl) (fun _ _ _ _ h => h) (by rfl) rfl (fun wz hS => by go_simp) HS0.out ?_
            try simp only [List.set_cons_zero, List.set_cons_succ]
            refine take_val 1 (.int .i64 2) rfl (by kernel_rfl) (by kernel_rfl) (by kernel_rfl) (fun _ _ _ _ h => h) (by rfl) rfl (fun wz hS => by have hz := cell_of_row _ _ 0 _ _ _ hS.1; simp only [List.getElem?_toArray, List.getElem?_cons_zero] at hz; go_simp) HS0.out ?_
            try simp only [List.set_cons_zero, List.set_cons_succ]
            refine take_val 2 (.int .u8 2) rfl (by kernel_rfl) (by kernel_rfl) (by kernel_rfl) (fun _ _ _ _ h => h) (by rfl) rfl (fun wz hS => by go_simp) HS0.out ?_
            try simp only [List.set_cons_zero, List.set_cons_succ]
            refine take_val 5 (.pointer (some ⟨w.heap.size, 1, none⟩)) rfl (by kernel_rfl) (by kernel_rfl) (by kernel_rfl) (fun _ _ _ _ h => h) (by rfl) rfl (fun wz hS => by go_simp) HS0.out ?_
            try simp only [List.set_cons_zero, List.set_cons_succ]
            refine take_val 6 (.int .i64 (q : Int)) rfl (by kernel_rfl) (by kernel_rfl) (by kernel_rfl) (fun _ _ _ _ h => h) (by rfl) rfl (fun wz hS => by have hz := cell_of_row _ _ 1 _ _ _ hS.1; simp only [List.getElem?_toArray, List.getElem?_cons_zero, List.getElem?_cons_succ] at hz; go_simp) HS0.out ?_
            try simp only [List.set_cons_zero, List.set_cons_succ]
            refine take_val 7 (.int .u64 (q : Int)) rfl (by kernel_rfl) (by kernel_rfl) (by kernel_rfl) (fun _ _ _ _ h => h) (by rfl) rfl (fun wz hS => by go_simp) HS0.out ?_
            try simp only [List.set_cons_zero, List.set_cons_succ]
            refine take_val 10 (.string T) rfl (by kernel_rfl) (by kernel_rfl) (by kernel_rfl) (fun _ _ _ _ h => h) (by rfl) rfl (fun wz hS => by go_simp) HS0.out ?_
            try simp only [List.set_cons_zero, List.set_cons_succ]
            refine wpAnyH_obls (γ := Nat) [3] (fun kx g w' => (kx = 3 → w'.heap[g]? = some (.cells #[.int .u8 2] 5 (0, 0)))) [48, 49, 53, 54, 56, 6] (fun g => [.slice (some ⟨g, 0, none⟩) 1 1, .string (strOf [2]), .string (numS q), .string (strOf [2] ++ numS q), .string (strOf [2] ++ numS q ++ T), .string (strOf [2] ++ numS q ++ T)]) [3, 4, 8, 9, 11, 12] 0 (by kernel_rfl) (by kernel_rfl) (by kernel_rfl) (by kernel_rfl) (by kernel_rfl) (by kernel_rfl) (by decide +kernel) (fun _ _ _ _ h => h) HS0.out ?_ ?_
            · skip
              refine .mk _ 48 [] (by kernel_rfl) rfl rfl (fun g => by kernel_rfl) (fun g u hS hB => ⟨u.heap.size, .slice (some ⟨u.heap.size, 0, none⟩) 1 1, u.alloc (.cells #[.int .u8 2] 5), by simp only [setAll, List.zip_cons_cons, List.zip_nil_right, List.foldl_cons, List.foldl_nil, List.set_cons_zero, List.set_cons_succ]; go_simp, by rfl, ⟨(Below.heap_alloc u _ _ (lt_of_block hS.1)).trans hS.1, hS.2.alloc hS.2.size _⟩, fun _ => heap_alloc_new u _, fun k hk hne _ => absurd (List.mem_singleton.1 hk) hne, fun t ht => (show Differ [48] _ _ by simp only [List.zip_cons_cons, List.zip_nil_right]; repeat (first | exact .nil | refine .same ?_ | refine .diff (by decide) ?_)).get _ _ rfl (fun _ _ => rfl) t ht⟩) ?_
              refine .val _ 49 (fun g => .string (strOf [2])) rfl (by decide) rfl (fun g => by kernel_rfl) (fun g u hS hB => by simp only [setAll, List.zip_cons_cons, List.zip_nil_right, List.foldl_cons, List.foldl_nil, List.set_cons_zero, List.set_cons_succ]; exact conv_run rfl rfl (HK2.out u g (hB 3 (by decide) (by kernel_rfl) rfl))) (fun g => by rfl) ?_
              refine .call _ 53 (.string (numS q)) _ _ rfl (by decide) rfl (fun g => by kernel_rfl) (fun g u hS => by simp only [setAll, List.zip_cons_cons, List.zip_nil_right, List.foldl_cons, List.foldl_nil, List.set_cons_zero, List.set_cons_succ]; go_simp) (fun g u hS => (HP.out q (by omega) u).mono (fun e w' ⟨he, hb⟩ => ⟨he, ⟨(hb.block _ (lt_of_block hS.1)).trans hS.1, Below.step hS.2 hb⟩, fun k _ hk e => (hb.block _ (lt_of_block (hk e))).trans (hk e)⟩)) (fun g => by rfl) ?_
              refine .val _ 54 (fun g => .string (strOf [2] ++ numS q)) rfl (by decide) rfl (fun g => by kernel_rfl) (fun g u hS hB => by simp only [setAll, List.zip_cons_cons, List.zip_nil_right, List.foldl_cons, List.foldl_nil, List.set_cons_zero, List.set_cons_succ]; go_simp) (fun g => by rfl) ?_
              refine .val _ 56 (fun g => .string (strOf [2] ++ numS q ++ T)) rfl (by decide) rfl (fun g => by kernel_rfl) (fun g u hS hB => by simp only [setAll, List.zip_cons_cons, List.zip_nil_right, List.foldl_cons, List.foldl_nil, List.set_cons_zero, List.set_cons_succ]; go_simp) (fun g => by rfl) ?_
              refine .val _ 6 (fun g => .string (strOf [2] ++ numS q ++ T)) rfl (by decide) rfl (fun g => by kernel_rfl) (fun g u hS hB => by simp only [setAll, List.zip_cons_cons, List.zip_nil_right, List.foldl_cons, List.foldl_nil, List.set_cons_zero, List.set_cons_succ]; go_simp) (fun g => by rfl) ?_
              exact .nil
            · intro g u hS hB'
              clear hB'
              refine NoPanic.normal ?_
              simp only [setAll, List.zip_cons_cons, List.zip_nil_right, List.foldl_cons, List.foldl_nil, List.set_cons_zero, List.set_cons_succ]
              have HSE := Lib.hid hS.2
              clear hS
              (try simp only [Exit.then])
              generalize strOf [2] ++ numS q ++ T = R at *
              obtain ⟨d0, d1, d2, d3, d4, d5, d6, d7, hd⟩ := idf_eight (strN R)
              have hdlt : ∀ c ∈ [d0, d1, d2, d3, d4, d5, d6, d7], c < 256 := by rw [← hd]; exact idf_lt _
              have HDL := Lib.hid hdlt
              have HD := Lib.hid hd
              have HID := Lib.hid fun u => id_bC R u (by omega)
              have hbc : bC (be8 (hsum (strN R))) = #[.int .u8 (d0 : Int), .int .u8 (d1 : Int), .int .u8 (d2 : Int), .int .u8 (d3 : Int), .int .u8 (d4 : Int), .int .u8 (d5 : Int), .int .u8 (d6 : Int), .int .u8 (d7 : Int)] := by
                show bC (idf _) = _
                rw [hd]
                rfl
              rw [hbc] at HID
              have h64 : R.size + (strOf [d0, d1, d2, d3, d4, d5, d6, d7]).size ≤ 9223372036854775807 := by rw [strOf_size]; simp; omega
              have HPK : Hid (Packs idf (2, (q : Int), strN ⟨#[]⟩) (strN (R ++ strOf [d0, d1, d2, d3, d4, d5, d6, d7]))) := by
                refine ⟨HOK.out, strN R, HPB.out, ?_⟩
                rw [strN_add, strN_strOf _ HDL.out, HD.out]
              have HSZ : Hid ((R ++ strOf [d0, d1, d2, d3, d4, d5, d6, d7]).size ≤ 2200) := by show _ ≤ _; rw [size_add, strOf_size]; simp; omega
              clear hd hdlt hbc hBz
              go_wp2_with fail
              refine (HID.out _).mono ?_
              rintro e w3 ⟨rfl, hb3⟩
              have HB3 := Lib.hid (Below.step HSE.out hb3)
              clear hb3
              have hcv := conv_front (l := [d0, d1, d2, d3, d4, d5, d6, d7]) (r := []) HDL.out (heap_alloc_new w3 (.cells #[.int .u8 (d0 : Int), .int .u8 (d1 : Int), .int .u8 (d2 : Int), .int .u8 (d3 : Int), .int .u8 (d4 : Int), .int .u8 (d5 : Int), .int .u8 (d6 : Int), .int .u8 (d7 : Int)] 27)) 8
              have HB4 := Lib.hid (HB3.out.alloc HB3.out.size (.cells #[.int .u8 (d0 : Int), .int .u8 (d1 : Int), .int .u8 (d2 : Int), .int .u8 (d3 : Int), .int .u8 (d4 : Int), .int .u8 (d5 : Int), .int .u8 (d6 : Int), .int .u8 (d7 : Int)] 27))
              rw [show ([d0, d1, d2, d3, d4, d5, d6, d7] : List Nat).length = 8 from rfl] at hcv
              go_wp2_with fail
              go_ret2
              exact ⟨.inl ⟨HOK.out, _, HPK.out, HSZ.out, rfl⟩, HB4.out⟩
        · have hne := isEmpty_false' hz
          have HN : Hid (¬ PkOk (2, (q : Int), strN t)) := fun h => hz (by rw [← strN_length]; exact congrArg List.length (h.2.2.2.1 rfl))
          clear hz
          go_enter Tryd.func17, Tryd.ntmps17
          go_wp2_with fail
          go_ret2
          exact ⟨.inr ⟨HN.out, 1, by decide, rfl⟩, HB1.out⟩
    · have HN : Hid (¬ PkOk (k, q, strN t)) := fun h => hq ⟨h.2.1, h.2.2.1⟩
      have HKK := Lib.hid hk
      clear hk
      by_cases hq0 : q < 0
      · have f1 : decide (q < 0) = true := decide_eq_true hq0
        rcases HKK.out with rfl | rfl
        all_goals go_enter Tryd.func17, Tryd.ntmps17
        all_goals go_wp2_with fail
        all_goals go_ret2
        all_goals exact ⟨.inr ⟨HN.out, 1, by decide, rfl⟩, HB1.out⟩
      · have f1 : decide (q < 0) = false := decide_eq_false hq0
        have f2 : decide (q > 2000) = true := decide_eq_true (by omega)
        rcases HKK.out with rfl | rfl
        all_goals go_enter Tryd.func17, Tryd.ntmps17
        all_goals go_wp2_with fail
        all_goals go_ret2
        all_goals exact ⟨.inr ⟨HN.out, 1, by decide, rfl⟩, HB1.out⟩
  · have HN : Hid (¬ PkOk (k, q, strN t)) := fun h => hk h.1
    have f1 : (k != 1) = true := by simp; exact fun h => hk (.inl h)
    have f2 : (k != 2) = true := by simp; exact fun h => hk (.inr h)
    clear hk
    go_enter Tryd.func17, Tryd.ntmps17
    go_wp2_with fail
    go_ret2
    exact ⟨.inr ⟨HN.out, 5, by decide, rfl⟩, HB1.out⟩
end Go.Proofs.YtinjnclpiiohcaaDoor
