/- The walks of line.decode and line.Read. -/
import Derived.Test.YtinjnclpiiohcaaDoorLineW
import Derived.Test.YtinjnclpiiohcaaDoorStoreNew
namespace Go.Proofs.YtinjnclpiiohcaaDoor
open Go.RowKit Plain
theorem gt_len {s t : List Nat} {k c : Nat} (h : GTEnd s t k c) : t.length ≤ 1024 := by
  by_cases hc : c = 0
  · subst hc; exact h.ok.2.2
  · rcases h with ⟨h, _⟩ | ⟨rfl, _⟩
    · exact absurd h hc
    · simp
theorem pk_one (a b : Int) (s : ByteArray) : (#[.int .i64 a, .int .i64 b, .string s] : Array Value).all (·.oneCell') = true :=
  all_oneCell_toArray (cs := [.int .i64 a, .int .i64 b, .string s]) (by intro v hv; simp only [List.mem_cons, List.not_mem_nil, or_false] at hv; rcases hv with rfl | rfl | rfl <;> rfl)
theorem pk_info : (Tryd.prog.info? 47).map (·.size) = some 3 := by kernel_rfl
def DecEnd (w0 : World) (b : ByteArray) (e : Ending) (w : World) : Prop :=
  ∃ (k q : Int) (t : ByteArray), Dec (strN b) (k, q, strN t) ∧ t.size ≤ 1024 ∧ e = .returned (.agg #[.int .i64 k, .int .i64 q, .string t]) ∧ Below w0.heap.size w0 w
theorem results_pk {fn : Func} {p : Tmp} (h : fn.results = #[.cell p 47]) (tmps : Array Value) (w : World) (g : Nat) (a b : Int) (s : ByteArray) (hp : tmps.getD p undef = .pointer (some ⟨g, 0, none⟩)) (hg : w.heap[g]? = some (.cells #[.int .i64 a, .int .i64 b, .string s] 47 (0, 0))) :
    (results fn tmps).run Tryd.prog w = .ok (.agg #[.int .i64 a, .int .i64 b, .string s]) w := results_row h tmps w g 47 _ (0, 0) _ hp hg Tryd.underlying47 rfl pk_info
set_option maxRecDepth 100000 in
set_option maxHeartbeats 2000000 in
theorem decode_any (s : ByteArray) (hs : s.size ≤ 9223372036854775806) (w : World) : Calls Tryd.prog 38 #[.string s] w (DecEnd w s) := by
  have HON := Lib.hid pk_one
  have HI3 : Hid (∀ (a b : Int) (x : ByteArray), (Tryd.prog.info? 47).map (·.size) = some (#[.int .i64 a, .int .i64 b, .string x] : Array Value).size) := fun _ _ _ => pk_info
  have HA := Lib.hid ((Below.refl w.heap.size w).alloc (Nat.le_refl _) (.cells #[.int .i64 0, .int .i64 0, .string ⟨#[]⟩] 47))
  by_cases h0 : s.size = 0
  · obtain rfl := str_nil_of' h0
    clear h0
    have HD : Hid (Dec (strN ⟨#[]⟩) (0, 0, strN ⟨#[]⟩)) := .inr ⟨.inl rfl, rfl⟩
    go_enter Tryd.func38, Tryd.ntmps38
    go_wp2_with fail
    exact bodyPost_ret (results_pk (p := 2) rfl _ _ w.heap.size 0 0 ⟨#[]⟩ rfl (heap_alloc_new w _)) rfl ⟨0, 0, ⟨#[]⟩, HD.out, by decide, rfl, HA.out⟩
  · have hne := isEmpty_false' h0
    have hp : 0 < s.size := by omega
    have hp1 : (1 : Int) ≤ (s.size : Int) := by omega
    have hp0 : (0 : Int) < (s.size : Int) := by omega
    have hnil : Hid (strN s ≠ []) := fun h => h0 (by rw [← strN_length, h]; rfl)
    obtain ⟨D, hD⟩ : ∃ D, s.extract 1 s.size = D := ⟨_, rfl⟩
    have hDN : strN D = (strN s).drop 1 := by rw [← hD]; exact extract_strN s 1
    have hDS : D.size = s.size - 1 := by rw [← strN_length, hDN, List.length_drop, strN_length]
    have HDN := Lib.hid hDN
    obtain ⟨n, k, c, hg⟩ : ∃ n k c, getN (strN D) = (n, k, c) := ⟨_, _, _, rfl⟩
    have hkb := getN_bound (strN D)
    rw [hg, strN_length] at hkb
    have hk1 : k ≤ D.size := hkb.1
    have hk9 : k ≤ 9 := hkb.2
    have HG : Hid (∀ u, Calls Tryd.prog 29 #[.string D] u fun e w' => e = .returned (.tuple #[.int .u64 (n : Int), .int .i64 (k : Int), .int .i64 (c : Int)]) ∧ u = w') := fun u => by
      have h := get_any D u (by omega)
      unfold GetEnd at h
      rw [hg] at h
      exact h
    have HGN : Hid (getN ((strN s).drop 1) = (n, k, c)) := by show _ = _; rw [← hDN]; exact hg
    obtain ⟨kd, hkd⟩ : ∃ kd, (s[0]'hp).toNat = kd := ⟨_, rfl⟩
    have hkd256 : kd < 256 := by rw [← hkd]; exact UInt8.toNat_lt _
    have HKD : Hid ((strN s).getD 0 0 = kd) := by show _ = _; rw [← byte_at' s 0 hp, hkd]
    clear hg hkb hDN h0
    by_cases hbad : c ≠ 0 ∨ 2000 < n
    · have HD : Hid (Dec (strN s) (0, 0, strN ⟨#[]⟩)) := .inr ⟨.inr (by rw [HGN.out]; exact hbad), rfl⟩
      go_enter Tryd.func38, Tryd.ntmps38
      have HR : Hid ((w.alloc (.cells #[.int .i64 0, .int .i64 0, .string ⟨#[]⟩] 47)).heap[w.heap.size]? = some (.cells #[.int .i64 0, .int .i64 0, .string ⟨#[]⟩] 47 (0, 0))) := heap_alloc_new w _
      have HTH : Hid ((w.alloc (.cells #[.int .i64 0, .int .i64 0, .string ⟨#[]⟩] 47)).there w.heap.size 0 (#[.int .i64 0, .int .i64 0, .string ⟨#[]⟩] : Array Value).size) := there_row HR.out
      rcases hbad with hc | hn
      · have f1 : ((c : Int) != 0) = true := by simp; omega
        clear hc
        go_wp2_with fail
        refine (HG.out _).mono ?_
        rintro e w1 ⟨rfl, rfl⟩
        go_wp2_with (with_reducible refine wpList_store_mid rfl 47 (.tmp 2) (.tmp 25) rfl w.heap.size 0 #[.int .i64 0, .int .i64 0, .string ⟨#[]⟩] rfl rfl HTH.out (HI3.out _ _ _) (HON.out _ _ _) ?_)
        (try simp only [Exit.inBlock, Exit.then])
        exact bodyPost_ret (results_pk (p := 2) rfl _ _ w.heap.size 0 0 ⟨#[]⟩ rfl (setCells_full HR.out #[.int .i64 0, .int .i64 0, .string ⟨#[]⟩] rfl)) rfl ⟨0, 0, ⟨#[]⟩, HD.out, by decide, rfl, below_setCells (Nat.le_refl _) _ _ HA.out⟩
      · by_cases hc : c = 0
        · have f1 : ((c : Int) != 0) = false := by simp; omega
          have f2 : decide ((n : Int) > 2000) = true := decide_eq_true (by omega)
          clear hc hn
          go_wp2_with fail
          refine (HG.out _).mono ?_
          rintro e w1 ⟨rfl, rfl⟩
          go_wp2_with (with_reducible refine wpList_store_mid rfl 47 (.tmp 2) (.tmp 25) rfl w.heap.size 0 #[.int .i64 0, .int .i64 0, .string ⟨#[]⟩] rfl rfl HTH.out (HI3.out _ _ _) (HON.out _ _ _) ?_)
          (try simp only [Exit.inBlock, Exit.then])
          exact bodyPost_ret (results_pk (p := 2) rfl _ _ w.heap.size 0 0 ⟨#[]⟩ rfl (setCells_full HR.out #[.int .i64 0, .int .i64 0, .string ⟨#[]⟩] rfl)) rfl ⟨0, 0, ⟨#[]⟩, HD.out, by decide, rfl, below_setCells (Nat.le_refl _) _ _ HA.out⟩
        · have f1 : ((c : Int) != 0) = true := by simp; omega
          clear hc hn
          go_wp2_with fail
          refine (HG.out _).mono ?_
          rintro e w1 ⟨rfl, rfl⟩
          go_wp2_with (with_reducible refine wpList_store_mid rfl 47 (.tmp 2) (.tmp 25) rfl w.heap.size 0 #[.int .i64 0, .int .i64 0, .string ⟨#[]⟩] rfl rfl HTH.out (HI3.out _ _ _) (HON.out _ _ _) ?_)
          (try simp only [Exit.inBlock, Exit.then])
          exact bodyPost_ret (results_pk (p := 2) rfl _ _ w.heap.size 0 0 ⟨#[]⟩ rfl (setCells_full HR.out #[.int .i64 0, .int .i64 0, .string ⟨#[]⟩] rfl)) rfl ⟨0, 0, ⟨#[]⟩, HD.out, by decide, rfl, below_setCells (Nat.le_refl _) _ _ HA.out⟩
    · have hc : c = 0 := by omega
      have hn : n ≤ 2000 := by omega
      have f1 : ((c : Int) != 0) = false := by simp; omega
      have f2 : decide ((n : Int) > 2000) = false := decide_eq_false (by omega)
      have f3 : IntKind.i64.wrap (1 + (k : Int)) = 1 + (k : Int) := wraps_i64 _ (by omega) (by omega)
      have e3 : (1 + (k : Int)).toNat = 1 + k := by omega
      have e4 : (0 : Int) ≤ 1 + (k : Int) := by omega
      have e5 : 1 + (k : Int) ≤ (s.size : Int) := by omega
      have e6 : IntKind.i64.wrap (n : Int) = (n : Int) := wraps_i64 _ (by omega) (by omega)
      have e7 : IntKind.i64.wrap (kd : Int) = (kd : Int) := wraps_i64 _ (by omega) (by omega)
      obtain ⟨G, hG⟩ : ∃ G, s.extract (1 + k) s.size = G := ⟨_, rfl⟩
      have HGX : Hid (strN G = (strN s).drop (1 + k)) := by show _ = _; rw [← hG]; exact extract_strN s (1 + k)
      have hGS : G.size ≤ 9223372036854775806 := by rw [← strN_length, HGX.out, List.length_drop, strN_length]; omega
      have HGT := Lib.hid fun u => getText_any G u hGS
      have HC := Lib.hid hc
      have HNN := Lib.hid hn
      clear hbad hc hn
      go_enter Tryd.func38, Tryd.ntmps38
      go_wp2_with fail
      refine (HG.out _).mono ?_
      rintro e w1 ⟨rfl, rfl⟩
      go_wp2_with fail
      refine (HGT.out _).mono ?_
      rintro e w2 ⟨t, k2, c2, hgt, htl, rfl, hb2⟩
      have HR : Hid (w2.heap[w.heap.size]? = some (.cells #[.int .i64 0, .int .i64 0, .string ⟨#[]⟩] 47 (0, 0))) := (hb2.block _ (by simp)).trans (heap_alloc_new w _)
      have HTH : Hid (w2.there w.heap.size 0 (#[.int .i64 (kd : Int), .int .i64 (n : Int), .string (strOf t)] : Array Value).size) := (show w2.there w.heap.size 0 3 from there_row HR.out)
      have HB2 := Lib.hid (Below.step HA.out hb2)
      have HD : Hid (Dec (strN s) ((kd : Int), (n : Int), strN (strOf t))) := .inl ⟨k2, c2, hnil.out, by rw [HGN.out]; exact HC.out, by rw [HGN.out]; exact HNN.out, by rw [HGN.out, strN_strOf _ htl, ← HGX.out]; exact hgt, by rw [HKD.out], by rw [HGN.out]⟩
      have HTS : Hid ((strOf t).size ≤ 1024) := by show _ ≤ _; rw [strOf_size]; exact gt_len hgt
      clear hgt htl hb2
      go_wp2_with (with_reducible refine wpList_store_mid rfl 47 (.tmp 2) (.tmp 41) rfl w.heap.size 0 #[.int .i64 (kd : Int), .int .i64 (n : Int), .string (strOf t)] rfl rfl HTH.out (HI3.out _ _ _) (HON.out _ _ _) ?_)
      (try simp only [Exit.inBlock, Exit.then])
      exact bodyPost_ret (results_pk (p := 2) rfl _ _ w.heap.size (kd : Int) (n : Int) (strOf t) rfl (setCells_full HR.out #[.int .i64 (kd : Int), .int .i64 (n : Int), .string (strOf t)] rfl)) rfl ⟨_, _, _, HD.out, HTS.out, rfl, below_setCells (Nat.le_refl _) _ _ HB2.out⟩
def LrEnd (w0 : World) (s : ByteArray) (e : Ending) (w : World) : Prop :=
  ((∃ (k q : Int) (t : ByteArray), Packs idf (k, q, strN t) (strN s) ∧ t.size ≤ 1024 ∧ e = .returned (.tuple #[.agg #[.int .i64 k, .int .i64 q, .string t], .int .i64 0])) ∨
  (∃ c : Nat, c ≠ 0 ∧ e = .returned (.tuple #[.agg #[.int .i64 0, .int .i64 0, .string ⟨#[]⟩], .int .i64 (c : Int)]) ∧ (c = 6 ↔ 8 ≤ s.size ∧ idf ((strN s).take (s.size - 8)) ≠ (strN s).drop (s.size - 8)) ∧ ∀ p, ¬ Packs idf p (strN s))) ∧ Below w0.heap.size w0 w
theorem results_pk1 {fn : Func} {p q : Tmp} (h : fn.results = #[.cell p 47, .tmp q]) (tmps : Array Value) (w : World) (g : Nat) (a b : Int) (s : ByteArray) (hp : tmps.getD p undef = .pointer (some ⟨g, 0, none⟩)) (hg : w.heap[g]? = some (.cells #[.int .i64 a, .int .i64 b, .string s] 47 (0, 0))) :
    (results fn tmps).run Tryd.prog w = .ok (.tuple #[.agg #[.int .i64 a, .int .i64 b, .string s], tmps.getD q undef]) w := results_row_tmp1 h tmps w g 47 _ (0, 0) _ hp hg Tryd.underlying47 rfl pk_info
set_option maxRecDepth 100000 in
set_option maxHeartbeats 4000000 in
theorem lread_any (s : ByteArray) (hs : s.size ≤ 9223372036854775806) (w : World) (hm : MaxC w) : Calls Tryd.prog 18 #[.string s] w (LrEnd w s) := by
  have HM := Lib.hid hm
  have HON := Lib.hid pk_one
  have HI3 : Hid (∀ (a b : Int) (x : ByteArray), (Tryd.prog.info? 47).map (·.size) = some (#[.int .i64 a, .int .i64 b, .string x] : Array Value).size) := fun _ _ _ => pk_info
  have HB0 := Lib.hid ((Below.refl w.heap.size w).alloc (Nat.le_refl _) (.cells #[.int .i64 0, .int .i64 0, .string ⟨#[]⟩] 47))
  have HR0 : Hid ((w.alloc (.cells #[.int .i64 0, .int .i64 0, .string ⟨#[]⟩] 47)).heap[w.heap.size]? = some (.cells #[.int .i64 0, .int .i64 0, .string ⟨#[]⟩] 47 (0, 0))) := heap_alloc_new w _
  clear hm
  by_cases h8 : s.size < 8
  · have f1 : decide ((s.size : Int) < 8) = true := decide_eq_true (by omega)
    have HN : Hid (∀ p, ¬ Packs idf p (strN s)) := fun p h => by
      have := (h.split idf_length).1
      rw [strN_length] at this
      omega
    go_enter Tryd.func18, Tryd.ntmps18
    go_wp2_with fail
    exact bodyPost_ret (results_pk1 (p := 2) (q := 3) rfl _ _ w.heap.size 0 0 ⟨#[]⟩ rfl HR0.out) rfl ⟨.inr ⟨3, by decide, rfl, by constructor <;> omega, HN.out⟩, HB0.out⟩
  · obtain ⟨E, hE⟩ : ∃ E, s.size = E + 8 := ⟨s.size - 8, by omega⟩
    have f1 : decide ((s.size : Int) < 8) = false := decide_eq_false (by omega)
    have f2 : ((s.size : Int) - 8) = (E : Int) := by omega
    have f3 : IntKind.i64.wrap ((s.size : Int) - 8) = (E : Int) := by rw [f2]; exact wraps_i64 _ (by omega) (by omega)
    have f4 : (0 : Int) ≤ (E : Int) := Int.natCast_nonneg _
    have f5 : (E : Int) ≤ (s.size : Int) := by omega
    have f6 : E = s.size - 8 := by omega
    obtain ⟨F, hF⟩ : ∃ F, s.extract 0 E = F := ⟨_, rfl⟩
    obtain ⟨X, hX⟩ : ∃ X, s.extract E s.size = X := ⟨_, rfl⟩
    have hFN : strN F = (strN s).take (s.size - 8) := by rw [← hF, extract_strN', f6]; simp
    have hXN : strN X = (strN s).drop (s.size - 8) := by rw [← hX, extract_strN, f6]
    have hX8 : X.size = 8 := by rw [← strN_length, hXN, List.length_drop, strN_length]; omega
    have hFz : F.size ≤ 9223372036854775806 := by rw [← strN_length, hFN, List.length_take, strN_length]; omega
    have HFN := Lib.hid hFN
    have HXN := Lib.hid hXN
    have HSZ : Hid (8 ≤ s.size) := by show _ ≤ _; omega
    have HX8L : Hid ((strN X).length = 8) := by show _ = _; rw [strN_length]; exact hX8
    have hcv0 := fun (wx : World) => Lib.run_convert_string_bytes (P := Tryd.prog) wx 9 51 5 X Tryd.underlying9 Tryd.underlying51 Tryd.underlying5
    simp only [hX8] at hcv0
    have HCV := Lib.hid hcv0
    have HCD := Lib.hid fun (wx : World) => bytesWorld_below (w := wx) 5 X
    have HAT : Hid (∀ (B cp : Nat) (wz : World), (Instr.arrayAt 27 (.slice (some ⟨B, 0, none⟩) 8 cp)).run Tryd.prog wz = .ok (.pointer (some ⟨B, 0, none⟩)) wz) := fun B cp wz => run_arrayAt wz 27 _ 8 _ 8 cp Tryd.underlying27 (Nat.le_refl _)
    have HIC : Hid ((Tryd.prog.info? 27).map (·.size) = some ((strN X).map bV).length) := by show _ = _; rw [List.length_map, HX8L.out]; kernel_rfl
    have HID : Hid (∀ u, Calls Tryd.prog 37 #[.string F] u fun e w' => e = .returned (.agg (bC (idf (strN F)))) ∧ Below u.heap.size u w') := fun u => id_bC F u (by omega)
    obtain ⟨b, hb⟩ : ∃ b, decide (idf (strN F) = strN X) = b := ⟨_, rfl⟩
    obtain ⟨hn1, hn2⟩ := neqId (idf (strN F)) (strN X) (idf_length _) HX8L.out b hb
    have HN1 := Lib.hid hn1
    have HN2 := Lib.hid hn2
    have HBB := Lib.hid hb
    have HDE := Lib.hid fun u => decode_any F hFz u
    clear hcv0 hn1 hn2 hb hX8 hFN hXN f6 hE
    go_enter Tryd.func18, Tryd.ntmps18
    go_wp2_with fail
    have HRD0 : Hid ((w.alloc (.cells #[.int .i64 0, .int .i64 0, .string ⟨#[]⟩] 47)).drew.heap[w.heap.size]? = some (.cells #[.int .i64 0, .int .i64 0, .string ⟨#[]⟩] 47 (0, 0))) := HR0.out
    generalize (w.alloc (.cells #[.int .i64 0, .int .i64 0, .string ⟨#[]⟩] 47)) = wa at *
    refine wp_region_noPanic ?_
    refine wp_region_held_drew (S := fun w' => Below w.heap.size w w' ∧ w'.heap[w.heap.size]? = some (.cells #[.int .i64 0, .int .i64 0, .string ⟨#[]⟩] 47 (0, 0))) (by kernel_rfl) ⟨HB0.out.drew, HRD0.out⟩ (fun hS0 => ?_)
    have HS0 := Lib.hid hS0
    clear hS0
    refine take_val 0 (.string s) rfl (by kernel_rfl) (by kernel_rfl) (by kernel_rfl) (fun _ _ _ _ h => h) (by rfl) rfl (fun wz hS => by go_simp) HS0.out ?_
    try simp only [List.set_cons_zero, List.set_cons_succ]
    refine take_val 1 (.int .i64 (E : Int)) rfl (by kernel_rfl) (by kernel_rfl) (by kernel_rfl) (fun _ _ _ _ h => h) (by rfl) rfl (fun wz hS => by go_simp) HS0.out ?_
    try simp only [List.set_cons_zero, List.set_cons_succ]
    refine take_val 2 (.string F) rfl (by kernel_rfl) (by kernel_rfl) (by kernel_rfl) (fun _ _ _ _ h => h) (by rfl) rfl (fun wz hS => by go_simp) HS0.out ?_
    try simp only [List.set_cons_zero, List.set_cons_succ]
    refine take_val 4 (.string s) rfl (by kernel_rfl) (by kernel_rfl) (by kernel_rfl) (fun _ _ _ _ h => h) (by rfl) rfl (fun wz hS => by go_simp) HS0.out ?_
    try simp only [List.set_cons_zero, List.set_cons_succ]
    refine take_val 5 (.int .i64 (E : Int)) rfl (by kernel_rfl) (by kernel_rfl) (by kernel_rfl) (fun _ _ _ _ h => h) (by rfl) rfl (fun wz hS => by go_simp) HS0.out ?_
    try simp only [List.set_cons_zero, List.set_cons_succ]
    refine take_val 6 (.string X) rfl (by kernel_rfl) (by kernel_rfl) (by kernel_rfl) (fun _ _ _ _ h => h) (by rfl) rfl (fun wz hS => by go_simp) HS0.out ?_
    try simp only [List.set_cons_zero, List.set_cons_succ]
    refine wpAnyH_obls (γ := Nat × Nat) [7] (fun kx g w' => (kx = 7 → RowB 5 g.1 (strN X) w')) [18, 22, 23, 24, 25] (fun g => [.agg (bC (idf (strN F))), .slice (some ⟨g.1, 0, none⟩) 8 g.2, .pointer (some ⟨g.1, 0, none⟩), .agg (bC (strN X)), .bool !b]) [3, 7, 8, 9, 10] ⟨0, 0⟩ (by kernel_rfl) (by kernel_rfl) (by kernel_rfl) (by kernel_rfl) (by kernel_rfl) (by kernel_rfl) (by decide +kernel) (fun _ _ _ _ h => h) HS0.out ?_ ?_
    · skip
      refine .call _ 18 (.agg (bC (idf (strN F)))) _ _ rfl (by decide) rfl (fun g => by kernel_rfl) (fun g u hS => by simp only [setAll, List.zip_cons_cons, List.zip_nil_right, List.foldl_cons, List.foldl_nil, List.set_cons_zero, List.set_cons_succ]; go_simp) (fun g u hS => (HID.out u).mono (fun e w' ⟨he, hb⟩ => ⟨he, ⟨Below.step hS.1 hb, (hb.block _ (lt_of_block hS.2)).trans hS.2⟩, fun k _ hk e => RowB.below (hk e) hb⟩)) (fun g => by rfl) ?_
      refine .mk _ 22 [23] (by kernel_rfl) rfl rfl (fun g => by kernel_rfl) (fun g u hS hB => ⟨⟨u.heap.size, grownCap u 8 0 5⟩, .slice (some ⟨u.heap.size, 0, none⟩) 8 (grownCap u 8 0 5), Lib.bytesWorld u 5 X, by simp only [setAll, List.zip_cons_cons, List.zip_nil_right, List.foldl_cons, List.foldl_nil, List.set_cons_zero, List.set_cons_succ]; exact conv_run rfl rfl (HCV.out u), by rfl, ⟨Below.step hS.1 (HCD.out u), ((HCD.out u).block _ (lt_of_block hS.2)).trans hS.2⟩, fun _ => RowB.new u _ X, fun k hk hne _ => absurd (List.mem_singleton.1 hk) hne, fun t ht => (show Differ [22, 23] _ _ by simp only [List.zip_cons_cons, List.zip_nil_right]; repeat (first | exact .nil | refine .same ?_ | refine .diff (by decide) ?_)).get _ _ rfl (fun _ _ => rfl) t ht⟩) ?_
      refine .val _ 23 (fun g => .pointer (some ⟨g.1, 0, none⟩)) rfl (by decide) rfl (fun g => by kernel_rfl) (fun g u hS hB => by simp only [setAll, List.zip_cons_cons, List.zip_nil_right, List.foldl_cons, List.foldl_nil, List.set_cons_zero, List.set_cons_succ]; have hat := HAT.out g.1 g.2; go_simp) (fun g => by rfl) ?_
      refine .val _ 24 (fun g => .agg (bC (strN X))) rfl (by decide) rfl (fun g => by kernel_rfl) (fun g u hS hB => by simp only [setAll, List.zip_cons_cons, List.zip_nil_right, List.foldl_cons, List.foldl_nil, List.set_cons_zero, List.set_cons_succ]; exact load_run 27 _ rfl g.1 0 rfl ((strN X).map bV) _ (range_of_crow ((hB 7 (by decide) (by kernel_rfl)) rfl).1) Tryd.underlying27 rfl HIC.out) (fun g => by rfl) ?_
      refine .val _ 25 (fun g => .bool !b) rfl (by decide) rfl (fun g => by kernel_rfl) (fun g u hS hB => by simp only [setAll, List.zip_cons_cons, List.zip_nil_right, List.foldl_cons, List.foldl_nil, List.set_cons_zero, List.set_cons_succ]; exact val_neqId rfl rfl rfl (HN1.out u) (HN2.out _ _ u)) (fun g => by rfl) ?_
      exact .nil
    · intro g u hS hB'
      clear hB'
      refine NoPanic.normal ?_
      simp only [setAll, List.zip_cons_cons, List.zip_nil_right, List.foldl_cons, List.foldl_nil, List.set_cons_zero, List.set_cons_succ]
      (try simp only [Exit.then])
      have HBU := Lib.hid hS.1
      have HRU := Lib.hid hS.2
      clear hS HRD0
      cases b with
      | false =>
        have HNE : Hid (idf ((strN s).take (s.size - 8)) ≠ (strN s).drop (s.size - 8)) := by
          show _ ≠ _
          rw [← HFN.out, ← HXN.out]
          exact of_decide_eq_false HBB.out
        have HN : Hid (∀ p, ¬ Packs idf p (strN s)) := fun p h => by
          have := (h.split idf_length).2.2
          rw [strN_length] at this
          exact HNE.out this
        have HTH : Hid (u.there w.heap.size 0 (#[.int .i64 0, .int .i64 0, .string ⟨#[]⟩] : Array Value).size) := there_row HRU.out
        go_wp2_with (with_reducible refine wpList_store_mid rfl 47 (.tmp 2) (.tmp 26) rfl w.heap.size 0 #[.int .i64 0, .int .i64 0, .string ⟨#[]⟩] rfl rfl HTH.out (HI3.out _ _ _) (HON.out _ _ _) ?_)
        (try simp only [Exit.inBlock, Exit.then])
        exact bodyPost_ret (results_pk1 (p := 2) (q := 3) rfl _ _ w.heap.size 0 0 ⟨#[]⟩ rfl (setCells_full HRU.out #[.int .i64 0, .int .i64 0, .string ⟨#[]⟩] rfl)) rfl ⟨.inr ⟨6, by decide, rfl, ⟨fun _ => ⟨HSZ.out, HNE.out⟩, fun _ => rfl⟩, HN.out⟩, below_setCells (Nat.le_refl _) _ _ HBU.out⟩
      | true =>
        have HEQ : Hid (idf ((strN s).take (s.size - 8)) = (strN s).drop (s.size - 8)) := by
          show _ = _
          rw [← HFN.out, ← HXN.out]
          exact of_decide_eq_true HBB.out
        go_wp2_with fail
        refine (HDE.out _).mono ?_
        rintro e w1 ⟨k, q, t, hd, ht4, rfl, hb1⟩
        have HDC := Lib.hid hd
        have HB1 := Lib.hid (Below.step HBU.out hb1)
        have HR1 := Lib.hid ((hb1.block _ (lt_of_block HRU.out)).trans HRU.out)
        have HB2 := Lib.hid (HB1.out.alloc HB1.out.size (.cells #[.int .i64 k, .int .i64 q, .string t] 47))
        have HPA := Lib.hid (pack_any k q t (by omega) (w1.alloc (.cells #[.int .i64 k, .int .i64 q, .string t] 47)) (HM.out.below HB2.out))
        have HR2 : Hid ((w1.alloc (.cells #[.int .i64 k, .int .i64 q, .string t] 47)).heap[w.heap.size]? = some (.cells #[.int .i64 0, .int .i64 0, .string ⟨#[]⟩] 47 (0, 0))) := (Below.heap_alloc w1 _ _ (lt_of_block HR1.out)).trans HR1.out
        clear hd hb1
        go_wp2_with fail
        refine HPA.out.mono ?_
        rintro e w2 ⟨⟨hok, s2, hs2, hz2, rfl⟩ | ⟨hn, c, hc, rfl⟩, hb2⟩
        · have HB3 := Lib.hid (Below.step HB2.out hb2)
          have HR3 := Lib.hid ((hb2.block _ (lt_of_block HR2.out)).trans HR2.out)
          have HX3 : Hid (w2.heap[w1.heap.size]? = some (.cells #[.int .i64 k, .int .i64 q, .string t] 47 (0, 0))) := (hb2.block _ (by simp)).trans (heap_alloc_new w1 _)
          have HP2 := Lib.hid hs2
          clear hok hs2 hb2 HPA
          by_cases hse : s2 = s
          · subst hse
            have hss : (s2.toList == s2.toList) = true := by simp
            have x0 := cell_of_row _ _ 0 _ _ _ HX3.out
            have x1 := cell_of_row _ _ 1 _ _ _ HX3.out
            have x2 := cell_of_row _ _ 2 _ _ _ HX3.out
            simp only [List.getElem?_toArray, List.getElem?_cons_zero, List.getElem?_cons_succ] at x0 x1 x2
            have HTH : Hid (w2.there w.heap.size 0 (#[.int .i64 k, .int .i64 q, .string t] : Array Value).size) := (show w2.there w.heap.size 0 3 from there_row HR3.out)
            go_wp2_with (with_reducible refine wpList_store_mid rfl 47 (.tmp 2) (.tmp 44) rfl w.heap.size 0 #[.int .i64 k, .int .i64 q, .string t] rfl rfl HTH.out (HI3.out _ _ _) (HON.out _ _ _) ?_)
            (try simp only [Exit.inBlock, Exit.then])
            exact bodyPost_ret (results_pk1 (p := 2) (q := 3) rfl _ _ w.heap.size k q t rfl (setCells_full HR3.out #[.int .i64 k, .int .i64 q, .string t] rfl)) rfl ⟨.inl ⟨k, q, t, HP2.out, ht4, rfl⟩, below_setCells (Nat.le_refl _) _ _ HB3.out⟩
          · have hss : (s2.toList == s.toList) = false := beq_eq_false_iff_ne.2 fun h => hse (ByteArray.ext (Array.toList_inj.1 (by rwa [Lib.toList_data, Lib.toList_data] at h)))
            have HN : Hid (∀ p, ¬ Packs idf p (strN s)) := fun p h => by
              have h1 := (h.split idf_length).2.1
              rw [strN_length, ← HFN.out] at h1
              have h2 := h1.dec h.1 HDC.out
              rw [← h2] at h
              exact hse (strN_inj (HP2.out.unique h))
            clear hse
            have HTH : Hid (w2.there w.heap.size 0 (#[.int .i64 0, .int .i64 0, .string ⟨#[]⟩] : Array Value).size) := there_row HR3.out
            go_wp2_with (with_reducible refine wpList_store_mid rfl 47 (.tmp 2) (.tmp 43) rfl w.heap.size 0 #[.int .i64 0, .int .i64 0, .string ⟨#[]⟩] rfl rfl HTH.out (HI3.out _ _ _) (HON.out _ _ _) ?_)
            (try simp only [Exit.inBlock, Exit.then])
            exact bodyPost_ret (results_pk1 (p := 2) (q := 3) rfl _ _ w.heap.size 0 0 ⟨#[]⟩ rfl (setCells_full HR3.out #[.int .i64 0, .int .i64 0, .string ⟨#[]⟩] rfl)) rfl ⟨.inr ⟨4, by decide, rfl, ⟨fun h => absurd h (by decide), fun h => absurd HEQ.out h.2⟩, HN.out⟩, below_setCells (Nat.le_refl _) _ _ HB3.out⟩
        · have HB3 := Lib.hid (Below.step HB2.out hb2)
          have HR3 := Lib.hid ((hb2.block _ (lt_of_block HR2.out)).trans HR2.out)
          have f9 : (((c : Nat) : Int) != 0) = true := by simpa using hc
          have HN : Hid (∀ p, ¬ Packs idf p (strN s)) := fun p h => by
            have h1 := (h.split idf_length).2.1
            rw [strN_length, ← HFN.out] at h1
            have h2 := h1.dec h.1 HDC.out
            rw [← h2] at h
            exact hn h.1
          clear hn hc hb2 HPA
          have HTH : Hid (w2.there w.heap.size 0 (#[.int .i64 0, .int .i64 0, .string ⟨#[]⟩] : Array Value).size) := there_row HR3.out
          go_wp2_with (with_reducible refine wpList_store_mid rfl 47 (.tmp 2) (.tmp 43) rfl w.heap.size 0 #[.int .i64 0, .int .i64 0, .string ⟨#[]⟩] rfl rfl HTH.out (HI3.out _ _ _) (HON.out _ _ _) ?_)
          (try simp only [Exit.inBlock, Exit.then])
          exact bodyPost_ret (results_pk1 (p := 2) (q := 3) rfl _ _ w.heap.size 0 0 ⟨#[]⟩ rfl (setCells_full HR3.out #[.int .i64 0, .int .i64 0, .string ⟨#[]⟩] rfl)) rfl ⟨.inr ⟨4, by decide, rfl, ⟨fun h => absurd h (by decide), fun h => absurd HEQ.out h.2⟩, HN.out⟩, below_setCells (Nat.le_refl _) _ _ HB3.out⟩
end Go.Proofs.YtinjnclpiiohcaaDoor
